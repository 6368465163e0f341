/- The tied card of NodeForms: for every list of messages the law returns true, and its argument reads behind the call as it read before; the package-level variables that its row lists read as its row says (the tie is given). No condition of ours. -/
import Derived.Test.YtgkhgapkfnkagaaGreatDoorNodeFormsCardCofD
import Derived.Shelf.SlIter.Nil
import Derived.Shelf.SortM.Plain
import Derived.Shelf.SortM.SortNone
import Derived.Ground.GgzProg
import Derived.Ground.SlgmProg
import Derived.Test.YtgkhgapkfnkagaaGreatDoorProg
import Derived.KernelRfl
import Derived.Handed
import Derived.HandedShaped
import Derived.Lay
import Derived.LaidLaws
import Derived.LaidHandle
import Derived.MakeChecks
import Derived.Shelf.Vars
import Derived.ProofKit
import Derived.SevenTiedAt
import Derived.Test.YtgkhgapkfnkagaaGreatDoorRows
import Derived.Test.YtgkhgapkfnkagaaGreatDoorCards
import Derived.Test.YtgkhgapkfnkagaaGreatDoorTie
set_option linter.unusedVariables false
set_option linter.unusedSimpArgs false
/-
  DERIVED: THE SHELF's CONTRACTS AT THIS DUMP, IN PLAIN WORDS (tools/lay-plain.mjs out of 'TrySortedShelf.lean', which tools/lay-shelf.mjs wrote): THE SAME DECLARATIONS UNDER THE SAME NAMES: 'import', 'namespace', 'open', 'def', 'theorem' AND NOTHING ELSE: no command of the shelf's: FOR A HAND-IN. Each laying: the table of numbers ('.._ren') and one theorem, a field a fact of the dump's own or the kernel's comparison; each contract: ONE APPLICATION.
-/
namespace Go.Proofs
open Go.Shelf
def Tryz.keys70_ren:Go.Shelf.Ren:=⟨fun|7=>211|10=>304|n=>n,fun|23=>207|26=>9|3=>9|28=>305|0=>0|27=>304|33=>175|4=>4|n=>n,fun|n=>n⟩
theorem Tryz.keys70:Go.Proofs.SlLaysZ.n7 Tryz.prog Tryz.keys70_ren:={
 mixed:=by kernel_rfl
 f7:=⟨Tryz.f211.name,by decide,Tryz.func211.trans (congrArg some (by kernel_rfl))⟩
 f10:=⟨Tryz.f304.name,by decide,Tryz.func304.trans (congrArg some (by kernel_rfl))⟩
 t0:=Tryz.underlying0
 a0:=Tryz.isAgg0
 z0:=Tryz.sizeOf0
 v0:=Tryz.zeroValue0
 t4:=Tryz.underlying4
 a4:=Tryz.isAgg4
 z4:=Tryz.sizeOf4
 v4:=Tryz.zeroValue4
 t23:=Tryz.underlying207
 a23:=Tryz.isAgg207
 z23:=Tryz.sizeOf207
 v23:=Tryz.zeroValue207
 t26:=Tryz.underlying9
 a26:=Tryz.isAgg9
 z26:=Tryz.sizeOf9
 v26:=Tryz.zeroValue9
 t27:=Tryz.underlying304
 a27:=Tryz.isAgg304
 z27:=Tryz.sizeOf304
 v27:=Tryz.zeroValue304
 t28:=Tryz.underlying305
 a28:=Tryz.isAgg305
 z28:=Tryz.sizeOf305
 v28:=Tryz.zeroValue305
 t33:=Tryz.underlying175
 a33:=Tryz.isAgg175
 z33:=Tryz.sizeOf175
 v33:=Tryz.zeroValue175 }
def Tryz.sorted69_ren:Go.Shelf.Ren:=⟨fun|6=>210|8=>302|9=>303|11=>377|13=>112|12=>378|23=>194|24=>195|14=>428|15=>429|16=>430|17=>431|18=>432|19=>433|20=>434|21=>435|22=>436|25=>466|26=>287|27=>288|28=>467|29=>468|30=>469|31=>490|n=>n,fun|26=>9|28=>305|24=>210|0=>0|3=>3|37=>197|48=>280|50=>282|4=>4|40=>274|39=>273|45=>226|5=>5|9=>9|51=>370|55=>374|57=>438|58=>439|33=>175|n=>n,fun|n=>n⟩
theorem Tryz.sorted69:Go.Proofs.SlLaysZ.n6 Tryz.prog Tryz.sorted69_ren:={
 mixed:=by kernel_rfl
 f6:=⟨Tryz.f210.name,by decide,Tryz.func210.trans (congrArg some (by kernel_rfl))⟩
 f8:=⟨Tryz.f302.name,by decide,Tryz.func302.trans (congrArg some (by kernel_rfl))⟩
 f11:=⟨Tryz.f377.name,by decide,Tryz.func377.trans (congrArg some (by kernel_rfl))⟩
 t0:=Tryz.underlying0
 a0:=Tryz.isAgg0
 z0:=Tryz.sizeOf0
 v0:=Tryz.zeroValue0
 t24:=Tryz.underlying210
 a24:=Tryz.isAgg210
 z24:=Tryz.sizeOf210
 v24:=Tryz.zeroValue210
 t26:=Tryz.underlying9
 a26:=Tryz.isAgg9
 z26:=Tryz.sizeOf9
 v26:=Tryz.zeroValue9
 t28:=Tryz.underlying305
 a28:=Tryz.isAgg305
 z28:=Tryz.sizeOf305
 v28:=Tryz.zeroValue305
 i26:=by kernel_rfl }
def Tryz.sort104_ren:Go.Shelf.Ren:=⟨fun|6=>303|8=>112|9=>378|19=>194|20=>195|21=>428|22=>429|23=>430|24=>431|25=>432|26=>433|27=>434|28=>435|29=>436|36=>466|31=>287|32=>288|37=>467|38=>468|39=>469|41=>490|n=>n,fun|27=>210|29=>9|3=>3|32=>197|26=>210|0=>0|44=>280|46=>282|4=>4|36=>274|35=>273|41=>226|5=>5|9=>9|53=>370|57=>374|63=>438|64=>439|n=>n,fun|n=>n⟩
theorem Tryz.sort104:Go.Proofs.SlLaysM.n6 Tryz.prog Tryz.sort104_ren:={
 mixed:=by kernel_rfl
 f6:=⟨Tryz.f303.name,by decide,Tryz.func303.trans (congrArg some (by kernel_rfl))⟩
 f8:=Tryz.func112.trans (congrArg some (by kernel_rfl))
 f9:=⟨Tryz.f378.name,by decide,Tryz.func378.trans (congrArg some (by kernel_rfl))⟩
 f19:=Tryz.func194.trans (congrArg some (by kernel_rfl))
 f20:=Tryz.func195.trans (congrArg some (by kernel_rfl))
 f21:=⟨Tryz.f428.name,by decide,Tryz.func428.trans (congrArg some (by kernel_rfl))⟩
 f22:=⟨Tryz.f429.name,by decide,Tryz.func429.trans (congrArg some (by kernel_rfl))⟩
 f23:=⟨Tryz.f430.name,by decide,Tryz.func430.trans (congrArg some (by kernel_rfl))⟩
 f24:=⟨Tryz.f431.name,by decide,Tryz.func431.trans (congrArg some (by kernel_rfl))⟩
 f25:=⟨Tryz.f432.name,by decide,Tryz.func432.trans (congrArg some (by kernel_rfl))⟩
 f26:=⟨Tryz.f433.name,by decide,Tryz.func433.trans (congrArg some (by kernel_rfl))⟩
 f27:=⟨Tryz.f434.name,by decide,Tryz.func434.trans (congrArg some (by kernel_rfl))⟩
 f28:=⟨Tryz.f435.name,by decide,Tryz.func435.trans (congrArg some (by kernel_rfl))⟩
 f29:=⟨Tryz.f436.name,by decide,Tryz.func436.trans (congrArg some (by kernel_rfl))⟩
 f31:=Tryz.func287.trans (congrArg some (by kernel_rfl))
 f32:=Tryz.func288.trans (congrArg some (by kernel_rfl))
 f36:=⟨Tryz.f466.name,by decide,Tryz.func466.trans (congrArg some (by kernel_rfl))⟩
 f37:=⟨Tryz.f467.name,by decide,Tryz.func467.trans (congrArg some (by kernel_rfl))⟩
 f38:=⟨Tryz.f468.name,by decide,Tryz.func468.trans (congrArg some (by kernel_rfl))⟩
 f39:=⟨Tryz.f469.name,by decide,Tryz.func469.trans (congrArg some (by kernel_rfl))⟩
 f41:=⟨Tryz.f490.name,by decide,Tryz.func490.trans (congrArg some (by kernel_rfl))⟩
 t0:=Tryz.underlying0
 a0:=Tryz.isAgg0
 z0:=Tryz.sizeOf0
 v0:=Tryz.zeroValue0
 t3:=Tryz.underlying3
 a3:=Tryz.isAgg3
 z3:=Tryz.sizeOf3
 v3:=Tryz.zeroValue3
 t4:=Tryz.underlying4
 a4:=Tryz.isAgg4
 z4:=Tryz.sizeOf4
 v4:=Tryz.zeroValue4
 t5:=Tryz.underlying5
 a5:=Tryz.isAgg5
 z5:=Tryz.sizeOf5
 v5:=Tryz.zeroValue5
 t9:=Tryz.underlying9
 a9:=Tryz.isAgg9
 z9:=Tryz.sizeOf9
 v9:=Tryz.zeroValue9
 t26:=Tryz.underlying210
 a26:=Tryz.isAgg210
 z26:=Tryz.sizeOf210
 v26:=Tryz.zeroValue210
 t27:=Tryz.underlying210
 a27:=Tryz.isAgg210
 z27:=Tryz.sizeOf210
 v27:=Tryz.zeroValue210
 t29:=Tryz.underlying9
 a29:=Tryz.isAgg9
 z29:=Tryz.sizeOf9
 v29:=Tryz.zeroValue9
 t32:=Tryz.underlying197
 a32:=Tryz.isAgg197
 z32:=Tryz.sizeOf197
 v32:=Tryz.zeroValue197
 t35:=Tryz.underlying273
 a35:=Tryz.isAgg273
 z35:=Tryz.sizeOf273
 v35:=Tryz.zeroValue273
 t36:=Tryz.underlying274
 a36:=Tryz.isAgg274
 z36:=Tryz.sizeOf274
 v36:=Tryz.zeroValue274
 t41:=Tryz.underlying226
 a41:=Tryz.isAgg226
 z41:=Tryz.sizeOf226
 v41:=Tryz.zeroValue226
 t44:=Tryz.underlying280
 a44:=Tryz.isAgg280
 z44:=Tryz.sizeOf280
 v44:=Tryz.zeroValue280
 t46:=Tryz.underlying282
 a46:=Tryz.isAgg282
 z46:=Tryz.sizeOf282
 v46:=Tryz.zeroValue282
 t53:=Tryz.underlying370
 a53:=Tryz.isAgg370
 z53:=Tryz.sizeOf370
 v53:=Tryz.zeroValue370
 t57:=Tryz.underlying374
 a57:=Tryz.isAgg374
 z57:=Tryz.sizeOf374
 v57:=Tryz.zeroValue374
 t63:=Tryz.underlying438
 a63:=Tryz.isAgg438
 z63:=Tryz.sizeOf438
 v63:=Tryz.zeroValue438
 t64:=Tryz.underlying439
 a64:=Tryz.isAgg439
 z64:=Tryz.sizeOf439
 v64:=Tryz.zeroValue439 }
open Go.RowKit Go.Maps Go.Sort in
theorem Tryz.sorts69 (m:Nat):AnyZ.SortsIn Tryz.prog Tryz.sorted69_ren Fence.wide m :=
 ⟨fun blk off cap ss W hH hblk hsz=>callsIn_wide.2 (AnyM.slices_Sort_string Tryz.sort104 blk off cap ss W hH hblk hsz),
  fun p cap W=>callsIn_wide.2 (AnyM.slices_Sort_string_none Tryz.sort104 p cap W)⟩
end Go.Proofs
namespace Go.Proofs.YtgkhgapkfnkagaaGreatDoor
open Go Go.Ab Go.RowKit Go.Maps Go.Sort Go.Shelf Go.MapKept
set_option maxRecDepth 100000
theorem srt_ok:∀ avs Lh nx v L' nx',srtE avs Lh nx=some (v,L',nx')→∀ ρ,ACalls Tryz.prog 210 (inAs ρ avs) (inH ρ Lh) (fun av Lo=>∃ ρ',Ext nx nx' ρ ρ'∧av=inA ρ' v∧Lo=inH ρ' L'):=by
 intro avs Lh nx v L' nx' h ρ
 unfold srtE at h
 split at h
 ·rename_i f j
  split at h
  ·rename_i hf
   obtain rfl:=Nat.eq_of_beq_eq_true hf
   split at h
   ·rename_i i hj
    split at h
    ·rename_i hi
     cases h
     intro c vs hc hL0 hs hv
     simp only [inAs,inA,VRt,VR] at hv
     obtain ⟨u,us',hvs,⟨caps,rfl,u1,us1,hcaps,⟨b0,hp,rfl⟩,rfl⟩,rfl⟩:=hv
     obtain ⟨ab,ha,_,hE0⟩:=hp
     have hj':(inH ρ Lh)[j]? = some (.cells [.map i]):=inH_at hj
     have hi':(inH ρ Lh)[i]? = some (.map []):=inH_at hi
     have hb0:=hs.blk j _ hj'
     rw [hE0] at hb0
     simp only [BR] at hb0
     obtain ⟨b0',cur,e0,heq,hh0,hcs⟩:=hb0
     cases heq
     simp only [VRs,VR] at hcs
     obtain ⟨u2,us2,hcur,_,⟨b1,hp1,rfl⟩,rfl⟩:=hcs
     obtain ⟨ab1,_,_,hE1⟩:=hp1
     have hb1:=hs.blk i _ hi'
     rw [hE1] at hb1
     simp only [BR] at hb1
     obtain ⟨b1',ents,clock,heq,hh1,hvme,hborn,hclock⟩:=hb1
     cases heq
     simp only [VME] at hvme
     have hown:c.w0.ownsMap (H:=Unit) Tryz.prog 9 (fun _=>some (.nil,[])) b1 0 (.map ((ents.toList.map (WideElems.rg (H:=Unit) Tryz.prog 9 (fun _=>some (.nil,[])))).foldr DataW.insert [])):=by
      refine ⟨ents,clock,hh1,⟨?_,⟨hclock,?_,?_⟩,?_⟩,?_,rfl⟩
      ·have:ents.size=0:=by rw [← Array.length_toList,hvme];rfl
       omega
      ·exact hborn.imp fun h=>Nat.ne_of_lt h
      ·rw [hvme];exact List.Pairwise.nil
      ·intro x hx;rw [hvme] at hx;cases hx
      ·have:ents.size=0:=by rw [← Array.length_toList,hvme];rfl
       omega
     have hstr:strKeys (H:=Unit) (.map ((ents.toList.map (WideElems.rg (H:=Unit) Tryz.prog 9 (fun _=>some (.nil,[])))).foldr DataW.insert []))=[]:=by rw [hvme];rfl
     have hsize:Maps.size (H:=Unit) (.map ((ents.toList.map (WideElems.rg (H:=Unit) Tryz.prog 9 (fun _=>some (.nil,[])))).foldr DataW.insert []))=0:=by rw [hvme];rfl
     generalize hD:(DataW.map ((ents.toList.map (WideElems.rg (H:=Unit) Tryz.prog 9 (fun _=>some (.nil,[])))).foldr DataW.insert []))=D0 at hown hstr hsize
     have hseq:=AnyZ.keys_gives (ρ:=Tryz.keys70_ren) { Tryz.keys70 with } Fence.wide 2 trivial rfl (by omega) b0 b1 0 D0 c.w0 (by
       have:=(Array.getElem?_eq_some_iff.1 hh0).1
       exact this) (by
       have hc1:cur = #[.map (some b1)]:=by cases cur;simpa using hcur
       simp [World.cell?,hh0,hc1]) hown
     have hcall:=AnyZ.sorted_in Tryz.sorted69 Fence.wide 5 trivial trivial trivial trivial rfl (by omega) (Tryz.sorts69 _) (enters_of Tryz.func303 (by kernel_rfl) rfl) 304 #[.pointer (some ⟨b0,0,none⟩)] trivial (enters_of Tryz.func304 (by kernel_rfl) rfl) _ _ (by rw [hsize];omega) (by rw [hsize];omega) _ hseq
     have hvs':vs = #[.func (.func 304) #[] #[.pointer (some ⟨b0,0,none⟩)]]:=by cases vs;cases caps;simp_all
     rw [hvs']
     refine (callsIn_wide.1 hcall).mono ?_
     rintro e w' ⟨v,ss,rfl,hS,hown2,hnil,hb⟩
     have hss:ss=[]:=by rw [hstr] at hS;exact List.Perm.eq_nil hS
     subst hss
     have h9:Tryz.sorted69_ren.t 26=9:=by rfl
     have hown3:w'.ownsRow c.w0.heap.size 9 1 v 0 []:=by
      rw [h9] at hown2
      simpa using hown2
     exact row_post hc hs (by exact ⟨by decide,by kernel_rfl⟩) hown3 hb
    ·cases h
   ·cases h
  ·cases h
 ·cases h
theorem as2_mem {α:Type} {b:Nat} {x:α}:∀ {l:List (Nat×α)},as2 b l=some x→(b,x)∈l
 | [],h=>by cases (show (none:Option α)=some x from h)
 | p :: r,h=>by
   replace h:(Bool.rec (motive:=fun _=>Option α) (as2 b r) (some p.2) (Nat.beq p.1 b):Option α)=some x:=h
   cases hb:Nat.beq p.1 b with
   | true =>
     rw [hb] at h
     have e:some p.2=some x:=h
     cases e
     rw [← Nat.eq_of_beq_eq_true hb]
     exact List.mem_cons_self
   | false =>
     rw [hb] at h
     exact List.mem_cons_of_mem _ (as2_mem (show as2 b r=some x from h))
theorem orc0Ok:OrcOk Tryz.prog orc0:=by
 intro f g h
 have hm:=as2_mem h
 simp only [List.mem_cons,Prod.mk.injEq,List.mem_nil_iff,or_false,List.not_mem_nil] at hm
 rcases hm with ⟨rfl,rfl⟩|⟨rfl,rfl⟩|⟨rfl,rfl⟩|⟨rfl,rfl⟩|⟨rfl,rfl⟩|⟨rfl,rfl⟩|⟨rfl,rfl⟩|⟨rfl,rfl⟩|⟨rfl,rfl⟩|⟨rfl,rfl⟩|⟨rfl,rfl⟩|⟨rfl,rfl⟩|⟨rfl,rfl⟩|⟨rfl,rfl⟩
 ·exact srt_ok
 ·exact grw_ok
 ·exact grw0_ok
 ·exact cl53_ok
 ·exact cl56_ok
 ·exact cl76_ok
 ·exact cl87_ok
 ·exact cl142_ok
 ·exact cl200_ok
 ·exact cl203_ok
 ·exact cl204_ok
 ·exact cl207_ok
 ·exact cl277_ok
 ·exact cl279_ok
end Go.Proofs.YtgkhgapkfnkagaaGreatDoor
namespace Go.Proofs.YtgkhgapkfnkagaaGreatDoor
open Go Go.Ab Go.RowKit
set_option maxRecDepth 1000000
theorem ttAllE:TrAll (fun t i=>tt t=some i) ttT:=⟨trivial,⟨trivial,⟨(by show tt 3=some ⟨(.int .i64),(.int .i64 0),1,8,false,false⟩;kernel_rfl),⟨trivial,⟨trivial,⟨trivial,⟨trivial,⟨trivial,⟨(by show tt 255=some ⟨(.pointer 82),(.pointer none),1,8,false,false⟩;kernel_rfl),trivial,trivial⟩,trivial⟩,trivial⟩,⟨trivial,trivial,⟨(by show tt 223=some ⟨(.struct #[(Field.mk "Kind" 3 0 false "" "" 0),(Field.mk "Digest" 3 1 false "" "" 8),(Field.mk "Age" 3 2 false "" "" 16),(Field.mk "Tries" 3 3 false "" "" 24)]),(.agg #[.int .i64 0,.int .i64 0,.int .i64 0,.int .i64 0]),4,32,false,false⟩;kernel_rfl),trivial,trivial⟩⟩⟩,⟨(by show tt 47=some ⟨(.slice 40),(.slice none 0 0),1,24,false,false⟩;kernel_rfl),⟨(by show tt 79=some ⟨(.slice 294),(.slice none 0 0),1,24,false,false⟩;kernel_rfl),⟨(by show tt 143=some ⟨(.complex .f64),(.complex .f64 0 0),1,16,false,false⟩;kernel_rfl),trivial,trivial⟩,⟨(by show tt 207=some ⟨(.map 9 9),(.map none),1,8,false,false⟩;kernel_rfl),trivial,trivial⟩⟩,⟨trivial,trivial,⟨trivial,trivial,⟨(by show tt 495=some ⟨(.struct #[(Field.mk "b" 172 0 false "" "drover/wire" 0),(Field.mk "bad" 4 1 false "" "drover/wire" 24)]),(.agg #[.slice none 0 0,.bool false]),2,32,false,false⟩;kernel_rfl),trivial,trivial⟩⟩⟩⟩⟩,⟨(by show tt 23=some ⟨(.pointer 59),(.pointer none),1,8,false,false⟩;kernel_rfl),⟨(by show tt 39=some ⟨(.struct #[(Field.mk "Header" 38 0 false "" "" 0),(Field.mk "Digest" 3 4 false "" "" 64),(Field.mk "Signers" 36 5 false "" "" 72)]),(.agg #[.int .i64 0,.int .i64 0,.slice none 0 0,.slice none 0 0,.int .i64 0,.slice none 0 0]),6,96,false,false⟩;kernel_rfl),⟨(by show tt 71=some ⟨(.struct #[(Field.mk "Nodes" 3 0 false "" "" 0),(Field.mk "Low" 3 1 false "" "" 8),(Field.mk "Certs" 47 2 false "" "" 16)]),(.agg #[.int .i64 0,.int .i64 0,.slice none 0 0]),3,40,false,false⟩;kernel_rfl),⟨(by show tt 135=some ⟨(.struct #[(Field.mk "Digest" 3 0 false "" "" 0),(Field.mk "Batch" 35 1 false "" "" 8)]),(.agg #[.int .i64 0,.int .i64 0,.int .i64 0,.slice none 0 0]),4,48,false,false⟩;kernel_rfl),⟨(by show tt 263=some ⟨(.struct #[(Field.mk "Worker" 68 0 true "" "" 0),(Field.mk "out" 22 9 false "" "drover/worker" 136)]),(.agg #[.int .i64 0,.int .i64 0,.int .i64 0,.slice none 0 0,.int .i64 0,.int .i64 0,.slice none 0 0,.slice none 0 0,.slice none 0 0,.slice none 0 0]),10,160,false,false⟩;kernel_rfl),trivial,trivial⟩,trivial⟩,trivial⟩,⟨trivial,⟨(by show tt 167=some ⟨(.map 9 176),(.map none),1,8,false,false⟩;kernel_rfl),trivial,trivial⟩,trivial⟩⟩,⟨(by show tt 55=some ⟨(.map 9 3),(.map none),1,8,false,false⟩;kernel_rfl),⟨(by show tt 87=some ⟨(.struct #[(Field.mk "state" 86 0 true "" "drover/node" 0),(Field.mk "id" 3 37 false "" "drover/node" 568),(Field.mk "n" 3 38 false "" "drover/node" 576),(Field.mk "b" 23 39 false "" "drover/node" 584),(Field.mk "s" 61 40 false "" "drover/node" 592),(Field.mk "lost" 4 41 false "" "drover/node" 600)]),(.agg #[.int .i64 0,.int .i64 0,.int .i64 0,.slice none 0 0,.int .i64 0,.int .i64 0,.slice none 0 0,.slice none 0 0,.slice none 0 0,.int .i64 0,.int .i64 0,.int .i64 0,.int .i64 0,.int .i64 0,.int .i64 0,.int .i64 0,.slice none 0 0,.slice none 0 0,.int .i64 0,.slice none 0 0,.slice none 0 0,.int .i64 0,.int .i64 0,.slice none 0 0,.slice none 0 0,.int .i64 0,.int .i64 0,.slice none 0 0,.int .i64 0,.slice none 0 0,.int .i64 0,.slice none 0 0,.slice none 0 0,.slice none 0 0,.int .i64 0,.slice none 0 0,.slice none 0 0,.int .i64 0,.int .i64 0,.pointer none,.pointer none,.bool false]),42,608,false,false⟩;kernel_rfl),trivial,trivial⟩,trivial⟩⟩⟩,⟨trivial,⟨trivial,⟨(by show tt 35=some ⟨(.struct #[(Field.mk "Author" 3 0 false "" "" 0),(Field.mk "N" 3 1 false "" "" 8),(Field.mk "Txs" 33 2 false "" "" 16)]),(.agg #[.int .i64 0,.int .i64 0,.slice none 0 0]),3,40,false,false⟩;kernel_rfl),⟨(by show tt 67=some ⟨(.struct #[(Field.mk "ID" 3 0 false "" "" 0),(Field.mk "Nodes" 3 1 false "" "" 8),(Field.mk "Next" 3 2 false "" "" 16),(Field.mk "Open" 33 3 false "" "" 24),(Field.mk "Age" 3 4 false "" "" 48),(Field.mk "Clock" 3 5 false "" "" 56),(Field.mk "Waits" 65 6 false "" "" 64),(Field.mk "Held" 66 7 false "" "" 88),(Field.mk "Ready" 36 8 false "" "" 112)]),(.agg #[.int .i64 0,.int .i64 0,.int .i64 0,.slice none 0 0,.int .i64 0,.int .i64 0,.slice none 0 0,.slice none 0 0,.slice none 0 0]),9,136,false,false⟩;kernel_rfl),⟨(by show tt 131=some ⟨(.struct #[(Field.mk "votes" 69 0 false "" "drover/node" 0),(Field.mk "certs" 47 1 false "" "drover/node" 24),(Field.mk "held" 66 2 false "" "drover/node" 48),(Field.mk "mine" 38 3 false "" "drover/node" 72),(Field.mk "d" 3 7 false "" "drover/node" 136)]),(.agg #[.slice none 0 0,.slice none 0 0,.slice none 0 0,.int .i64 0,.int .i64 0,.slice none 0 0,.slice none 0 0,.int .i64 0]),8,144,false,false⟩;kernel_rfl),trivial,trivial⟩,⟨trivial,trivial,⟨(by show tt 451=some ⟨(.pointer 495),(.pointer none),1,8,false,false⟩;kernel_rfl),trivial,trivial⟩⟩⟩,⟨trivial,⟨(by show tt 163=some ⟨(.map 3 4),(.map none),1,8,false,false⟩;kernel_rfl),trivial,trivial⟩,trivial⟩⟩,⟨(by show tt 51=some ⟨(.struct #[(Field.mk "Sender" 3 0 false "" "" 0),(Field.mk "Seq" 3 1 false "" "" 8),(Field.mk "Key" 9 2 false "" "" 16),(Field.mk "Val" 9 3 false "" "" 32)]),(.agg #[.int .i64 0,.int .i64 0,.string (ByteArray.mk #[]),.string (ByteArray.mk #[])]),4,48,false,false⟩;kernel_rfl),⟨(by show tt 83=some ⟨(.struct #[(Field.mk "Table" 82 0 false "" "" 0),(Field.mk "Seen" 36 2 false "" "" 48),(Field.mk "Count" 3 3 false "" "" 72)]),(.agg #[.slice none 0 0,.slice none 0 0,.slice none 0 0,.int .i64 0]),4,80,false,false⟩;kernel_rfl),⟨(by show tt 147=some ⟨(.struct #[(Field.mk "Round" 3 0 false "" "" 0),(Field.mk "Author" 3 1 false "" "" 8),(Field.mk "Digest" 3 2 false "" "" 16)]),(.agg #[.int .i64 0,.int .i64 0,.int .i64 0]),3,24,false,false⟩;kernel_rfl),trivial,trivial⟩,trivial⟩,⟨trivial,⟨(by show tt 179=some ⟨(.struct #[(Field.mk "safe" 172 0 false "" "drover/disk" 0),(Field.mk "seen" 172 1 false "" "drover/disk" 24)]),(.agg #[.slice none 0 0,.slice none 0 0]),2,48,true,false⟩;kernel_rfl),trivial,trivial⟩,⟨(by show tt 243=some ⟨(.struct #[(Field.mk "Primary" 73 0 true "" "" 0),(Field.mk "out" 22 16 false "" "drover/primary" 224)]),(.agg #[.int .i64 0,.int .i64 0,.int .i64 0,.int .i64 0,.int .i64 0,.int .i64 0,.int .i64 0,.slice none 0 0,.slice none 0 0,.int .i64 0,.slice none 0 0,.slice none 0 0,.int .i64 0,.int .i64 0,.slice none 0 0,.slice none 0 0,.slice none 0 0]),17,248,false,false⟩;kernel_rfl),trivial,⟨(by show tt 499=some ⟨(.pointer 523),(.pointer none),1,8,false,false⟩;kernel_rfl),trivial,trivial⟩⟩⟩⟩⟩,⟨trivial,⟨trivial,⟨(by show tt 75=some ⟨(.struct #[(Field.mk "ID" 3 0 false "" "" 0),(Field.mk "Nodes" 3 1 false "" "" 8),(Field.mk "Rows" 74 2 false "" "" 16)]),(.agg #[.int .i64 0,.int .i64 0,.slice none 0 0]),3,40,false,false⟩;kernel_rfl),⟨trivial,⟨trivial,⟨(by show tt 523=some ⟨(.struct #[(Field.mk "Func" 9 0 false "" "" 0),(Field.mk "Num" 9 1 false "" "" 16),(Field.mk "Err" 396 2 false "" "" 32)]),(.agg #[.string (ByteArray.mk #[]),.string (ByteArray.mk #[]),.nilIface]),3,48,false,false⟩;kernel_rfl),trivial,trivial⟩,trivial⟩,trivial⟩,⟨trivial,⟨(by show tt 331=some ⟨(.map 148 4),(.map none),1,8,false,false⟩;kernel_rfl),trivial,trivial⟩,trivial⟩⟩,⟨trivial,⟨(by show tt 171=some ⟨(.struct #[(Field.mk "power" 169 0 true "" "drover/disk" 0),(Field.mk "files" 167 3 false "" "drover/disk" 24)]),(.agg #[.int .i64 0,.bool false,.int .i64 0,.map none]),4,32,false,false⟩;kernel_rfl),⟨(by show tt 299=some ⟨(.struct #[(Field.mk "d" 29 0 false "" "drover/log" 0),(Field.mk "l" 210 1 false "" "drover/log" 8),(Field.mk "size" 3 2 false "" "drover/log" 32),(Field.mk "file" 4 3 false "" "drover/log" 40),(Field.mk "dead" 4 4 false "" "drover/log" 41)]),(.agg #[.pointer none,.slice none 0 0,.int .i64 0,.bool false,.bool false]),5,48,false,false⟩;kernel_rfl),trivial,trivial⟩,trivial⟩,trivial⟩⟩,⟨(by show tt 59=some ⟨(.struct #[(Field.mk "numbers" 55 0 false "" "drover/book" 0),(Field.mk "things" 57 1 false "" "drover/book" 8),(Field.mk "signs" 56 2 false "" "drover/book" 32)]),(.agg #[.map none,.slice none 0 0,.map none]),3,40,false,false⟩;kernel_rfl),⟨trivial,⟨trivial,⟨trivial,⟨(by show tt 539=some ⟨(.struct #[(Field.mk "s" 9 0 false "" "errors" 0)]),(.agg #[.string (ByteArray.mk #[])]),1,16,false,false⟩;kernel_rfl),trivial,trivial⟩,trivial⟩,trivial⟩,trivial⟩,⟨trivial,trivial,⟨(by show tt 251=some ⟨(.slice 36),(.slice none 0 0),1,24,false,false⟩;kernel_rfl),trivial,trivial⟩⟩⟩⟩⟩⟩,⟨(by show tt 5=some ⟨(.int .u8),(.int .u8 0),1,1,false,false⟩;kernel_rfl),⟨(by show tt 9=some ⟨(.string),(.string (ByteArray.mk #[])),1,16,false,false⟩;kernel_rfl),⟨trivial,⟨(by show tt 33=some ⟨(.slice 52),(.slice none 0 0),1,24,false,false⟩;kernel_rfl),⟨(by show tt 65=some ⟨(.slice 165),(.slice none 0 0),1,24,false,false⟩;kernel_rfl),trivial,⟨trivial,⟨(by show tt 321=some ⟨(.float .f64),(.float .f64 0),1,8,false,false⟩;kernel_rfl),trivial,trivial⟩,trivial⟩⟩,trivial⟩,⟨trivial,⟨(by show tt 81=some ⟨(.struct #[(Field.mk "Pairs" 79 0 false "" "" 0),(Field.mk "Accounts" 80 1 false "" "" 24)]),(.agg #[.slice none 0 0,.slice none 0 0]),2,48,false,false⟩;kernel_rfl),⟨trivial,⟨(by show tt 273=some ⟨(.int .i64),(.int .i64 0),1,8,false,false⟩;kernel_rfl),trivial,trivial⟩,trivial⟩,⟨(by show tt 209=some ⟨(.struct #[(Field.mk "l" 204 0 false "" "drover/keep" 0),(Field.mk "pairs" 207 1 false "" "drover/keep" 8),(Field.mk "size" 3 2 false "" "drover/keep" 16),(Field.mk "dead" 4 3 false "" "drover/keep" 24)]),(.agg #[.pointer none,.map none,.int .i64 0,.bool false]),4,32,false,false⟩;kernel_rfl),trivial,trivial⟩⟩,⟨trivial,trivial,⟨(by show tt 241=some ⟨(.pointer 243),(.pointer none),1,8,false,false⟩;kernel_rfl),trivial,trivial⟩⟩⟩⟩,⟨(by show tt 25=some ⟨(.pointer 88),(.pointer none),1,8,false,false⟩;kernel_rfl),⟨(by show tt 41=some ⟨(.struct #[(Field.mk "Kind" 3 0 false "" "" 0),(Field.mk "From" 3 1 false "" "" 8),(Field.mk "To" 3 2 false "" "" 16),(Field.mk "Digest" 3 3 false "" "" 24),(Field.mk "Batch" 35 4 false "" "" 32),(Field.mk "Header" 38 7 false "" "" 72),(Field.mk "Cert" 40 11 false "" "" 136),(Field.mk "Digests" 36 17 false "" "" 232)]),(.agg #[.int .i64 0,.int .i64 0,.int .i64 0,.int .i64 0,.int .i64 0,.int .i64 0,.slice none 0 0,.int .i64 0,.int .i64 0,.slice none 0 0,.slice none 0 0,.int .i64 0,.int .i64 0,.slice none 0 0,.slice none 0 0,.int .i64 0,.slice none 0 0,.slice none 0 0]),18,256,false,false⟩;kernel_rfl),⟨(by show tt 73=some ⟨(.struct #[(Field.mk "ID" 3 0 false "" "" 0),(Field.mk "Nodes" 3 1 false "" "" 8),(Field.mk "Round" 3 2 false "" "" 16),(Field.mk "Age" 3 3 false "" "" 24),(Field.mk "Said" 3 4 false "" "" 32),(Field.mk "Mine" 38 5 false "" "" 40),(Field.mk "Digest" 3 9 false "" "" 104),(Field.mk "Acks" 36 10 false "" "" 112),(Field.mk "Votes" 69 11 false "" "" 136),(Field.mk "Dag" 71 12 false "" "" 160),(Field.mk "Late" 47 15 false "" "" 200)]),(.agg #[.int .i64 0,.int .i64 0,.int .i64 0,.int .i64 0,.int .i64 0,.int .i64 0,.int .i64 0,.slice none 0 0,.slice none 0 0,.int .i64 0,.slice none 0 0,.slice none 0 0,.int .i64 0,.int .i64 0,.slice none 0 0,.slice none 0 0]),16,224,false,false⟩;kernel_rfl),trivial,trivial⟩,⟨trivial,⟨(by show tt 169=some ⟨(.struct #[(Field.mk "calls" 3 0 false "" "drover/disk" 0),(Field.mk "off" 4 1 false "" "drover/disk" 8),(Field.mk "until" 3 2 false "" "drover/disk" 16)]),(.agg #[.int .i64 0,.bool false,.int .i64 0]),3,24,false,false⟩;kernel_rfl),⟨(by show tt 297=some ⟨(.struct #[(Field.mk "Sender" 3 0 false "" "" 0),(Field.mk "Seq" 3 1 false "" "" 8)]),(.agg #[.int .i64 0,.int .i64 0]),2,16,false,false⟩;kernel_rfl),trivial,trivial⟩,trivial⟩,⟨(by show tt 233=some ⟨(.struct #[(Field.mk "who" 3 0 false "" "drover/book" 0),(Field.mk "d" 3 1 false "" "drover/book" 8)]),(.agg #[.int .i64 0,.int .i64 0]),2,16,false,false⟩;kernel_rfl),trivial,trivial⟩⟩⟩,⟨(by show tt 57=some ⟨(.slice 172),(.slice none 0 0),1,24,false,false⟩;kernel_rfl),⟨trivial,⟨trivial,⟨trivial,⟨(by show tt 537=some ⟨(.pointer 5),(.pointer none),1,8,false,false⟩;kernel_rfl),trivial,trivial⟩,trivial⟩,trivial⟩,trivial⟩,⟨(by show tt 121=some ⟨(.pointer 209),(.pointer none),1,8,false,false⟩;kernel_rfl),trivial,trivial⟩⟩⟩⟩,⟨trivial,⟨(by show tt 21=some ⟨(.int .i32),(.int .i32 0),1,4,false,false⟩;kernel_rfl),⟨(by show tt 37=some ⟨(.struct #[(Field.mk "Author" 3 0 false "" "" 0),(Field.mk "Round" 3 1 false "" "" 8),(Field.mk "Batches" 36 2 false "" "" 16),(Field.mk "Parents" 36 3 false "" "" 40)]),(.agg #[.int .i64 0,.int .i64 0,.slice none 0 0,.slice none 0 0]),4,64,false,false⟩;kernel_rfl),⟨(by show tt 69=some ⟨(.slice 148),(.slice none 0 0),1,24,false,false⟩;kernel_rfl),trivial,⟨(by show tt 197=some ⟨(.int .u64),(.int .u64 0),1,8,false,false⟩;kernel_rfl),trivial,trivial⟩⟩,⟨trivial,⟨(by show tt 165=some ⟨(.struct #[(Field.mk "Digest" 3 0 false "" "" 0),(Field.mk "Acks" 36 1 false "" "" 8)]),(.agg #[.int .i64 0,.slice none 0 0]),2,32,false,false⟩;kernel_rfl),⟨(by show tt 293=some ⟨(.struct #[(Field.mk "Key" 9 0 false "" "" 0),(Field.mk "Val" 9 1 false "" "" 16)]),(.agg #[.string (ByteArray.mk #[]),.string (ByteArray.mk #[])]),2,32,false,false⟩;kernel_rfl),trivial,trivial⟩,trivial⟩,trivial⟩⟩,⟨trivial,⟨(by show tt 85=some ⟨(.struct #[(Field.mk "w" 68 0 false "" "drover/node" 0),(Field.mk "p" 73 9 false "" "drover/node" 136),(Field.mk "f" 76 25 false "" "drover/node" 360),(Field.mk "c" 78 28 false "" "drover/node" 400),(Field.mk "x" 84 31 false "" "drover/node" 440),(Field.mk "outs" 36 35 false "" "drover/node" 520),(Field.mk "over" 36 36 false "" "drover/node" 544)]),(.agg #[.int .i64 0,.int .i64 0,.int .i64 0,.slice none 0 0,.int .i64 0,.int .i64 0,.slice none 0 0,.slice none 0 0,.slice none 0 0,.int .i64 0,.int .i64 0,.int .i64 0,.int .i64 0,.int .i64 0,.int .i64 0,.int .i64 0,.slice none 0 0,.slice none 0 0,.int .i64 0,.slice none 0 0,.slice none 0 0,.int .i64 0,.int .i64 0,.slice none 0 0,.slice none 0 0,.int .i64 0,.int .i64 0,.slice none 0 0,.int .i64 0,.slice none 0 0,.int .i64 0,.slice none 0 0,.slice none 0 0,.slice none 0 0,.int .i64 0,.slice none 0 0,.slice none 0 0]),37,568,false,false⟩;kernel_rfl),trivial,trivial⟩,⟨trivial,trivial,⟨(by show tt 245=some ⟨(.struct #[(Field.mk "d" 71 0 false "" "drover/cursor" 0),(Field.mk "c" 78 3 false "" "drover/cursor" 40),(Field.mk "outs" 36 6 false "" "drover/cursor" 80)]),(.agg #[.int .i64 0,.int .i64 0,.slice none 0 0,.int .i64 0,.slice none 0 0,.int .i64 0,.slice none 0 0]),7,104,false,false⟩;kernel_rfl),trivial,trivial⟩⟩⟩⟩,⟨(by show tt 29=some ⟨(.pointer 171),(.pointer none),1,8,false,false⟩;kernel_rfl),⟨trivial,⟨(by show tt 77=some ⟨(.struct #[(Field.mk "Round" 3 0 false "" "" 0),(Field.mk "Done" 36 1 false "" "" 8),(Field.mk "Count" 3 2 false "" "" 32)]),(.agg #[.int .i64 0,.slice none 0 0,.int .i64 0]),3,40,false,false⟩;kernel_rfl),trivial,trivial⟩,⟨trivial,⟨(by show tt 173=some ⟨(.struct #[(Field.mk "Name" 9 0 false "" "" 0),(Field.mk "Data" 172 1 false "" "" 16)]),(.agg #[.string (ByteArray.mk #[]),.slice none 0 0]),2,40,false,false⟩;kernel_rfl),trivial,trivial⟩,trivial⟩⟩,⟨(by show tt 61=some ⟨(.pointer 125),(.pointer none),1,8,false,false⟩;kernel_rfl),trivial,⟨(by show tt 125=some ⟨(.struct #[(Field.mk "k" 121 0 false "" "drover/node" 0),(Field.mk "wrote" 4 1 false "" "drover/node" 8)]),(.agg #[.pointer none,.bool false]),2,16,false,false⟩;kernel_rfl),trivial,trivial⟩⟩⟩⟩⟩⟩,⟨(by show tt 2=some ⟨(.int .i64),(.int .i64 0),1,8,false,false⟩;kernel_rfl),⟨(by show tt 4=some ⟨(.bool),(.bool false),1,1,false,false⟩;kernel_rfl),⟨trivial,⟨trivial,⟨trivial,trivial,⟨trivial,⟨trivial,⟨(by show tt 288=some ⟨(.pointer 223),(.pointer none),1,8,false,false⟩;kernel_rfl),trivial,trivial⟩,trivial⟩,trivial⟩⟩,⟨trivial,⟨(by show tt 80=some ⟨(.slice 297),(.slice none 0 0),1,24,false,false⟩;kernel_rfl),trivial,⟨(by show tt 208=some ⟨(.struct #[(Field.mk "l" 204 0 false "" "drover/keep" 0),(Field.mk "pairs" 207 1 false "" "drover/keep" 8),(Field.mk "size" 3 2 false "" "drover/keep" 16),(Field.mk "dead" 4 3 false "" "drover/keep" 24)]),(.agg #[.pointer none,.map none,.int .i64 0,.bool false]),4,32,false,false⟩;kernel_rfl),trivial,trivial⟩⟩,⟨trivial,⟨(by show tt 176=some ⟨(.pointer 179),(.pointer none),1,8,false,false⟩;kernel_rfl),trivial,⟨(by show tt 432=some ⟨(.array 17 4),(.agg #[.bool false,.bool false,.bool false,.bool false,.bool false,.bool false,.bool false,.bool false,.bool false,.bool false,.bool false,.bool false,.bool false,.bool false,.bool false,.bool false,.bool false]),17,17,false,false⟩;kernel_rfl),trivial,trivial⟩⟩,⟨trivial,trivial,⟨(by show tt 496=some ⟨(.int .i64),(.int .i64 0),1,8,false,false⟩;kernel_rfl),trivial,trivial⟩⟩⟩⟩⟩,⟨trivial,⟨(by show tt 40=some ⟨(.struct #[(Field.mk "Header" 38 0 false "" "" 0),(Field.mk "Digest" 3 4 false "" "" 64),(Field.mk "Signers" 36 5 false "" "" 72)]),(.agg #[.int .i64 0,.int .i64 0,.slice none 0 0,.slice none 0 0,.int .i64 0,.slice none 0 0]),6,96,false,false⟩;kernel_rfl),⟨(by show tt 72=some ⟨(.struct #[(Field.mk "ID" 3 0 false "" "" 0),(Field.mk "Nodes" 3 1 false "" "" 8),(Field.mk "Round" 3 2 false "" "" 16),(Field.mk "Age" 3 3 false "" "" 24),(Field.mk "Said" 3 4 false "" "" 32),(Field.mk "Mine" 38 5 false "" "" 40),(Field.mk "Digest" 3 9 false "" "" 104),(Field.mk "Acks" 36 10 false "" "" 112),(Field.mk "Votes" 69 11 false "" "" 136),(Field.mk "Dag" 71 12 false "" "" 160),(Field.mk "Late" 47 15 false "" "" 200)]),(.agg #[.int .i64 0,.int .i64 0,.int .i64 0,.int .i64 0,.int .i64 0,.int .i64 0,.int .i64 0,.slice none 0 0,.slice none 0 0,.int .i64 0,.slice none 0 0,.slice none 0 0,.int .i64 0,.int .i64 0,.slice none 0 0,.slice none 0 0]),16,224,false,false⟩;kernel_rfl),⟨trivial,⟨(by show tt 264=some ⟨(.struct #[(Field.mk "Worker" 68 0 true "" "" 0),(Field.mk "out" 22 9 false "" "drover/worker" 136)]),(.agg #[.int .i64 0,.int .i64 0,.int .i64 0,.slice none 0 0,.int .i64 0,.int .i64 0,.slice none 0 0,.slice none 0 0,.slice none 0 0,.slice none 0 0]),10,160,false,false⟩;kernel_rfl),trivial,trivial⟩,trivial⟩,trivial⟩,⟨trivial,⟨(by show tt 168=some ⟨(.struct #[(Field.mk "calls" 3 0 false "" "drover/disk" 0),(Field.mk "off" 4 1 false "" "drover/disk" 8),(Field.mk "until" 3 2 false "" "drover/disk" 16)]),(.agg #[.int .i64 0,.bool false,.int .i64 0]),3,24,false,false⟩;kernel_rfl),⟨(by show tt 296=some ⟨(.struct #[(Field.mk "Sender" 3 0 false "" "" 0),(Field.mk "Seq" 3 1 false "" "" 8)]),(.agg #[.int .i64 0,.int .i64 0]),2,16,false,false⟩;kernel_rfl),trivial,trivial⟩,trivial⟩,trivial⟩⟩,⟨(by show tt 56=some ⟨(.map 234 4),(.map none),1,8,false,false⟩;kernel_rfl),⟨(by show tt 88=some ⟨(.struct #[(Field.mk "state" 86 0 true "" "drover/node" 0),(Field.mk "id" 3 37 false "" "drover/node" 568),(Field.mk "n" 3 38 false "" "drover/node" 576),(Field.mk "b" 23 39 false "" "drover/node" 584),(Field.mk "s" 61 40 false "" "drover/node" 592),(Field.mk "lost" 4 41 false "" "drover/node" 600)]),(.agg #[.int .i64 0,.int .i64 0,.int .i64 0,.slice none 0 0,.int .i64 0,.int .i64 0,.slice none 0 0,.slice none 0 0,.slice none 0 0,.int .i64 0,.int .i64 0,.int .i64 0,.int .i64 0,.int .i64 0,.int .i64 0,.int .i64 0,.slice none 0 0,.slice none 0 0,.int .i64 0,.slice none 0 0,.slice none 0 0,.int .i64 0,.int .i64 0,.slice none 0 0,.slice none 0 0,.int .i64 0,.int .i64 0,.slice none 0 0,.int .i64 0,.slice none 0 0,.int .i64 0,.slice none 0 0,.slice none 0 0,.slice none 0 0,.int .i64 0,.slice none 0 0,.slice none 0 0,.int .i64 0,.int .i64 0,.pointer none,.pointer none,.bool false]),42,608,false,false⟩;kernel_rfl),⟨trivial,⟨(by show tt 280=some ⟨(.int .u32),(.int .u32 0),1,4,false,false⟩;kernel_rfl),trivial,trivial⟩,trivial⟩,trivial⟩,trivial⟩⟩⟩,⟨(by show tt 12=some ⟨(.int .u64),(.int .u64 0),1,8,false,false⟩;kernel_rfl),⟨trivial,⟨(by show tt 36=some ⟨(.slice 3),(.slice none 0 0),1,24,false,false⟩;kernel_rfl),⟨(by show tt 68=some ⟨(.struct #[(Field.mk "ID" 3 0 false "" "" 0),(Field.mk "Nodes" 3 1 false "" "" 8),(Field.mk "Next" 3 2 false "" "" 16),(Field.mk "Open" 33 3 false "" "" 24),(Field.mk "Age" 3 4 false "" "" 48),(Field.mk "Clock" 3 5 false "" "" 56),(Field.mk "Waits" 65 6 false "" "" 64),(Field.mk "Held" 66 7 false "" "" 88),(Field.mk "Ready" 36 8 false "" "" 112)]),(.agg #[.int .i64 0,.int .i64 0,.int .i64 0,.slice none 0 0,.int .i64 0,.int .i64 0,.slice none 0 0,.slice none 0 0,.slice none 0 0]),9,136,false,false⟩;kernel_rfl),⟨trivial,⟨trivial,⟨(by show tt 516=some ⟨(.pointer 169),(.pointer none),1,8,false,false⟩;kernel_rfl),trivial,trivial⟩,trivial⟩,trivial⟩,⟨trivial,trivial,⟨(by show tt 452=some ⟨(.slice 374),(.slice none 0 0),1,24,false,false⟩;kernel_rfl),trivial,trivial⟩⟩⟩,⟨trivial,⟨(by show tt 164=some ⟨(.struct #[(Field.mk "Digest" 3 0 false "" "" 0),(Field.mk "Acks" 36 1 false "" "" 8)]),(.agg #[.int .i64 0,.slice none 0 0]),2,32,false,false⟩;kernel_rfl),trivial,trivial⟩,trivial⟩⟩,⟨(by show tt 52=some ⟨(.struct #[(Field.mk "Sender" 3 0 false "" "" 0),(Field.mk "Seq" 3 1 false "" "" 8),(Field.mk "Key" 9 2 false "" "" 16),(Field.mk "Val" 9 3 false "" "" 32)]),(.agg #[.int .i64 0,.int .i64 0,.string (ByteArray.mk #[]),.string (ByteArray.mk #[])]),4,48,false,false⟩;kernel_rfl),⟨(by show tt 84=some ⟨(.struct #[(Field.mk "Table" 82 0 false "" "" 0),(Field.mk "Seen" 36 2 false "" "" 48),(Field.mk "Count" 3 3 false "" "" 72)]),(.agg #[.slice none 0 0,.slice none 0 0,.slice none 0 0,.int .i64 0]),4,80,false,false⟩;kernel_rfl),⟨(by show tt 148=some ⟨(.struct #[(Field.mk "Round" 3 0 false "" "" 0),(Field.mk "Author" 3 1 false "" "" 8),(Field.mk "Digest" 3 2 false "" "" 16)]),(.agg #[.int .i64 0,.int .i64 0,.int .i64 0]),3,24,false,false⟩;kernel_rfl),trivial,trivial⟩,trivial⟩,⟨trivial,trivial,⟨(by show tt 244=some ⟨(.pointer 246),(.pointer none),1,8,false,false⟩;kernel_rfl),trivial,trivial⟩⟩⟩⟩,⟨trivial,⟨trivial,⟨(by show tt 76=some ⟨(.struct #[(Field.mk "ID" 3 0 false "" "" 0),(Field.mk "Nodes" 3 1 false "" "" 8),(Field.mk "Rows" 74 2 false "" "" 16)]),(.agg #[.int .i64 0,.int .i64 0,.slice none 0 0]),3,40,false,false⟩;kernel_rfl),trivial,⟨(by show tt 204=some ⟨(.pointer 299),(.pointer none),1,8,false,false⟩;kernel_rfl),trivial,trivial⟩⟩,⟨trivial,⟨(by show tt 172=some ⟨(.slice 5),(.slice none 0 0),1,24,false,false⟩;kernel_rfl),trivial,trivial⟩,trivial⟩⟩,⟨trivial,⟨trivial,⟨trivial,⟨trivial,⟨(by show tt 540=some ⟨(.struct #[(Field.mk "s" 9 0 false "" "errors" 0)]),(.agg #[.string (ByteArray.mk #[])]),1,16,false,false⟩;kernel_rfl),trivial,trivial⟩,trivial⟩,trivial⟩,trivial⟩,⟨(by show tt 124=some ⟨(.struct #[(Field.mk "k" 121 0 false "" "drover/node" 0),(Field.mk "wrote" 4 1 false "" "drover/node" 8)]),(.agg #[.pointer none,.bool false]),2,16,false,false⟩;kernel_rfl),⟨trivial,⟨(by show tt 316=some ⟨(.map 3 3),(.map none),1,8,false,false⟩;kernel_rfl),trivial,trivial⟩,trivial⟩,trivial⟩⟩⟩⟩⟩,⟨trivial,⟨trivial,⟨trivial,⟨(by show tt 34=some ⟨(.struct #[(Field.mk "Author" 3 0 false "" "" 0),(Field.mk "N" 3 1 false "" "" 8),(Field.mk "Txs" 33 2 false "" "" 16)]),(.agg #[.int .i64 0,.int .i64 0,.slice none 0 0]),3,40,false,false⟩;kernel_rfl),⟨(by show tt 66=some ⟨(.slice 135),(.slice none 0 0),1,24,false,false⟩;kernel_rfl),⟨(by show tt 130=some ⟨(.struct #[(Field.mk "votes" 69 0 false "" "drover/node" 0),(Field.mk "certs" 47 1 false "" "drover/node" 24),(Field.mk "held" 66 2 false "" "drover/node" 48),(Field.mk "mine" 38 3 false "" "drover/node" 72),(Field.mk "d" 3 7 false "" "drover/node" 136)]),(.agg #[.slice none 0 0,.slice none 0 0,.slice none 0 0,.int .i64 0,.int .i64 0,.slice none 0 0,.slice none 0 0,.int .i64 0]),8,144,false,false⟩;kernel_rfl),trivial,trivial⟩,trivial⟩,⟨trivial,⟨trivial,⟨(by show tt 290=some ⟨(.slice 22),(.slice none 0 0),1,24,false,false⟩;kernel_rfl),trivial,trivial⟩,trivial⟩,trivial⟩⟩,⟨trivial,⟨(by show tt 82=some ⟨(.struct #[(Field.mk "Pairs" 79 0 false "" "" 0),(Field.mk "Accounts" 80 1 false "" "" 24)]),(.agg #[.slice none 0 0,.slice none 0 0]),2,48,false,false⟩;kernel_rfl),trivial,⟨(by show tt 210=some ⟨(.slice 9),(.slice none 0 0),1,24,false,false⟩;kernel_rfl),trivial,trivial⟩⟩,⟨trivial,⟨(by show tt 178=some ⟨(.struct #[(Field.mk "safe" 172 0 false "" "drover/disk" 0),(Field.mk "seen" 172 1 false "" "drover/disk" 24)]),(.agg #[.slice none 0 0,.slice none 0 0]),2,48,false,false⟩;kernel_rfl),trivial,trivial⟩,⟨(by show tt 242=some ⟨(.struct #[(Field.mk "Primary" 73 0 true "" "" 0),(Field.mk "out" 22 16 false "" "drover/primary" 224)]),(.agg #[.int .i64 0,.int .i64 0,.int .i64 0,.int .i64 0,.int .i64 0,.int .i64 0,.int .i64 0,.slice none 0 0,.slice none 0 0,.int .i64 0,.slice none 0 0,.slice none 0 0,.int .i64 0,.int .i64 0,.slice none 0 0,.slice none 0 0,.slice none 0 0]),17,248,false,false⟩;kernel_rfl),⟨(by show tt 370=some ⟨(.int .u64),(.int .u64 0),1,8,false,false⟩;kernel_rfl),trivial,trivial⟩,trivial⟩⟩⟩⟩,⟨(by show tt 26=some ⟨(.int .i64),(.int .i64 0),1,8,false,false⟩;kernel_rfl),⟨(by show tt 42=some ⟨(.struct #[(Field.mk "Kind" 3 0 false "" "" 0),(Field.mk "From" 3 1 false "" "" 8),(Field.mk "To" 3 2 false "" "" 16),(Field.mk "Digest" 3 3 false "" "" 24),(Field.mk "Batch" 35 4 false "" "" 32),(Field.mk "Header" 38 7 false "" "" 72),(Field.mk "Cert" 40 11 false "" "" 136),(Field.mk "Digests" 36 17 false "" "" 232)]),(.agg #[.int .i64 0,.int .i64 0,.int .i64 0,.int .i64 0,.int .i64 0,.int .i64 0,.slice none 0 0,.int .i64 0,.int .i64 0,.slice none 0 0,.slice none 0 0,.int .i64 0,.int .i64 0,.slice none 0 0,.slice none 0 0,.int .i64 0,.slice none 0 0,.slice none 0 0]),18,256,false,false⟩;kernel_rfl),⟨(by show tt 74=some ⟨(.slice 223),(.slice none 0 0),1,24,false,false⟩;kernel_rfl),⟨trivial,⟨trivial,⟨(by show tt 522=some ⟨(.struct #[(Field.mk "Func" 9 0 false "" "" 0),(Field.mk "Num" 9 1 false "" "" 16),(Field.mk "Err" 396 2 false "" "" 32)]),(.agg #[.string (ByteArray.mk #[]),.string (ByteArray.mk #[]),.nilIface]),3,48,false,false⟩;kernel_rfl),trivial,trivial⟩,trivial⟩,trivial⟩,trivial⟩,⟨trivial,⟨(by show tt 170=some ⟨(.struct #[(Field.mk "power" 169 0 true "" "drover/disk" 0),(Field.mk "files" 167 3 false "" "drover/disk" 24)]),(.agg #[.int .i64 0,.bool false,.int .i64 0,.map none]),4,32,false,false⟩;kernel_rfl),⟨(by show tt 298=some ⟨(.struct #[(Field.mk "d" 29 0 false "" "drover/log" 0),(Field.mk "l" 210 1 false "" "drover/log" 8),(Field.mk "size" 3 2 false "" "drover/log" 32),(Field.mk "file" 4 3 false "" "drover/log" 40),(Field.mk "dead" 4 4 false "" "drover/log" 41)]),(.agg #[.pointer none,.slice none 0 0,.int .i64 0,.bool false,.bool false]),5,48,false,false⟩;kernel_rfl),trivial,trivial⟩,trivial⟩,⟨(by show tt 234=some ⟨(.struct #[(Field.mk "who" 3 0 false "" "drover/book" 0),(Field.mk "d" 3 1 false "" "drover/book" 8)]),(.agg #[.int .i64 0,.int .i64 0]),2,16,false,false⟩;kernel_rfl),trivial,trivial⟩⟩⟩,⟨(by show tt 58=some ⟨(.struct #[(Field.mk "numbers" 55 0 false "" "drover/book" 0),(Field.mk "things" 57 1 false "" "drover/book" 8),(Field.mk "signs" 56 2 false "" "drover/book" 32)]),(.agg #[.map none,.slice none 0 0,.map none]),3,40,false,false⟩;kernel_rfl),⟨trivial,⟨trivial,⟨(by show tt 282=some ⟨(.int .u64),(.int .u64 0),1,8,false,false⟩;kernel_rfl),⟨(by show tt 538=some ⟨(.pointer 540),(.pointer none),1,8,false,false⟩;kernel_rfl),trivial,trivial⟩,trivial⟩,trivial⟩,trivial⟩,trivial⟩⟩⟩,⟨trivial,⟨(by show tt 22=some ⟨(.slice 42),(.slice none 0 0),1,24,false,false⟩;kernel_rfl),⟨(by show tt 38=some ⟨(.struct #[(Field.mk "Author" 3 0 false "" "" 0),(Field.mk "Round" 3 1 false "" "" 8),(Field.mk "Batches" 36 2 false "" "" 16),(Field.mk "Parents" 36 3 false "" "" 40)]),(.agg #[.int .i64 0,.int .i64 0,.slice none 0 0,.slice none 0 0]),4,64,false,false⟩;kernel_rfl),⟨(by show tt 70=some ⟨(.struct #[(Field.mk "Nodes" 3 0 false "" "" 0),(Field.mk "Low" 3 1 false "" "" 8),(Field.mk "Certs" 47 2 false "" "" 16)]),(.agg #[.int .i64 0,.int .i64 0,.slice none 0 0]),3,40,false,false⟩;kernel_rfl),⟨(by show tt 134=some ⟨(.struct #[(Field.mk "Digest" 3 0 false "" "" 0),(Field.mk "Batch" 35 1 false "" "" 8)]),(.agg #[.int .i64 0,.int .i64 0,.int .i64 0,.slice none 0 0]),4,48,false,false⟩;kernel_rfl),⟨(by show tt 262=some ⟨(.pointer 264),(.pointer none),1,8,false,false⟩;kernel_rfl),trivial,trivial⟩,trivial⟩,trivial⟩,⟨trivial,⟨(by show tt 166=some ⟨(.slice 174),(.slice none 0 0),1,24,false,false⟩;kernel_rfl),⟨(by show tt 294=some ⟨(.struct #[(Field.mk "Key" 9 0 false "" "" 0),(Field.mk "Val" 9 1 false "" "" 16)]),(.agg #[.string (ByteArray.mk #[]),.string (ByteArray.mk #[])]),2,32,false,false⟩;kernel_rfl),trivial,trivial⟩,trivial⟩,trivial⟩⟩,⟨trivial,⟨(by show tt 86=some ⟨(.struct #[(Field.mk "w" 68 0 false "" "drover/node" 0),(Field.mk "p" 73 9 false "" "drover/node" 136),(Field.mk "f" 76 25 false "" "drover/node" 360),(Field.mk "c" 78 28 false "" "drover/node" 400),(Field.mk "x" 84 31 false "" "drover/node" 440),(Field.mk "outs" 36 35 false "" "drover/node" 520),(Field.mk "over" 36 36 false "" "drover/node" 544)]),(.agg #[.int .i64 0,.int .i64 0,.int .i64 0,.slice none 0 0,.int .i64 0,.int .i64 0,.slice none 0 0,.slice none 0 0,.slice none 0 0,.int .i64 0,.int .i64 0,.int .i64 0,.int .i64 0,.int .i64 0,.int .i64 0,.int .i64 0,.slice none 0 0,.slice none 0 0,.int .i64 0,.slice none 0 0,.slice none 0 0,.int .i64 0,.int .i64 0,.slice none 0 0,.slice none 0 0,.int .i64 0,.int .i64 0,.slice none 0 0,.int .i64 0,.slice none 0 0,.int .i64 0,.slice none 0 0,.slice none 0 0,.slice none 0 0,.int .i64 0,.slice none 0 0,.slice none 0 0]),37,568,false,false⟩;kernel_rfl),trivial,trivial⟩,⟨trivial,⟨trivial,trivial,⟨(by show tt 438=some ⟨(.pointer 370),(.pointer none),1,8,false,false⟩;kernel_rfl),trivial,trivial⟩⟩,⟨(by show tt 246=some ⟨(.struct #[(Field.mk "d" 71 0 false "" "drover/cursor" 0),(Field.mk "c" 78 3 false "" "drover/cursor" 40),(Field.mk "outs" 36 6 false "" "drover/cursor" 80)]),(.agg #[.int .i64 0,.int .i64 0,.slice none 0 0,.int .i64 0,.slice none 0 0,.int .i64 0,.slice none 0 0]),7,104,false,false⟩;kernel_rfl),⟨(by show tt 374=some ⟨(.pointer 3),(.pointer none),1,8,false,false⟩;kernel_rfl),trivial,trivial⟩,trivial⟩⟩⟩⟩,⟨trivial,⟨trivial,⟨(by show tt 78=some ⟨(.struct #[(Field.mk "Round" 3 0 false "" "" 0),(Field.mk "Done" 36 1 false "" "" 8),(Field.mk "Count" 3 2 false "" "" 32)]),(.agg #[.int .i64 0,.slice none 0 0,.int .i64 0]),3,40,false,false⟩;kernel_rfl),trivial,trivial⟩,⟨trivial,⟨(by show tt 174=some ⟨(.struct #[(Field.mk "Name" 9 0 false "" "" 0),(Field.mk "Data" 172 1 false "" "" 16)]),(.agg #[.string (ByteArray.mk #[]),.slice none 0 0]),2,40,false,false⟩;kernel_rfl),trivial,trivial⟩,⟨trivial,trivial,⟨(by show tt 494=some ⟨(.struct #[(Field.mk "b" 172 0 false "" "drover/wire" 0),(Field.mk "bad" 4 1 false "" "drover/wire" 24)]),(.agg #[.slice none 0 0,.bool false]),2,32,false,false⟩;kernel_rfl),trivial,trivial⟩⟩⟩⟩,⟨(by show tt 62=some ⟨(.pointer 131),(.pointer none),1,8,false,false⟩;kernel_rfl),⟨trivial,trivial,⟨(by show tt 222=some ⟨(.struct #[(Field.mk "Kind" 3 0 false "" "" 0),(Field.mk "Digest" 3 1 false "" "" 8),(Field.mk "Age" 3 2 false "" "" 16),(Field.mk "Tries" 3 3 false "" "" 24)]),(.agg #[.int .i64 0,.int .i64 0,.int .i64 0,.int .i64 0]),4,32,false,false⟩;kernel_rfl),trivial,trivial⟩⟩,trivial⟩⟩⟩⟩⟩⟩
theorem ttEOk:TTok Tryz.prog ttE:=⟨fun t i h=>ttOk t i (tgT_ok ttAllE h),fun t i h=>ttOk.sz t i (tgT_ok ttAllE h)⟩
theorem zEOk:ZOok ttE:=fun t i h=>zOk t i (tgT_ok ttAllE h)
theorem flAllE:TrAll (fun f fn=>Tryz.prog.funcs[f]? = some fn) flT:=⟨trivial,⟨trivial,⟨Tryz.func3,⟨Tryz.func7,⟨Tryz.func15,⟨Tryz.func31,⟨Tryz.func63,⟨Tryz.func127,⟨Tryz.func255,trivial,trivial⟩,⟨Tryz.func383,trivial,trivial⟩⟩,⟨Tryz.func191,⟨Tryz.func319,trivial,trivial⟩,⟨Tryz.func447,trivial,trivial⟩⟩⟩,⟨Tryz.func95,⟨Tryz.func159,⟨Tryz.func287,trivial,trivial⟩,⟨Tryz.func415,trivial,trivial⟩⟩,⟨Tryz.func223,⟨Tryz.func351,trivial,trivial⟩,⟨Tryz.func479,trivial,trivial⟩⟩⟩⟩,⟨Tryz.func47,⟨Tryz.func79,⟨Tryz.func143,⟨Tryz.func271,trivial,trivial⟩,⟨Tryz.func399,trivial,trivial⟩⟩,⟨Tryz.func207,⟨Tryz.func335,trivial,trivial⟩,⟨Tryz.func463,trivial,trivial⟩⟩⟩,⟨Tryz.func111,⟨Tryz.func175,⟨Tryz.func303,trivial,trivial⟩,⟨Tryz.func431,trivial,trivial⟩⟩,⟨Tryz.func239,⟨Tryz.func367,trivial,trivial⟩,⟨Tryz.func495,trivial,trivial⟩⟩⟩⟩⟩,⟨Tryz.func23,⟨Tryz.func39,⟨Tryz.func71,⟨Tryz.func135,⟨Tryz.func263,trivial,trivial⟩,⟨Tryz.func391,trivial,trivial⟩⟩,⟨Tryz.func199,⟨Tryz.func327,trivial,trivial⟩,⟨Tryz.func455,trivial,trivial⟩⟩⟩,⟨Tryz.func103,⟨Tryz.func167,⟨Tryz.func295,trivial,trivial⟩,⟨Tryz.func423,trivial,trivial⟩⟩,⟨Tryz.func231,⟨Tryz.func359,trivial,trivial⟩,⟨Tryz.func487,trivial,trivial⟩⟩⟩⟩,⟨Tryz.func55,⟨Tryz.func87,⟨Tryz.func151,⟨Tryz.func279,trivial,trivial⟩,trivial⟩,⟨Tryz.func215,⟨Tryz.func343,trivial,trivial⟩,⟨Tryz.func471,trivial,trivial⟩⟩⟩,⟨Tryz.func119,⟨Tryz.func183,⟨Tryz.func311,trivial,trivial⟩,⟨Tryz.func439,trivial,trivial⟩⟩,⟨Tryz.func247,⟨Tryz.func375,trivial,trivial⟩,trivial⟩⟩⟩⟩⟩,⟨Tryz.func11,⟨Tryz.func19,⟨Tryz.func35,⟨Tryz.func67,⟨Tryz.func131,⟨Tryz.func259,trivial,trivial⟩,⟨Tryz.func387,trivial,trivial⟩⟩,⟨Tryz.func195,⟨Tryz.func323,trivial,trivial⟩,⟨Tryz.func451,trivial,trivial⟩⟩⟩,⟨Tryz.func99,⟨Tryz.func163,⟨Tryz.func291,trivial,trivial⟩,⟨Tryz.func419,trivial,trivial⟩⟩,⟨Tryz.func227,⟨Tryz.func355,trivial,trivial⟩,⟨Tryz.func483,trivial,trivial⟩⟩⟩⟩,⟨Tryz.func51,⟨Tryz.func83,⟨Tryz.func147,⟨Tryz.func275,trivial,trivial⟩,⟨Tryz.func403,trivial,trivial⟩⟩,⟨Tryz.func211,⟨Tryz.func339,trivial,trivial⟩,⟨Tryz.func467,trivial,trivial⟩⟩⟩,⟨Tryz.func115,⟨Tryz.func179,⟨Tryz.func307,trivial,trivial⟩,⟨Tryz.func435,trivial,trivial⟩⟩,⟨Tryz.func243,⟨Tryz.func371,trivial,trivial⟩,trivial⟩⟩⟩⟩,⟨Tryz.func27,⟨Tryz.func43,⟨Tryz.func75,⟨Tryz.func139,⟨Tryz.func267,trivial,trivial⟩,⟨Tryz.func395,trivial,trivial⟩⟩,⟨Tryz.func203,⟨Tryz.func331,trivial,trivial⟩,⟨Tryz.func459,trivial,trivial⟩⟩⟩,⟨Tryz.func107,⟨Tryz.func171,⟨Tryz.func299,trivial,trivial⟩,⟨Tryz.func427,trivial,trivial⟩⟩,⟨Tryz.func235,⟨Tryz.func363,trivial,trivial⟩,⟨Tryz.func491,trivial,trivial⟩⟩⟩⟩,⟨Tryz.func59,⟨Tryz.func91,⟨Tryz.func155,⟨Tryz.func283,trivial,trivial⟩,⟨Tryz.func411,trivial,trivial⟩⟩,⟨Tryz.func219,⟨Tryz.func347,trivial,trivial⟩,⟨Tryz.func475,trivial,trivial⟩⟩⟩,⟨Tryz.func123,⟨Tryz.func187,⟨Tryz.func315,trivial,trivial⟩,⟨Tryz.func443,trivial,trivial⟩⟩,⟨Tryz.func251,⟨Tryz.func379,trivial,trivial⟩,trivial⟩⟩⟩⟩⟩⟩,⟨Tryz.func5,⟨Tryz.func9,⟨Tryz.func17,⟨Tryz.func33,⟨Tryz.func65,⟨Tryz.func129,⟨Tryz.func257,trivial,trivial⟩,⟨Tryz.func385,trivial,trivial⟩⟩,⟨Tryz.func193,⟨Tryz.func321,trivial,trivial⟩,⟨Tryz.func449,trivial,trivial⟩⟩⟩,⟨Tryz.func97,⟨Tryz.func161,⟨Tryz.func289,trivial,trivial⟩,⟨Tryz.func417,trivial,trivial⟩⟩,⟨Tryz.func225,⟨Tryz.func353,trivial,trivial⟩,⟨Tryz.func481,trivial,trivial⟩⟩⟩⟩,⟨Tryz.func49,⟨Tryz.func81,⟨Tryz.func145,⟨Tryz.func273,trivial,trivial⟩,⟨Tryz.func401,trivial,trivial⟩⟩,⟨Tryz.func209,⟨Tryz.func337,trivial,trivial⟩,⟨Tryz.func465,trivial,trivial⟩⟩⟩,⟨Tryz.func113,⟨Tryz.func177,⟨Tryz.func305,trivial,trivial⟩,⟨Tryz.func433,trivial,trivial⟩⟩,⟨Tryz.func241,⟨Tryz.func369,trivial,trivial⟩,⟨Tryz.func497,trivial,trivial⟩⟩⟩⟩⟩,⟨Tryz.func25,⟨Tryz.func41,⟨Tryz.func73,⟨Tryz.func137,⟨Tryz.func265,trivial,trivial⟩,⟨Tryz.func393,trivial,trivial⟩⟩,⟨Tryz.func201,⟨Tryz.func329,trivial,trivial⟩,⟨Tryz.func457,trivial,trivial⟩⟩⟩,⟨Tryz.func105,⟨Tryz.func169,⟨Tryz.func297,trivial,trivial⟩,⟨Tryz.func425,trivial,trivial⟩⟩,⟨Tryz.func233,trivial,⟨Tryz.func489,trivial,trivial⟩⟩⟩⟩,⟨Tryz.func57,⟨Tryz.func89,⟨Tryz.func153,⟨Tryz.func281,trivial,trivial⟩,trivial⟩,⟨Tryz.func217,⟨Tryz.func345,trivial,trivial⟩,⟨Tryz.func473,trivial,trivial⟩⟩⟩,⟨Tryz.func121,⟨Tryz.func185,⟨Tryz.func313,trivial,trivial⟩,⟨Tryz.func441,trivial,trivial⟩⟩,⟨Tryz.func249,⟨Tryz.func377,trivial,trivial⟩,trivial⟩⟩⟩⟩⟩,⟨Tryz.func13,⟨Tryz.func21,⟨Tryz.func37,⟨Tryz.func69,⟨Tryz.func133,⟨Tryz.func261,trivial,trivial⟩,⟨Tryz.func389,trivial,trivial⟩⟩,⟨Tryz.func197,⟨Tryz.func325,trivial,trivial⟩,trivial⟩⟩,⟨Tryz.func101,⟨Tryz.func165,⟨Tryz.func293,trivial,trivial⟩,⟨Tryz.func421,trivial,trivial⟩⟩,⟨Tryz.func229,trivial,⟨Tryz.func485,trivial,trivial⟩⟩⟩⟩,⟨Tryz.func53,⟨Tryz.func85,⟨Tryz.func149,⟨Tryz.func277,trivial,trivial⟩,⟨Tryz.func405,trivial,trivial⟩⟩,⟨Tryz.func213,⟨Tryz.func341,trivial,trivial⟩,⟨Tryz.func469,trivial,trivial⟩⟩⟩,⟨Tryz.func117,⟨Tryz.func181,⟨Tryz.func309,trivial,trivial⟩,⟨Tryz.func437,trivial,trivial⟩⟩,⟨Tryz.func245,⟨Tryz.func373,trivial,trivial⟩,trivial⟩⟩⟩⟩,⟨Tryz.func29,⟨Tryz.func45,⟨Tryz.func77,⟨Tryz.func141,⟨Tryz.func269,trivial,trivial⟩,⟨Tryz.func397,trivial,trivial⟩⟩,⟨Tryz.func205,⟨Tryz.func333,trivial,trivial⟩,⟨Tryz.func461,trivial,trivial⟩⟩⟩,⟨Tryz.func109,⟨Tryz.func173,⟨Tryz.func301,trivial,trivial⟩,⟨Tryz.func429,trivial,trivial⟩⟩,⟨trivial,⟨Tryz.func365,trivial,trivial⟩,⟨Tryz.func493,trivial,trivial⟩⟩⟩⟩,⟨Tryz.func61,⟨Tryz.func93,⟨Tryz.func157,⟨Tryz.func285,trivial,trivial⟩,⟨Tryz.func413,trivial,trivial⟩⟩,⟨Tryz.func221,⟨Tryz.func349,trivial,trivial⟩,⟨Tryz.func477,trivial,trivial⟩⟩⟩,⟨Tryz.func125,⟨Tryz.func189,⟨Tryz.func317,trivial,trivial⟩,⟨Tryz.func445,trivial,trivial⟩⟩,⟨Tryz.func253,⟨Tryz.func381,trivial,trivial⟩,trivial⟩⟩⟩⟩⟩⟩⟩,⟨Tryz.func2,⟨Tryz.func4,⟨Tryz.func8,⟨Tryz.func16,⟨Tryz.func32,⟨Tryz.func64,⟨Tryz.func128,⟨Tryz.func256,trivial,trivial⟩,⟨Tryz.func384,trivial,trivial⟩⟩,⟨Tryz.func192,⟨Tryz.func320,trivial,trivial⟩,⟨Tryz.func448,trivial,trivial⟩⟩⟩,⟨Tryz.func96,⟨Tryz.func160,⟨Tryz.func288,trivial,trivial⟩,⟨Tryz.func416,trivial,trivial⟩⟩,⟨Tryz.func224,⟨Tryz.func352,trivial,trivial⟩,⟨Tryz.func480,trivial,trivial⟩⟩⟩⟩,⟨Tryz.func48,⟨Tryz.func80,⟨Tryz.func144,⟨Tryz.func272,trivial,trivial⟩,⟨Tryz.func400,trivial,trivial⟩⟩,⟨Tryz.func208,⟨Tryz.func336,trivial,trivial⟩,⟨Tryz.func464,trivial,trivial⟩⟩⟩,⟨Tryz.func112,⟨Tryz.func176,⟨Tryz.func304,trivial,trivial⟩,⟨Tryz.func432,trivial,trivial⟩⟩,⟨Tryz.func240,⟨Tryz.func368,trivial,trivial⟩,⟨Tryz.func496,trivial,trivial⟩⟩⟩⟩⟩,⟨Tryz.func24,⟨Tryz.func40,⟨Tryz.func72,⟨Tryz.func136,⟨Tryz.func264,trivial,trivial⟩,⟨Tryz.func392,trivial,trivial⟩⟩,⟨Tryz.func200,⟨Tryz.func328,trivial,trivial⟩,⟨Tryz.func456,trivial,trivial⟩⟩⟩,⟨Tryz.func104,⟨Tryz.func168,⟨Tryz.func296,trivial,trivial⟩,⟨Tryz.func424,trivial,trivial⟩⟩,⟨trivial,⟨Tryz.func360,trivial,trivial⟩,⟨Tryz.func488,trivial,trivial⟩⟩⟩⟩,⟨Tryz.func56,⟨Tryz.func88,⟨Tryz.func152,⟨Tryz.func280,trivial,trivial⟩,⟨Tryz.func408,trivial,trivial⟩⟩,⟨Tryz.func216,⟨Tryz.func344,trivial,trivial⟩,⟨Tryz.func472,trivial,trivial⟩⟩⟩,⟨Tryz.func120,⟨Tryz.func184,⟨Tryz.func312,trivial,trivial⟩,⟨Tryz.func440,trivial,trivial⟩⟩,⟨Tryz.func248,⟨Tryz.func376,trivial,trivial⟩,trivial⟩⟩⟩⟩⟩,⟨Tryz.func12,⟨Tryz.func20,⟨Tryz.func36,⟨Tryz.func68,⟨Tryz.func132,⟨Tryz.func260,trivial,trivial⟩,⟨Tryz.func388,trivial,trivial⟩⟩,⟨Tryz.func196,⟨Tryz.func324,trivial,trivial⟩,⟨Tryz.func452,trivial,trivial⟩⟩⟩,⟨Tryz.func100,⟨Tryz.func164,⟨Tryz.func292,trivial,trivial⟩,⟨Tryz.func420,trivial,trivial⟩⟩,⟨Tryz.func228,⟨Tryz.func356,trivial,trivial⟩,⟨Tryz.func484,trivial,trivial⟩⟩⟩⟩,⟨Tryz.func52,⟨Tryz.func84,⟨Tryz.func148,⟨Tryz.func276,trivial,trivial⟩,⟨Tryz.func404,trivial,trivial⟩⟩,⟨Tryz.func212,⟨Tryz.func340,trivial,trivial⟩,⟨Tryz.func468,trivial,trivial⟩⟩⟩,⟨Tryz.func116,⟨Tryz.func180,⟨Tryz.func308,trivial,trivial⟩,⟨Tryz.func436,trivial,trivial⟩⟩,⟨Tryz.func244,⟨Tryz.func372,trivial,trivial⟩,trivial⟩⟩⟩⟩,⟨Tryz.func28,⟨Tryz.func44,⟨Tryz.func76,⟨Tryz.func140,⟨Tryz.func268,trivial,trivial⟩,⟨Tryz.func396,trivial,trivial⟩⟩,⟨Tryz.func204,⟨Tryz.func332,trivial,trivial⟩,⟨Tryz.func460,trivial,trivial⟩⟩⟩,⟨Tryz.func108,⟨Tryz.func172,⟨Tryz.func300,trivial,trivial⟩,⟨Tryz.func428,trivial,trivial⟩⟩,⟨Tryz.func236,⟨Tryz.func364,trivial,trivial⟩,⟨Tryz.func492,trivial,trivial⟩⟩⟩⟩,⟨Tryz.func60,⟨Tryz.func92,⟨Tryz.func156,⟨Tryz.func284,trivial,trivial⟩,trivial⟩,⟨Tryz.func220,⟨Tryz.func348,trivial,trivial⟩,⟨Tryz.func476,trivial,trivial⟩⟩⟩,⟨Tryz.func124,⟨Tryz.func188,⟨Tryz.func316,trivial,trivial⟩,⟨Tryz.func444,trivial,trivial⟩⟩,⟨Tryz.func252,⟨Tryz.func380,trivial,trivial⟩,trivial⟩⟩⟩⟩⟩⟩,⟨Tryz.func6,⟨Tryz.func10,⟨Tryz.func18,⟨Tryz.func34,⟨Tryz.func66,⟨Tryz.func130,⟨Tryz.func258,trivial,trivial⟩,⟨Tryz.func386,trivial,trivial⟩⟩,⟨Tryz.func194,⟨Tryz.func322,trivial,trivial⟩,⟨Tryz.func450,trivial,trivial⟩⟩⟩,⟨Tryz.func98,⟨Tryz.func162,⟨Tryz.func290,trivial,trivial⟩,⟨Tryz.func418,trivial,trivial⟩⟩,⟨Tryz.func226,⟨Tryz.func354,trivial,trivial⟩,⟨Tryz.func482,trivial,trivial⟩⟩⟩⟩,⟨Tryz.func50,⟨Tryz.func82,⟨Tryz.func146,⟨Tryz.func274,trivial,trivial⟩,⟨Tryz.func402,trivial,trivial⟩⟩,⟨Tryz.func210,⟨Tryz.func338,trivial,trivial⟩,⟨Tryz.func466,trivial,trivial⟩⟩⟩,⟨Tryz.func114,⟨Tryz.func178,⟨Tryz.func306,trivial,trivial⟩,⟨Tryz.func434,trivial,trivial⟩⟩,⟨Tryz.func242,⟨Tryz.func370,trivial,trivial⟩,trivial⟩⟩⟩⟩,⟨Tryz.func26,⟨Tryz.func42,⟨Tryz.func74,⟨Tryz.func138,⟨Tryz.func266,trivial,trivial⟩,⟨Tryz.func394,trivial,trivial⟩⟩,⟨Tryz.func202,⟨Tryz.func330,trivial,trivial⟩,⟨Tryz.func458,trivial,trivial⟩⟩⟩,⟨Tryz.func106,⟨Tryz.func170,⟨Tryz.func298,trivial,trivial⟩,⟨Tryz.func426,trivial,trivial⟩⟩,⟨Tryz.func234,⟨Tryz.func362,trivial,trivial⟩,⟨Tryz.func490,trivial,trivial⟩⟩⟩⟩,⟨Tryz.func58,⟨Tryz.func90,⟨Tryz.func154,⟨Tryz.func282,trivial,trivial⟩,⟨Tryz.func410,trivial,trivial⟩⟩,⟨Tryz.func218,⟨Tryz.func346,trivial,trivial⟩,trivial⟩⟩,⟨Tryz.func122,⟨Tryz.func186,⟨Tryz.func314,trivial,trivial⟩,⟨Tryz.func442,trivial,trivial⟩⟩,⟨Tryz.func250,⟨Tryz.func378,trivial,trivial⟩,trivial⟩⟩⟩⟩⟩,⟨Tryz.func14,⟨Tryz.func22,⟨Tryz.func38,⟨Tryz.func70,⟨Tryz.func134,⟨Tryz.func262,trivial,trivial⟩,⟨Tryz.func390,trivial,trivial⟩⟩,⟨Tryz.func198,⟨Tryz.func326,trivial,trivial⟩,⟨Tryz.func454,trivial,trivial⟩⟩⟩,⟨Tryz.func102,⟨Tryz.func166,⟨Tryz.func294,trivial,trivial⟩,⟨Tryz.func422,trivial,trivial⟩⟩,⟨Tryz.func230,⟨Tryz.func358,trivial,trivial⟩,⟨Tryz.func486,trivial,trivial⟩⟩⟩⟩,⟨Tryz.func54,⟨Tryz.func86,⟨Tryz.func150,⟨Tryz.func278,trivial,trivial⟩,⟨Tryz.func406,trivial,trivial⟩⟩,⟨Tryz.func214,⟨Tryz.func342,trivial,trivial⟩,⟨Tryz.func470,trivial,trivial⟩⟩⟩,⟨Tryz.func118,⟨Tryz.func182,⟨Tryz.func310,trivial,trivial⟩,⟨Tryz.func438,trivial,trivial⟩⟩,⟨Tryz.func246,⟨Tryz.func374,trivial,trivial⟩,trivial⟩⟩⟩⟩,⟨Tryz.func30,⟨Tryz.func46,⟨Tryz.func78,⟨Tryz.func142,⟨Tryz.func270,⟨Tryz.func526,trivial,trivial⟩,trivial⟩,⟨Tryz.func398,trivial,trivial⟩⟩,⟨Tryz.func206,⟨Tryz.func334,trivial,trivial⟩,⟨Tryz.func462,trivial,trivial⟩⟩⟩,⟨Tryz.func110,⟨Tryz.func174,⟨Tryz.func302,trivial,trivial⟩,⟨Tryz.func430,trivial,trivial⟩⟩,⟨Tryz.func238,⟨Tryz.func366,trivial,trivial⟩,⟨Tryz.func494,trivial,trivial⟩⟩⟩⟩,⟨Tryz.func62,⟨Tryz.func94,⟨Tryz.func158,⟨Tryz.func286,trivial,trivial⟩,⟨Tryz.func414,trivial,trivial⟩⟩,⟨Tryz.func222,⟨Tryz.func350,trivial,trivial⟩,⟨Tryz.func478,trivial,trivial⟩⟩⟩,⟨Tryz.func126,⟨Tryz.func190,⟨Tryz.func318,trivial,trivial⟩,⟨Tryz.func446,trivial,trivial⟩⟩,⟨Tryz.func254,⟨Tryz.func382,trivial,trivial⟩,trivial⟩⟩⟩⟩⟩⟩⟩⟩
theorem flEOk:FlOk Tryz.prog flE:=fun f fn h=>tgT_ok (Q:=fun f fn=>Tryz.prog.funcs[f]? = some fn) flAllE h
theorem foB:trB (fun _ fn => !(fn.name == "runtime.NumGoroutine") && !fn.body.isNone) flT=true:=by kernel_rfl
theorem foEOk:FOok Tryz.prog foE:=by
 intro f h
 unfold foE at h
 split at h
 ·rename_i fn hf
  have:=tgT_ok (trB_ok foB) hf
  simp only [Bool.and_eq_true,Bool.not_eq_true'] at this
  exact ⟨fn,flEOk f fn hf,this.1,this.2⟩
 ·cases h
theorem plBE:trB (fun f fn=>match fn.body with|some c=>plB (plE f) c|none=>true) flT=true:=by kernel_rfl
theorem plEOk:PlsOk flE plE:=by
 intro f fn code hf hb
 have:=tgT_ok (trB_ok plBE) hf
 rw [hb] at this
 exact plB_ok this
theorem mixedE:Tryz.prog.follows .mixedOrders=true:=by kernel_rfl
end Go.Proofs.YtgkhgapkfnkagaaGreatDoor
namespace Go.Proofs.YtgkhgapkfnkagaaGreatDoor
open Go.Ab Go.RowKit
set_option maxRecDepth 1000000
theorem calOk (D:Nat):CalOk Tryz.prog (cE D):=clE_ok ttEOk zEOk foEOk mixedE flEOk orc0Ok plEOk D
theorem plainC {f:FuncId} {avs:List AV} {L:List AB} {v:AV} {L':List AB} (h:evB (evE (cE 80) f avs L [] 0) v L' 0=true) (ha:∀ ρ,inAs ρ avs=avs) (hl:∀ ρ,inL ρ L=L) (hv:∀ ρ,inA ρ v=v) (hl':∀ ρ,inL ρ L'=L'):ACalls Tryz.prog f avs L (fun av Lo=>av=v∧Lo=L'):=by
 have:=evE_ok (calOk 80) (evB_ok h) id
 rw [ha,hl] at this
 refine this.mono ?_
 rintro _ _ ⟨ρ',_,rfl,rfl⟩
 exact ⟨hv ρ',hl' ρ'⟩
theorem c_new:ACalls Tryz.prog 4 [] [] (fun av Lo=>av=(.ptr 0 0)∧Lo=[(.cells [(.map 1),(.d .nils),(.map 2)]),(.map []),(.map [])]):=plainC (by kernel_rfl) (fun _=>rfl) (fun _=>rfl) (fun _=>rfl) (fun _=>rfl)
theorem c_disk:ACalls Tryz.prog 6 [] [] (fun av Lo=>av=(.ptr 0 0)∧Lo=[(.cells [(.d (.int .i64 0)),(.d (.bool false)),(.d (.int .i64 0)),(.map 1)]),(.map [])]):=plainC (by kernel_rfl) (fun _=>rfl) (fun _=>rfl) (fun _=>rfl) (fun _=>rfl)
theorem c_open_nd:ACalls Tryz.prog 5 [(.d .nilp),(.ptr 0 0),(.d (.int .i64 1)),(.d (.int .i64 1))] [(.cells [(.map 1),(.d .nils),(.map 2)]),(.map []),(.map [])] (fun av Lo=>av=(.tup [(.d .nilp),(.d (.int .i64 1))])∧Lo=[(.cells [(.map 1),(.d .nils),(.map 2)]),(.map []),(.map [])]):=plainC (by kernel_rfl) (fun _=>rfl) (fun _=>rfl) (fun _=>rfl) (fun _=>rfl)
theorem c_open_nb:ACalls Tryz.prog 5 [(.ptr 0 0),(.d .nilp),(.d (.int .i64 1)),(.d (.int .i64 1))] [(.cells [(.d (.int .i64 0)),(.d (.bool false)),(.d (.int .i64 0)),(.map 1)]),(.map [])] (fun av Lo=>av=(.tup [(.d .nilp),(.d (.int .i64 1))])∧Lo=[(.cells [(.d (.int .i64 0)),(.d (.bool false)),(.d (.int .i64 0)),(.map 1)]),(.map [])]):=plainC (by kernel_rfl) (fun _=>rfl) (fun _=>rfl) (fun _=>rfl) (fun _=>rfl)
theorem c_open_21:ACalls Tryz.prog 5 [(.ptr 0 0),(.ptr 1 0),(.d (.int .i64 2)),(.d (.int .i64 1))] [(.cells [(.d (.int .i64 0)),(.d (.bool false)),(.d (.int .i64 0)),(.map 2)]),(.cells [(.map 3),(.d .nils),(.map 4)]),(.map []),(.map []),(.map [])] (fun av Lo=>av=(.tup [(.d .nilp),(.d (.int .i64 1))])∧Lo=[(.cells [(.d (.int .i64 0)),(.d (.bool false)),(.d (.int .i64 0)),(.map 2)]),(.cells [(.map 3),(.d .nils),(.map 4)]),(.map []),(.map []),(.map [])]):=plainC (by kernel_rfl) (fun _=>rfl) (fun _=>rfl) (fun _=>rfl) (fun _=>rfl)
theorem c_open_13:ACalls Tryz.prog 5 [(.ptr 0 0),(.ptr 1 0),(.d (.int .i64 1)),(.d (.int .i64 3))] [(.cells [(.d (.int .i64 0)),(.d (.bool false)),(.d (.int .i64 0)),(.map 2)]),(.cells [(.map 3),(.d .nils),(.map 4)]),(.map []),(.map []),(.map [])] (fun av Lo=>av=(.tup [(.d .nilp),(.d (.int .i64 1))])∧Lo=[(.cells [(.d (.int .i64 0)),(.d (.bool false)),(.d (.int .i64 0)),(.map 2)]),(.cells [(.map 3),(.d .nils),(.map 4)]),(.map []),(.map []),(.map [])]):=plainC (by kernel_rfl) (fun _=>rfl) (fun _=>rfl) (fun _=>rfl) (fun _=>rfl)
theorem c_open_14:ACalls Tryz.prog 5 [(.ptr 0 0),(.ptr 1 0),(.d (.int .i64 1)),(.d (.int .i64 4))] [(.cells [(.d (.int .i64 0)),(.d (.bool false)),(.d (.int .i64 0)),(.map 2)]),(.cells [(.map 3),(.d .nils),(.map 4)]),(.map []),(.map []),(.map [])] (fun av Lo=>av=(.tup [(.ptr 5 0),(.d (.int .i64 0))])∧Lo=[(.cells [(.d (.int .i64 0)),(.d (.bool false)),(.d (.int .i64 0)),(.map 2)]),(.cells [(.map 3),(.d .nils),(.map 4)]),(.map []),(.map []),(.map []),(.cells [(.d (.int .i64 1)),(.d (.int .i64 4)),(.d (.int .i64 1)),(.d .nils),(.d (.int .i64 0)),(.d (.int .i64 0)),(.d .nils),(.d .nils),(.d .nils),(.d (.int .i64 1)),(.d (.int .i64 4)),(.d (.int .i64 1)),(.d (.int .i64 0)),(.d (.int .i64 0)),(.d (.int .i64 0)),(.d (.int .i64 0)),(.d .nils),(.d .nils),(.d (.int .i64 0)),(.d .nils),(.d .nils),(.d (.int .i64 4)),(.d (.int .i64 0)),(.d .nils),(.d .nils),(.d (.int .i64 1)),(.d (.int .i64 4)),(.d .nils),(.d (.int .i64 0)),(.d .nils),(.d (.int .i64 0)),(.d .nils),(.d .nils),(.d .nils),(.d (.int .i64 0)),(.arr 6),(.d .nils),(.d (.int .i64 1)),(.d (.int .i64 4)),(.ptr 1 0),(.ptr 7 0),(.d (.bool false))]),(.row 3 1 [] false),(.cells [(.ptr 8 0),(.d (.bool false))]),(.cells [(.ptr 9 0),(.map 10),(.d (.int .i64 0)),(.d (.bool false))]),(.cells [(.ptr 0 0),(.d .nils),(.d (.int .i64 0)),(.d (.bool false)),(.d (.bool false))]),(.map [])]):=plainC (by kernel_rfl) (fun _=>rfl) (fun _=>rfl) (fun _=>rfl) (fun _=>rfl)
theorem c_certs:ACalls Tryz.prog 12 [(.ptr 0 0)] [(.cells [(.d (.int .i64 1)),(.d (.int .i64 4)),(.d (.int .i64 1)),(.d .nils),(.d (.int .i64 0)),(.d (.int .i64 0)),(.d .nils),(.d .nils),(.d .nils),(.d (.int .i64 1)),(.d (.int .i64 4)),(.d (.int .i64 1)),(.d (.int .i64 0)),(.d (.int .i64 0)),(.d (.int .i64 0)),(.d (.int .i64 0)),(.d .nils),(.d .nils),(.d (.int .i64 0)),(.d .nils),(.d .nils),(.d (.int .i64 4)),(.d (.int .i64 0)),(.d .nils),(.d .nils),(.d (.int .i64 1)),(.d (.int .i64 4)),(.d .nils),(.d (.int .i64 0)),(.d .nils),(.d (.int .i64 0)),(.d .nils),(.d .nils),(.d .nils),(.d (.int .i64 0)),(.arr 1),(.d .nils),(.d (.int .i64 1)),(.d (.int .i64 4)),(.ptr 2 0),(.ptr 3 0),(.d (.bool false))]),(.row 3 1 [] false),(.cells [(.map 4),(.d .nils),(.map 5)]),(.cells [(.ptr 6 0),(.d (.bool false))]),(.map []),(.map []),(.cells [(.ptr 7 0),(.map 8),(.d (.int .i64 0)),(.d (.bool false))]),(.cells [(.ptr 9 0),(.d .nils),(.d (.int .i64 0)),(.d (.bool false)),(.d (.bool false))]),(.map []),(.cells [(.d (.int .i64 0)),(.d (.bool false)),(.d (.int .i64 0)),(.map 10)]),(.map [])] (fun av Lo=>av=(.arr 11)∧Lo=[(.cells [(.d (.int .i64 1)),(.d (.int .i64 4)),(.d (.int .i64 1)),(.d .nils),(.d (.int .i64 0)),(.d (.int .i64 0)),(.d .nils),(.d .nils),(.d .nils),(.d (.int .i64 1)),(.d (.int .i64 4)),(.d (.int .i64 1)),(.d (.int .i64 0)),(.d (.int .i64 0)),(.d (.int .i64 0)),(.d (.int .i64 0)),(.d .nils),(.d .nils),(.d (.int .i64 0)),(.d .nils),(.d .nils),(.d (.int .i64 4)),(.d (.int .i64 0)),(.d .nils),(.d .nils),(.d (.int .i64 1)),(.d (.int .i64 4)),(.d .nils),(.d (.int .i64 0)),(.d .nils),(.d (.int .i64 0)),(.d .nils),(.d .nils),(.d .nils),(.d (.int .i64 0)),(.arr 1),(.d .nils),(.d (.int .i64 1)),(.d (.int .i64 4)),(.ptr 2 0),(.ptr 3 0),(.d (.bool false))]),(.row 3 1 [] false),(.cells [(.map 4),(.d .nils),(.map 5)]),(.cells [(.ptr 6 0),(.d (.bool false))]),(.map []),(.map []),(.cells [(.ptr 7 0),(.map 8),(.d (.int .i64 0)),(.d (.bool false))]),(.cells [(.ptr 9 0),(.d .nils),(.d (.int .i64 0)),(.d (.bool false)),(.d (.bool false))]),(.map []),(.cells [(.d (.int .i64 0)),(.d (.bool false)),(.d (.int .i64 0)),(.map 10)]),(.map []),(.row 40 6 [] false)]):=plainC (by kernel_rfl) (fun _=>rfl) (fun _=>rfl) (fun _=>rfl) (fun _=>rfl)
theorem c_outs:ACalls Tryz.prog 13 [(.ptr 0 0)] [(.cells [(.d (.int .i64 1)),(.d (.int .i64 4)),(.d (.int .i64 1)),(.d .nils),(.d (.int .i64 0)),(.d (.int .i64 0)),(.d .nils),(.d .nils),(.d .nils),(.d (.int .i64 1)),(.d (.int .i64 4)),(.d (.int .i64 1)),(.d (.int .i64 0)),(.d (.int .i64 0)),(.d (.int .i64 0)),(.d (.int .i64 0)),(.d .nils),(.d .nils),(.d (.int .i64 0)),(.d .nils),(.d .nils),(.d (.int .i64 4)),(.d (.int .i64 0)),(.d .nils),(.d .nils),(.d (.int .i64 1)),(.d (.int .i64 4)),(.d .nils),(.d (.int .i64 0)),(.d .nils),(.d (.int .i64 0)),(.d .nils),(.d .nils),(.d .nils),(.d (.int .i64 0)),(.arr 1),(.d .nils),(.d (.int .i64 1)),(.d (.int .i64 4)),(.ptr 2 0),(.ptr 3 0),(.d (.bool false))]),(.row 3 1 [] false),(.cells [(.map 4),(.d .nils),(.map 5)]),(.cells [(.ptr 6 0),(.d (.bool false))]),(.map []),(.map []),(.cells [(.ptr 7 0),(.map 8),(.d (.int .i64 0)),(.d (.bool false))]),(.cells [(.ptr 9 0),(.d .nils),(.d (.int .i64 0)),(.d (.bool false)),(.d (.bool false))]),(.map []),(.cells [(.d (.int .i64 0)),(.d (.bool false)),(.d (.int .i64 0)),(.map 10)]),(.map [])] (fun av Lo=>av=(.arr 11)∧Lo=[(.cells [(.d (.int .i64 1)),(.d (.int .i64 4)),(.d (.int .i64 1)),(.d .nils),(.d (.int .i64 0)),(.d (.int .i64 0)),(.d .nils),(.d .nils),(.d .nils),(.d (.int .i64 1)),(.d (.int .i64 4)),(.d (.int .i64 1)),(.d (.int .i64 0)),(.d (.int .i64 0)),(.d (.int .i64 0)),(.d (.int .i64 0)),(.d .nils),(.d .nils),(.d (.int .i64 0)),(.d .nils),(.d .nils),(.d (.int .i64 4)),(.d (.int .i64 0)),(.d .nils),(.d .nils),(.d (.int .i64 1)),(.d (.int .i64 4)),(.d .nils),(.d (.int .i64 0)),(.d .nils),(.d (.int .i64 0)),(.d .nils),(.d .nils),(.d .nils),(.d (.int .i64 0)),(.arr 1),(.d .nils),(.d (.int .i64 1)),(.d (.int .i64 4)),(.ptr 2 0),(.ptr 3 0),(.d (.bool false))]),(.row 3 1 [] false),(.cells [(.map 4),(.d .nils),(.map 5)]),(.cells [(.ptr 6 0),(.d (.bool false))]),(.map []),(.map []),(.cells [(.ptr 7 0),(.map 8),(.d (.int .i64 0)),(.d (.bool false))]),(.cells [(.ptr 9 0),(.d .nils),(.d (.int .i64 0)),(.d (.bool false)),(.d (.bool false))]),(.map []),(.cells [(.d (.int .i64 0)),(.d (.bool false)),(.d (.int .i64 0)),(.map 10)]),(.map []),(.row 3 1 [] false)]):=plainC (by kernel_rfl) (fun _=>rfl) (fun _=>rfl) (fun _=>rfl) (fun _=>rfl)
theorem c_seen:ACalls Tryz.prog 14 [(.ptr 0 0)] [(.cells [(.d (.int .i64 1)),(.d (.int .i64 4)),(.d (.int .i64 1)),(.d .nils),(.d (.int .i64 0)),(.d (.int .i64 0)),(.d .nils),(.d .nils),(.d .nils),(.d (.int .i64 1)),(.d (.int .i64 4)),(.d (.int .i64 1)),(.d (.int .i64 0)),(.d (.int .i64 0)),(.d (.int .i64 0)),(.d (.int .i64 0)),(.d .nils),(.d .nils),(.d (.int .i64 0)),(.d .nils),(.d .nils),(.d (.int .i64 4)),(.d (.int .i64 0)),(.d .nils),(.d .nils),(.d (.int .i64 1)),(.d (.int .i64 4)),(.d .nils),(.d (.int .i64 0)),(.d .nils),(.d (.int .i64 0)),(.d .nils),(.d .nils),(.d .nils),(.d (.int .i64 0)),(.arr 1),(.d .nils),(.d (.int .i64 1)),(.d (.int .i64 4)),(.ptr 2 0),(.ptr 3 0),(.d (.bool false))]),(.row 3 1 [] false),(.cells [(.map 4),(.d .nils),(.map 5)]),(.cells [(.ptr 6 0),(.d (.bool false))]),(.map []),(.map []),(.cells [(.ptr 7 0),(.map 8),(.d (.int .i64 0)),(.d (.bool false))]),(.cells [(.ptr 9 0),(.d .nils),(.d (.int .i64 0)),(.d (.bool false)),(.d (.bool false))]),(.map []),(.cells [(.d (.int .i64 0)),(.d (.bool false)),(.d (.int .i64 0)),(.map 10)]),(.map [])] (fun av Lo=>av=(.arr 11)∧Lo=[(.cells [(.d (.int .i64 1)),(.d (.int .i64 4)),(.d (.int .i64 1)),(.d .nils),(.d (.int .i64 0)),(.d (.int .i64 0)),(.d .nils),(.d .nils),(.d .nils),(.d (.int .i64 1)),(.d (.int .i64 4)),(.d (.int .i64 1)),(.d (.int .i64 0)),(.d (.int .i64 0)),(.d (.int .i64 0)),(.d (.int .i64 0)),(.d .nils),(.d .nils),(.d (.int .i64 0)),(.d .nils),(.d .nils),(.d (.int .i64 4)),(.d (.int .i64 0)),(.d .nils),(.d .nils),(.d (.int .i64 1)),(.d (.int .i64 4)),(.d .nils),(.d (.int .i64 0)),(.d .nils),(.d (.int .i64 0)),(.d .nils),(.d .nils),(.d .nils),(.d (.int .i64 0)),(.arr 1),(.d .nils),(.d (.int .i64 1)),(.d (.int .i64 4)),(.ptr 2 0),(.ptr 3 0),(.d (.bool false))]),(.row 3 1 [] false),(.cells [(.map 4),(.d .nils),(.map 5)]),(.cells [(.ptr 6 0),(.d (.bool false))]),(.map []),(.map []),(.cells [(.ptr 7 0),(.map 8),(.d (.int .i64 0)),(.d (.bool false))]),(.cells [(.ptr 9 0),(.d .nils),(.d (.int .i64 0)),(.d (.bool false)),(.d (.bool false))]),(.map []),(.cells [(.d (.int .i64 0)),(.d (.bool false)),(.d (.int .i64 0)),(.map 10)]),(.map []),(.row 3 1 [] false)]):=plainC (by kernel_rfl) (fun _=>rfl) (fun _=>rfl) (fun _=>rfl) (fun _=>rfl)
theorem c_tx0:ACalls Tryz.prog 15 [(.ptr 0 0),(.agg [(.d (.int .i64 0)),(.d (.int .i64 0)),(.d (.str (bA []))),(.d (.str (bA [])))])] [(.cells [(.d (.int .i64 1)),(.d (.int .i64 4)),(.d (.int .i64 1)),(.d .nils),(.d (.int .i64 0)),(.d (.int .i64 0)),(.d .nils),(.d .nils),(.d .nils),(.d (.int .i64 1)),(.d (.int .i64 4)),(.d (.int .i64 1)),(.d (.int .i64 0)),(.d (.int .i64 0)),(.d (.int .i64 0)),(.d (.int .i64 0)),(.d .nils),(.d .nils),(.d (.int .i64 0)),(.d .nils),(.d .nils),(.d (.int .i64 4)),(.d (.int .i64 0)),(.d .nils),(.d .nils),(.d (.int .i64 1)),(.d (.int .i64 4)),(.d .nils),(.d (.int .i64 0)),(.d .nils),(.d (.int .i64 0)),(.d .nils),(.d .nils),(.d .nils),(.d (.int .i64 0)),(.arr 1),(.d .nils),(.d (.int .i64 1)),(.d (.int .i64 4)),(.ptr 2 0),(.ptr 3 0),(.d (.bool false))]),(.row 3 1 [] false),(.cells [(.map 4),(.d .nils),(.map 5)]),(.cells [(.ptr 6 0),(.d (.bool false))]),(.map []),(.map []),(.cells [(.ptr 7 0),(.map 8),(.d (.int .i64 0)),(.d (.bool false))]),(.cells [(.ptr 9 0),(.d .nils),(.d (.int .i64 0)),(.d (.bool false)),(.d (.bool false))]),(.map []),(.cells [(.d (.int .i64 0)),(.d (.bool false)),(.d (.int .i64 0)),(.map 10)]),(.map [])] (fun av Lo=>av=(.tup [(.arr 11),(.d (.int .i64 1))])∧Lo=[(.cells [(.d (.int .i64 1)),(.d (.int .i64 4)),(.d (.int .i64 1)),(.d .nils),(.d (.int .i64 0)),(.d (.int .i64 0)),(.d .nils),(.d .nils),(.d .nils),(.d (.int .i64 1)),(.d (.int .i64 4)),(.d (.int .i64 1)),(.d (.int .i64 0)),(.d (.int .i64 0)),(.d (.int .i64 0)),(.d (.int .i64 0)),(.d .nils),(.d .nils),(.d (.int .i64 0)),(.d .nils),(.d .nils),(.d (.int .i64 4)),(.d (.int .i64 0)),(.d .nils),(.d .nils),(.d (.int .i64 1)),(.d (.int .i64 4)),(.d .nils),(.d (.int .i64 0)),(.d .nils),(.d (.int .i64 0)),(.d .nils),(.d .nils),(.d .nils),(.d (.int .i64 0)),(.arr 1),(.d .nils),(.d (.int .i64 1)),(.d (.int .i64 4)),(.ptr 2 0),(.ptr 3 0),(.d (.bool false))]),(.row 3 1 [] false),(.cells [(.map 4),(.d .nils),(.map 5)]),(.cells [(.ptr 6 0),(.d (.bool false))]),(.map []),(.map []),(.cells [(.ptr 7 0),(.map 8),(.d (.int .i64 0)),(.d (.bool false))]),(.cells [(.ptr 9 0),(.d .nils),(.d (.int .i64 0)),(.d (.bool false)),(.d (.bool false))]),(.map []),(.cells [(.d (.int .i64 0)),(.d (.bool false)),(.d (.int .i64 0)),(.map 10)]),(.map []),(.row 42 18 [] false)]):=plainC (by kernel_rfl) (fun _=>rfl) (fun _=>rfl) (fun _=>rfl) (fun _=>rfl)
noncomputable section
def tkTab:List ME:=[mtick0,mtick1,mtick2,mtick3,mtick4,mtick5,mtick6,mtick7,mtick8,mtick9,mtick10,mtick11,mtick12,mtick13,mtick14,mtick15]
def orcM:FuncId→Option (List AV→Hp→Nat→Option (AV×Hp×Nat)):=fun f=>match as2 f [(5,memoE [mopen]),(15,memoE [mtx]),(57,memoE tkTab)] with
 | some g=>some g
 | none=>orc0 f
def cM (D:Nat):Cal:=clE Tryz.prog ttE foE flE orcM plE D
end
theorem wakes_run:evB (evE (cM 80) 16 [] [] [] 0) (.d (.bool true)) [] 1=true:=by kernel_rfl
end Go.Proofs.YtgkhgapkfnkagaaGreatDoor
namespace Go.Proofs.YtgkhgapkfnkagaaGreatDoor
open Go.Ab Go.RowKit
theorem oopen:mopen.Ok Tryz.prog 5:=fun ρ=>evE_ok (calOk 80) (evB_ok ropen) ρ
theorem otx:mtx.Ok Tryz.prog 15:=fun ρ=>evE_ok (calOk 80) (evB_ok rtx) ρ
theorem otick0:mtick0.Ok Tryz.prog 57:=fun ρ=>evE_ok (calOk 80) (evB_ok rtick0) ρ
theorem otick1:mtick1.Ok Tryz.prog 57:=fun ρ=>evE_ok (calOk 80) (evB_ok rtick1) ρ
theorem otick2:mtick2.Ok Tryz.prog 57:=fun ρ=>evE_ok (calOk 80) (evB_ok rtick2) ρ
theorem otick3:mtick3.Ok Tryz.prog 57:=fun ρ=>evE_ok (calOk 80) (evB_ok rtick3) ρ
theorem otick4:mtick4.Ok Tryz.prog 57:=fun ρ=>evE_ok (calOk 80) (evB_ok rtick4) ρ
theorem otick5:mtick5.Ok Tryz.prog 57:=fun ρ=>evE_ok (calOk 80) (evB_ok rtick5) ρ
theorem otick6:mtick6.Ok Tryz.prog 57:=fun ρ=>evE_ok (calOk 80) (evB_ok rtick6) ρ
theorem otick7:mtick7.Ok Tryz.prog 57:=fun ρ=>evE_ok (calOk 80) (evB_ok rtick7) ρ
theorem otick8:mtick8.Ok Tryz.prog 57:=fun ρ=>evE_ok (calOk 80) (evB_ok rtick8) ρ
theorem otick9:mtick9.Ok Tryz.prog 57:=fun ρ=>evE_ok (calOk 80) (evB_ok rtick9) ρ
theorem otick10:mtick10.Ok Tryz.prog 57:=fun ρ=>evE_ok (calOk 80) (evB_ok rtick10) ρ
theorem otick11:mtick11.Ok Tryz.prog 57:=fun ρ=>evE_ok (calOk 80) (evB_ok rtick11) ρ
theorem otick12:mtick12.Ok Tryz.prog 57:=fun ρ=>evE_ok (calOk 80) (evB_ok rtick12) ρ
theorem otick13:mtick13.Ok Tryz.prog 57:=fun ρ=>evE_ok (calOk 80) (evB_ok rtick13) ρ
theorem otick14:mtick14.Ok Tryz.prog 57:=fun ρ=>evE_ok (calOk 80) (evB_ok rtick14) ρ
theorem otick15:mtick15.Ok Tryz.prog 57:=fun ρ=>evE_ok (calOk 80) (evB_ok rtick15) ρ
theorem tkOk:∀ m∈tkTab,m.Ok Tryz.prog 57:=by
 intro m h
 simp only [tkTab,List.mem_cons,List.not_mem_nil,or_false] at h
 rcases h with rfl|rfl|rfl|rfl|rfl|rfl|rfl|rfl|rfl|rfl|rfl|rfl|rfl|rfl|rfl|rfl
 ·exact otick0
 ·exact otick1
 ·exact otick2
 ·exact otick3
 ·exact otick4
 ·exact otick5
 ·exact otick6
 ·exact otick7
 ·exact otick8
 ·exact otick9
 ·exact otick10
 ·exact otick11
 ·exact otick12
 ·exact otick13
 ·exact otick14
 ·exact otick15
theorem orcMOk:OrcOk Tryz.prog orcM:=by
 intro f g h
 unfold orcM at h
 split at h
 ·rename_i g' hg
  cases h
  have hm:=as2_mem hg
  simp only [List.mem_cons,Prod.mk.injEq,List.not_mem_nil,or_false] at hm
  rcases hm with ⟨rfl,rfl⟩|⟨rfl,rfl⟩|⟨rfl,rfl⟩
  ·exact memoE_ok (by intro m hm;rw [List.mem_singleton] at hm;subst hm;exact oopen)
  ·exact memoE_ok (by intro m hm;rw [List.mem_singleton] at hm;subst hm;exact otx)
  ·exact memoE_ok tkOk
 ·exact orc0Ok f g h
theorem calMOk (D:Nat):CalOk Tryz.prog (cM D):=clE_ok ttEOk zEOk foEOk mixedE flEOk orcMOk plEOk D
theorem wakes_ok:ACalls Tryz.prog 16 [] [] (fun av L=>av = .d (.bool true)∧L=[]):=by
 refine ((evE_ok (calMOk 80) (evB_ok wakes_run) id).mono ?_)
 rintro _ _ ⟨ρ',_,rfl,rfl⟩
 exact ⟨rfl,rfl⟩
end Go.Proofs.YtgkhgapkfnkagaaGreatDoor
namespace Go.Proofs.YtgkhgapkfnkagaaGreatDoor
open Go.Ab Go.RowKit Go.MapKept
attribute [local irreducible] ACalls AW ADraw fltB fnear
set_option maxRecDepth 100000
open Classical
def msgsD (l:List Msg):List (List DV):=l.map Msg.cs
theorem msgsD_length (l:List Msg):(msgsD l).length=l.length:=List.length_map ..
theorem msgsD_at {l:List Msg} {i:Nat} {m:Msg} (h:l[i]? = some m):(msgsD l)[(i:Int).toNat]? = some m.cs:=by simp [msgsD,h]
theorem numE_ok (k:Int) (h0:0≤k) (h1:k≤100):ACalls Tryz.prog 7 [.d (.int .i64 k)] [] (fun av L=>av = .d (.int .i64 k)∧L=[]):=by
 (refine acalls_go ttOk zOk foOk Tryz.func7 rfl Tryz.ntmps7 rfl false rfl ?_);(conv=>whnf)
 refine rdz ?_;repeat' ((with_reducible apply tw)<;>intro _)
 exact ⟨rfl,rfl⟩
structure Msg.in0 (m:Msg):Prop where
 ok:m.ok
 tx:∀ t∈m.txs,t.ok
 sigs:m.head.sigs=[]
theorem Msg.in0.small {m:Msg} (h:m.in0) (l:m.light):m.small:=⟨by have:=l.txs;omega,by have:=l.head;omega,l.cert,by have:=l.digs;omega,by rw [h.sigs];simp⟩
theorem nodeForms_walk (ms:List Msg) (hl:few ms) (hm:∀ m∈ms,m.in0):ACalls Tryz.prog 3 [.d (.sl 18 (msgsD ms))] [] (fun av L=>av = .d (.bool true)∧L=[]):=by
 have hcl:=msgsD_length ms
 have e0:=numE_ok 0 (by omega) (by omega)
 have e1:=numE_ok 1 (by omega) (by omega)
 unfold few at hl
 (refine acalls_go ttOk zOk foOk Tryz.func3 rfl Tryz.ntmps3 rfl false rfl ?_);(conv=>whnf)
 repeat' (first|(first|((with_reducible apply z_wrap);(focus omega);(conv=>whnf))|((with_reducible first|apply mt_dec|apply mt_eq|apply mt_ne|apply mt_not|apply mt_any)<;>(intro _;conv=>whnf)))|(refine (c_new).mono ?_;rintro _ _ ⟨rfl,rfl⟩;(conv=>whnf))|(refine (c_disk).mono ?_;rintro _ _ ⟨rfl,rfl⟩;(conv=>whnf))|(refine (c_open_nd).mono ?_;rintro _ _ ⟨rfl,rfl⟩;(conv=>whnf))|(refine (c_open_nb).mono ?_;rintro _ _ ⟨rfl,rfl⟩;(conv=>whnf))|(refine (c_open_21).mono ?_;rintro _ _ ⟨rfl,rfl⟩;(conv=>whnf))|(refine (c_open_13).mono ?_;rintro _ _ ⟨rfl,rfl⟩;(conv=>whnf))|(refine (c_open_14).mono ?_;rintro _ _ ⟨rfl,rfl⟩;(conv=>whnf))|(refine (e1).mono ?_;rintro _ _ ⟨rfl,rfl⟩;(conv=>whnf))|(refine (e0).mono ?_;rintro _ _ ⟨rfl,rfl⟩;(conv=>whnf)))
 refine loop_out ttOk zOk foOk (σ:=Nat) (τ:=Unit) (fun j=>([(0,.d (.sl 18 (msgsD ms))),(12,.ptr 0 0),(13,.d (.int .i64 j))],nodeH 1 :: kids 1)) (fun j=>j≤ms.length) (fun j=>ms.length - j) [0,12,13] 0 (fun _=>([(12,.ptr 0 0)],nodeH 1 :: kids 1)) (fun _=>True) [12] ?_ ?_ ?_
 ·conv=>whnf
  exact ⟨0,rfl,rfl,Nat.zero_le _⟩
 ·rintro _ _
  conv=>whnf
  repeat' (first|(first|((with_reducible apply z_wrap);(focus omega);(conv=>whnf))|((with_reducible first|apply mt_dec|apply mt_eq|apply mt_ne|apply mt_not|apply mt_any)<;>(intro _;conv=>whnf)))|(refine (c_tx0).mono ?_;rintro _ _ ⟨rfl,rfl⟩;(conv=>whnf))|(refine (e1).mono ?_;rintro _ _ ⟨rfl,rfl⟩;(conv=>whnf))|(refine (wakes_ok).mono ?_;rintro _ _ ⟨rfl,rfl⟩;(conv=>whnf)))
  exact ⟨rfl,rfl⟩
 ·rintro j hj
  conv=>whnf
  refine rdz ?_;repeat' ((with_reducible apply tw)<;>intro _)
  ·rename_i hjl _
   replace hjl:(j:Int)<((msgsD ms).length:Int):=hjl
   refine Exists.elim (⟨_,List.getElem?_eq_getElem (by omega)⟩:∃ c,ms[j]? = some c) fun m hmj => ?_
   have hin:=hm m (List.mem_of_getElem? hmj)
   refine ⟨by omega,m.cs,msgsD_at hmj,?_⟩
   conv=>whnf
   refine (msgW_full m hin.ok hin.tx).mono ?_
   rintro _ _ ⟨⟨w,rfl,hw⟩,rfl⟩
   conv=>whnf
   refine rdz ?_;repeat' ((with_reducible apply tw)<;>intro _)
   ·exact ⟨rfl,rfl⟩
   ·rename_i hw2
    have hsm:=hin.small (hw (by omega))
    have hpx:=pageX_ok (n:=4) hsm.fine
    refine ⟨by omega,m.cs,msgsD_at hmj,?_⟩
    conv=>whnf
    refine hpx.mono ?_
    rintro _ _ ⟨rfl,rfl⟩
    by_cases ho:okMsg 4 m
    ·rw [decide_eq_true ho]
     conv=>whnf
     refine rdz ?_;repeat' ((with_reducible apply tw)<;>intro _)
     refine ⟨by omega,m.cs,msgsD_at hmj,?_⟩
     conv=>whnf
     refine rdz ?_;repeat' ((with_reducible apply tw)<;>intro _)
     ·exact ⟨j+1,rfl,rfl,by omega,by omega⟩
     ·rename_i hd
      replace hd:m.dst≠1:=hd
      have hb:¬(okMsg 4 m∧m.dst=1):=fun h=>hd h.2
      refine ⟨by omega,m.cs,msgsD_at hmj,?_⟩
      conv=>whnf
      refine (copyMsg_ok m hsm).mono ?_
      rintro _ _ ⟨rfl,rfl⟩
      conv=>whnf
      refine rdz ?_;repeat' ((with_reducible apply tw)<;>intro _)
      refine (take_bad m hsm.fine hb).mono ?_
      rintro _ _ ⟨rfl,rfl⟩
      conv=>whnf
      repeat' (first|(first|((with_reducible apply z_wrap);(focus omega);(conv=>whnf))|((with_reducible first|apply mt_dec|apply mt_eq|apply mt_ne|apply mt_not|apply mt_any)<;>(intro _;conv=>whnf)))|(refine (e1).mono ?_;rintro _ _ ⟨rfl,rfl⟩;(conv=>whnf))|(refine (c_certs).mono ?_;rintro _ _ ⟨rfl,rfl⟩;(conv=>whnf))|(refine (c_outs).mono ?_;rintro _ _ ⟨rfl,rfl⟩;(conv=>whnf))|(refine (c_seen).mono ?_;rintro _ _ ⟨rfl,rfl⟩;(conv=>whnf))|(intro z hz;obtain rfl:z=0:=hz.trans (by first|rfl|decide);(conv=>whnf)))
      exact ⟨j+1,rfl,rfl,by omega,by omega⟩
    ·have hb:¬(okMsg 4 m∧m.dst=1):=fun h=>ho h.1
     rw [decide_eq_false ho]
     conv=>whnf
     refine rdz ?_;repeat' ((with_reducible apply tw)<;>intro _)
     refine ⟨by omega,m.cs,msgsD_at hmj,?_⟩
     conv=>whnf
     refine (copyMsg_ok m hsm).mono ?_
     rintro _ _ ⟨rfl,rfl⟩
     conv=>whnf
     refine rdz ?_;repeat' ((with_reducible apply tw)<;>intro _)
     refine (take_bad m hsm.fine hb).mono ?_
     rintro _ _ ⟨rfl,rfl⟩
     conv=>whnf
     repeat' (first|(first|((with_reducible apply z_wrap);(focus omega);(conv=>whnf))|((with_reducible first|apply mt_dec|apply mt_eq|apply mt_ne|apply mt_not|apply mt_any)<;>(intro _;conv=>whnf)))|(refine (e1).mono ?_;rintro _ _ ⟨rfl,rfl⟩;(conv=>whnf))|(refine (c_certs).mono ?_;rintro _ _ ⟨rfl,rfl⟩;(conv=>whnf))|(refine (c_outs).mono ?_;rintro _ _ ⟨rfl,rfl⟩;(conv=>whnf))|(refine (c_seen).mono ?_;rintro _ _ ⟨rfl,rfl⟩;(conv=>whnf))|(intro z hz;obtain rfl:z=0:=hz.trans (by first|rfl|decide);(conv=>whnf)))
     exact ⟨j+1,rfl,rfl,by omega,by omega⟩
  ·exact ⟨(),rfl,rfl,trivial⟩
  ·exact ⟨(),rfl,rfl,trivial⟩
end Go.Proofs.YtgkhgapkfnkagaaGreatDoor
namespace Go.Proofs.YtgkhgapkfnkagaaGreatDoor
open Go.Ab Go.RowKit
theorem askP_nums {xs:List (List DV)} (h:∀ x∈xs,∃ n,x=[DV.int .i64 n]∧(Lit.int .i64 n).wf=true):∃ l:List Int,xs=nums l∧∀ n∈l,i64 n :=
 map_of (f:=fun n:Int=>[.int .i64 n]) fun x hx=>by
  obtain ⟨n,h1,h2⟩:=h x hx
  have hb : -9223372036854775808≤n∧n≤9223372036854775807:=by simpa [Lit.wf,IntKind.min,IntKind.max,IntKind.signed,IntKind.bits] using h2
  exact ⟨n,h1,hb.1,by omega⟩
theorem askP_i64 {n:Int} (h2:(Lit.int .i64 n).wf=true):i64 n:=by
 have hb : -9223372036854775808≤n∧n≤9223372036854775807:=by simpa [Lit.wf,IntKind.min,IntKind.max,IntKind.signed,IntKind.bits] using h2
 exact ⟨hb.1,by omega⟩
theorem askP_row {a:List DV} (h:∃ xs,a=[DV.sl 1 xs]∧xs.length * 8≤140737488355328∧∀ x∈xs,∃ n,x=[DV.int .i64 n]∧(Lit.int .i64 n).wf=true):∃ l:List Int,a=[.sl 1 (nums l)]∧few l∧∀ n∈l,i64 n:=by
 obtain ⟨xs,rfl,h1,h2⟩:=h
 obtain ⟨l,rfl,hl⟩:=askP_nums h2
 rw [nums_length] at h1
 exact ⟨l,rfl,by unfold few;omega,hl⟩
theorem askP_head (k:Nat) {ds:List DV} (h:DTy tt (k+3) 38 ds):∃ c:Cert,ds=[.int .i64 c.author,.int .i64 c.round,.sl 1 (nums c.bats),.sl 1 (nums c.pars)]∧c.ok:=by
 replace h:DTyF (DTy tt (k+2)) [3,3,36,36] ds:=h
 obtain ⟨a4,b4,rfl,h4,a5,b5,rfl,h5,a6,b6,rfl,h6,a7,b7,rfl,h7,rfl⟩:=h
 replace h4:∃ x,a4=[.int .i64 x]∧(Lit.int .i64 x).wf=true:=h4
 replace h5:∃ x,a5=[.int .i64 x]∧(Lit.int .i64 x).wf=true:=h5
 obtain ⟨l6,rfl,f6,e6⟩:=askP_row h6
 obtain ⟨l7,rfl,f7,e7⟩:=askP_row h7
 obtain ⟨x4,rfl,w4⟩:=h4
 obtain ⟨x5,rfl,w5⟩:=h5
 exact ⟨⟨x4,x5,l6,l7,0,[]⟩,rfl,askP_i64 w4,askP_i64 w5,⟨f6,e6⟩,⟨f7,e7⟩,⟨by show (-9223372036854775808:Int)≤0;decide,by show (0:Int)<9223372036854775808;decide⟩,⟨Nat.zero_le _,fun n h=>(by cases h)⟩⟩
theorem askP_cert (k:Nat) {ds:List DV} (h:DTy tt (k+4) 40 ds):∃ c:Cert,ds=c.cs∧c.ok:=by
 replace h:DTyF (DTy tt (k+3)) [38,3,36] ds:=h
 obtain ⟨a1,b1,rfl,h1,a2,b2,rfl,h2,a3,b3,rfl,h3,rfl⟩:=h
 obtain ⟨c,rfl,hc⟩:=askP_head k h1
 replace h2:∃ x,a2=[.int .i64 x]∧(Lit.int .i64 x).wf=true:=h2
 obtain ⟨l3,rfl,f3,e3⟩:=askP_row h3
 obtain ⟨x2,rfl,w2⟩:=h2
 exact ⟨⟨c.author,c.round,c.bats,c.pars,x2,l3⟩,rfl,hc.author,hc.round,hc.bats,hc.pars,askP_i64 w2,⟨f3,e3⟩⟩
theorem askR_head (k:Nat) {ds:List DV} (h:DTy tt (k+3) 38 ds):∃ c:Cert,ds=[.int .i64 c.author,.int .i64 c.round,.sl 1 (nums c.bats),.sl 1 (nums c.pars)]∧c.ok∧c.digest=0∧c.sigs=[]:=by
 obtain ⟨c,h1,h2⟩:=askP_head k h
 exact ⟨⟨c.author,c.round,c.bats,c.pars,0,[]⟩,h1,⟨h2.author,h2.round,h2.bats,h2.pars,⟨by show (-9223372036854775808:Int)≤0;decide,by show (0:Int)<9223372036854775808;decide⟩,⟨Nat.zero_le _,fun n h=>(by cases h)⟩⟩,rfl,rfl⟩
theorem askR_txs {a:List DV} (h:DTy tt 3 33 a):∃ l:List Tx,a=[.sl 4 (txsD l)]∧few l∧∀ t∈l,t.ok:=by
 replace h:∃ xs,a=[.sl 4 xs]∧xs.length * 48≤140737488355328∧∀ x∈xs,DTy tt 2 52 x:=h
 obtain ⟨x3,rfl,w3,e3⟩:=h
 obtain ⟨l,rfl,hl⟩:=map_of (f:=Tx.cs) (ok:=Tx.ok) (xs:=x3) fun x hx=>by
  have h:=e3 x hx
  replace h:DTyF (DTy tt 1) [3,3,9,9] x:=h
  obtain ⟨a1,b1,rfl,h1,a2,b2,rfl,h2,a3,b3,rfl,h3,a4,b4,rfl,h4,rfl⟩:=h
  replace h1:∃ x,a1=[.int .i64 x]∧(Lit.int .i64 x).wf=true:=h1
  replace h2:∃ x,a2=[.int .i64 x]∧(Lit.int .i64 x).wf=true:=h2
  replace h3:∃ s,a3=[.str s]∧s.size≤140737488355328:=h3
  replace h4:∃ s,a4=[.str s]∧s.size≤140737488355328:=h4
  obtain ⟨x1,rfl,w1⟩:=h1
  obtain ⟨x2,rfl,w2⟩:=h2
  obtain ⟨x3,rfl,w3⟩:=h3
  obtain ⟨x4,rfl,w4⟩:=h4
  exact ⟨⟨x1,x2,x3,x4⟩,rfl,⟨w3,w4⟩⟩
 simp only [List.length_map] at w3
 exact ⟨l,rfl,by unfold few;omega,hl⟩
theorem askR_msg {ds:List DV} (h:DTy tt 5 42 ds):∃ m:Msg,ds=m.cs∧m.ok∧(∀ t∈m.txs,t.ok)∧m.head.sigs=[]:=by
 replace h:DTyF (DTy tt 4) [3,3,3,3,35,38,40,36] ds:=h
 obtain ⟨a1,b1,rfl,h1,a2,b2,rfl,h2,a3,b3,rfl,h3,a4,b4,rfl,h4,a5,b5,rfl,h5,a6,b6,rfl,h6,a7,b7,rfl,h7,a8,b8,rfl,h8,rfl⟩:=h
 replace h1:∃ x,a1=[.int .i64 x]∧(Lit.int .i64 x).wf=true:=h1
 replace h2:∃ x,a2=[.int .i64 x]∧(Lit.int .i64 x).wf=true:=h2
 replace h3:∃ x,a3=[.int .i64 x]∧(Lit.int .i64 x).wf=true:=h3
 replace h4:∃ x,a4=[.int .i64 x]∧(Lit.int .i64 x).wf=true:=h4
 replace h5:DTyF (DTy tt 3) [3,3,33] a5:=h5
 obtain ⟨c1,d1,rfl,k1,c2,d2,rfl,k2,c3,d3,rfl,k3,rfl⟩:=h5
 replace k1:∃ x,c1=[.int .i64 x]∧(Lit.int .i64 x).wf=true:=k1
 replace k2:∃ x,c2=[.int .i64 x]∧(Lit.int .i64 x).wf=true:=k2
 obtain ⟨x1,rfl,w1⟩:=h1
 obtain ⟨x2,rfl,w2⟩:=h2
 obtain ⟨x3,rfl,w3⟩:=h3
 obtain ⟨x4,rfl,w4⟩:=h4
 obtain ⟨y1,rfl,v1⟩:=k1
 obtain ⟨y2,rfl,v2⟩:=k2
 obtain ⟨txs,rfl,htx,htk⟩:=askR_txs k3
 obtain ⟨hd,rfl,hh,hd0,hs0⟩:=askR_head 1 h6
 obtain ⟨c,rfl,hc⟩:=askP_cert 0 h7
 obtain ⟨l8,rfl,f8,e8⟩:=askP_row h8
 exact ⟨⟨x1,x2,x3,x4,y1,y2,txs,hd,c,l8⟩,rfl,⟨htx,hh,hc,f8⟩,htk,hs0⟩
theorem askN_msgs {ds:List DV} (h:DTy tt 6 22 ds):∃ l:List Msg,ds=[.sl 18 (msgsD l)]∧few l∧∀ m∈l,m.in0:=by
 replace h:∃ xs,ds=[.sl 18 xs]∧xs.length * 256≤140737488355328∧∀ x∈xs,DTy tt 5 42 x:=h
 obtain ⟨x3,rfl,w3,e3⟩:=h
 obtain ⟨l,rfl,hl⟩:=map_of (f:=Msg.cs) (ok:=Msg.in0) fun x hx=>by
  obtain ⟨m,h1,h2,h3,h4⟩:=askR_msg (e3 x hx)
  exact ⟨m,h1,⟨h2,h3,h4⟩⟩
 simp only [List.length_map] at w3
 exact ⟨l,rfl,by unfold few;omega,hl⟩
end Go.Proofs.YtgkhgapkfnkagaaGreatDoor
/- NodeForms: for every list of messages the law returns true, and its argument reads behind the call as it read before; the tied card of it. The package-level variables that its row lists read as its row says (the tie is given). No condition of ours. -/
namespace Go.Proofs.YtgkhgapkfnkagaaGreatDoor
open Go.Ab Go.RowKit Go.ChangeShapes Go.WideShapes Go.ChangeAt
variable {H:Type} {enc:TypeId×Value→H}
theorem wrap_and_shaped {a:Assume} {C:Checked} {os:Os} {f:FuncId} {fn:Func} {s:ChangeSpec} {conds:List PathCond} {apart fresh handsOn again:Bool} {X:World→Array Value→Prop}
  (hX:∀ (w w':World) (args:Array Value),w.heap=w'.heap→X w args→X w' args)
  (own:ownKnob C.prog.godebug=none) (started:os.Started) (noInit:C.prog.inits.idxOf? f=none) (hfn:C.prog.funcs[f]? = some fn)
  (witness:∃ (w:World) (tape:Tape) (i:Input),w.os=os∧(w.forCall tape i).Shaped C.prog∧i.vars=[]∧Input.okWide C.prog (w.forCall tape i) .any w.heap.size f i ∧
    ((s.pre enc C.prog fn conds apart (w.forCall tape i).memory i.args∧X (w.forCall tape i).memory i.args)∧sizedMet enc C.prog fn (OpenSpec.ofChange s) apart (w.forCall tape i).memory i.args)∧a.holds C.prog (lone (Frame.enter C.prog f i.args .normal) [] (w.forCall tape i)))
  (contract:∀ (W:World) (base:Nat) (args:Array Value) (ds gs:List (DataW H)) (before:List MemPlace),
    (∀ (j:Nat) t v,fn.params[j]? = some t→args[j]? = some v→Value.okWide C.prog W .any base t v) →
    DataW.Whole enc C.prog fn.params.toList s.vars apart W args.toList ds gs before →
    (DataW.weightsEach C.prog (fn.params.toList++s.plain.varTypes C.prog) (ds++gs)).all (· ≤ reachBytes)=true→X W args→W.ShapedOpen C.prog →
    Calls C.prog f args W fun e W'=>∃ v,e = .returned v∧s.post enc C.prog fn apart fresh handsOn again W args v W') :
  ReturnsInHanded a C os f .any (fun w args=>(s.pre enc C.prog fn conds apart w args∧X w args)∧sizedMet enc C.prog fn (OpenSpec.ofChange s) apart w args) (s.post enc C.prog fn apart fresh handsOn again):=by
 refine returnsInHanded_of_calls own started noInit witness ?_
 intro w tape i _ hsh _ hok hpre hholds
 obtain ⟨_,_,_,fn',hfn',_,_,_,_,hval⟩:=hok
 have e:fn'=fn:=Option.some.inj (hfn'.symm.trans hfn)
 subst e
 obtain ⟨⟨⟨ds,gs,before,hw,hc⟩,hx⟩,hz⟩:=hpre
 have hw':=DataW.Whole.of_heap (w':=w.forCall tape i) (by rfl) hw
 refine (contract (w.forCall tape i) w.heap.size i.args ds gs before hval hw' (hz.weights hw) (hX _ _ _ (by rfl) hx) hsh).mono fun e W' ⟨v,he,hp⟩ => ?_
 subst he
 exact ChangeSpec.post_blind hp
def laidL:List (String×DataW Unit):=Rows.nodeFormsRow.laid
theorem laid_plain:(laidL.all fun x=>x.2.handleName?.isNone)=true:=by kernel_rfl
theorem okWide_slice {P:Program} {W:World} {base:Nat} {t e:TypeId} {v:Value} (hu:P.underlying t=some (.slice e)) (hv:Value.okWide P W .any base t v):v.oneCell'=true:=by
 cases v<;>simp_all [Value.okWide,Cell.okWide,Cell.ok,Value.oneCell']
theorem own:ownKnob Tryz.prog.godebug=none:=by kernel_rfl
theorem laidOut:laidOutB Tryz.prog=true:=by kernel_rfl
set_option maxRecDepth 100000 in
theorem nodeForms_lifted (os:Os) (started:os.Started) (H:Type) (enc:TypeId×Value→H) :
  ReturnsInHanded {} Tryz.checked os 3 .any (fun w args=>(Rows.nodeFormsSpec.pre enc Tryz.prog Tryz.f3 [] false w args∧laidMetH Tryz.prog laidL w)∧sizedMet enc Tryz.prog Tryz.f3 (OpenSpec.ofChange Rows.nodeFormsSpec) false w args)
   (Rows.nodeFormsSpec.post enc Tryz.prog Tryz.f3 false true false false):=by
 refine wrap_and_shaped (C:=Tryz.checked) (X:=fun w _=>laidMetH Tryz.prog laidL w) (fun _ _ _ hh h=>h.of_heap hh) own started (by kernel_rfl) Tryz.func3
  (ChangeSpec.witness_shaped (enc:=enc) (C:=Tryz.checked) (os:=os) (X:=fun w _=>laidMetH Tryz.prog laidL w) false (World.laidAll Tryz.prog os laidL) #[.slice none 0 0] 8 (World.laidAll_os _ _ _)
    (World.shaped_of_ZipB (by kernel_rfl) (by kernel_rfl)) (by kernel_rfl) (by kernel_rfl) (by kernel_rfl)
    (by rw [MakeChecks.laidMetH_plain _ _ _ laid_plain];exact laidMet_laidAll _ (by kernel_rfl) (by kernel_rfl))) ?_
 intro W base args ds gs before hval hW hsz hL hsh
 exact law_contract ttOk (f:=Tryz.f3) (tb:=4) (t:=22) rfl rfl Tryz.underlying4 rfl (fun _ _=>rfl) laidOut (by kernel_rfl) (of_decide_eq_true (by kernel_rfl)) 6 (by kernel_rfl) arg1
  (fun W base v ds h1 h2=>arg1_ok (okWide_slice Tryz.underlying22 h1) h2)
  (fun ds hd=>by
    obtain ⟨l,rfl,hf,hl⟩:=askN_msgs hd
    exact nodeForms_walk l hf hl) hval hW hsz
theorem jf1:Tryz.prog.inPlace 3=Rows.nodeFormsRow.inPlace:=by kernel_rfl
theorem jf2:Tryz.prog.unfollowed 3=Rows.nodeFormsRow.unfollowed:=by kernel_rfl
theorem jf3:Tryz.prog.recurses 3=Rows.nodeFormsRow.recurses:=by kernel_rfl
theorem jf4:Tryz.prog.varsNamed 3=Rows.nodeFormsRow.named:=by kernel_rfl
theorem jf5:mapsRowed Tryz.prog=true:=by kernel_rfl
theorem jf:joinedFacts Tryz.prog 3 Tryz.f3 Rows.nodeFormsSpec Rows.nodeFormsRow=true:=by
 unfold joinedFacts
 rw [jf1,jf2,jf3,jf4,jf5,laidOut]
 kernel_rfl
theorem nodeForms_said:Rows.NodeFormsSaid :=
 OpenClaim.holds_of_wide 3 Tryz.f3 rfl rfl rfl rfl rfl rfl rfl ⟨rfl,rfl,rfl,rfl,rfl⟩ rfl rfl rfl rfl rfl (by kernel_rfl) Tryz.func3 jf
  (of_decide_eq_true (by kernel_rfl)) (by unfold Func.isWrapper;first|(rw [if_pos (by decide +kernel)];kernel_rfl)|(rw [if_neg (by decide +kernel)];exact ⟨rfl,rfl⟩))
  (fun os started H enc _=>nodeForms_lifted os started H enc)
#print axioms nodeForms_said
end Go.Proofs.YtgkhgapkfnkagaaGreatDoor
/- The tied card of NodeForms: for every list of messages the law returns true, and its argument reads behind the call as it read before; the package-level variables that its row lists read as its row says (the tie is given). No condition of ours. -/
namespace Go.Proofs.YtgkhgapkfnkagaaGreatDoor
open Go.Ab Go.RowKit Go.ChangeShapes Go.WideShapes Go.ChangeAt
theorem noGo:Tryz.prog.funcs.toList.any Func.goes=false:=by kernel_rfl
theorem noGoF (f:FuncId):Tryz.prog.goes f=false:=by
 have key:∀ fn,fn∈Tryz.prog.funcs.toList→Func.goes fn=false:=fun fn h=>by simpa using List.any_eq_false.1 noGo fn h
 have key2:∀ g:Nat,(Tryz.prog.funcs[g]?).any Func.goes=false:=by
  intro g
  cases h:Tryz.prog.funcs[g]? with
  | none=>rfl
  | some fn=>exact key fn (Array.mem_toList_iff.2 (Array.mem_of_getElem? h))
 have h1:((Tryz.prog.closure f).any fun g=>(Tryz.prog.funcs[g]?).any Func.goes)=false:=List.any_eq_false.2 fun g _=>by rw [key2 g];decide
 have h2:Tryz.prog.funcs.any Func.goes=false:=by rw [← Array.any_toList];exact noGo
 unfold Program.goes
 rw [h1,h2]
 simp
theorem goes0:false=Rows.nodeFormsRow.goesBy Tryz.prog:=by
 unfold OpenClaim.goesBy Program.goesAt Program.goesFrom
 have h:∀ o:Option FuncId,o.any Tryz.prog.goes=false:=fun o=>by
  cases o with
  | none=>rfl
  | some f =>
    rw [Option.any_some]
    exact noGoF f
 rw [h]
 rfl
theorem nodeFormsCard_holds:Rows.NodeFormsCardSaid :=
 Claim7.holds_tied_plain_at .later [] [.data,.data,.data,.sentinel,.sentinel] true (true, "416382e0c6c350adc1884a1ca276f1975b18003cd6de93818a1bf815c3388241") true nodeForms_said (fun _ h=>by cases h) (by kernel_rfl) (fun _ h=>by cases h) nodeForms_row_tie rfl ⟨rfl,rfl⟩ (by kernel_rfl) rfl
  (fun f fn hf hfn=>by
    obtain rfl:f=3:=Option.some.inj ((show Tryz.prog.funcNamed "drover/droverlaw26.NodeForms" = some 3 by kernel_rfl).symm.trans hf) |>.symm
    obtain rfl:fn=Tryz.f3:=(Option.some.inj (Tryz.func3.symm.trans hfn)).symm
    exact ⟨by kernel_rfl,fun j t ht=>by
     rw [Tryz.params3] at ht
     have hm:t∈[22]:=by simpa using Array.mem_of_getElem? ht
     have hall:([22].all fun u => !Tryz.prog.wantsStandIn u)=true:=by kernel_rfl
     exact (show Tryz.prog.wantsStandIn t=false by simpa using List.all_eq_true.1 hall t hm)⟩)
  goes0
#print axioms nodeFormsCard_holds
end Go.Proofs.YtgkhgapkfnkagaaGreatDoor
