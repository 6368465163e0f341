/- PrimaryStrange: contracts. -/
import Derived.Test.YtolkmjfkkkiboaaGreatPrimaryStrangeCodA
import Derived.Ground.SlgmProg
import Derived.Shelf.SortM.Plain
import Derived.Shelf.SortM.SortNone
import Derived.Test.YtolkmjfkkkiboaaGreatProg
set_option linter.unusedVariables false
set_option linter.unusedSimpArgs false
namespace Go.Proofs.YtolkmjfkkkiboaaGreat
open Go.Ab Go.RowKit Go.MapKept
attribute [local irreducible] ACalls AW ADraw Into fltB fnear
set_option maxRecDepth 100000
theorem take_pos {r a:Int}:∀ {l:List Cert},sortedC l→l.take (pos l r a)=l.filter (fun c=>c.before r a)∧l.drop (pos l r a)=l.filter (fun c => !c.before r a)
 | [],_=>⟨rfl,rfl⟩
 | x :: t,hs=>by
   have hs':=List.pairwise_cons.1 hs
   obtain ⟨i1,i2⟩:=take_pos (r:=r) (a:=a) hs'.2
   cases hx:x.before r a with
   | true =>
     have hp:pos (x :: t) r a=pos t r a+1:=by simp [pos,hx]
     rw [hp,List.take_succ_cons,List.drop_succ_cons,i1,i2]
     simp [hx]
   | false =>
     have hall:∀ y∈t,y.before r a=false:=by
      intro y hy
      cases hb:y.before r a with
      | false=>rfl
      | true =>
        have h1:=before_iff.1 (hs'.1 y hy)
        have h2:=before_iff.1 hb
        have:x.before r a=true:=before_iff.2 (by omega)
        rw [hx] at this;cases this
     have hf:t.filter (fun c=>c.before r a)=[]:=List.filter_eq_nil_iff.2 fun y hy=>by simp [hall y hy]
     have hg:t.filter (fun c => !c.before r a)=t:=List.filter_eq_self.2 fun y hy=>by simp [hall y hy]
     have hp:pos (x :: t) r a=0:=by simp [pos,hx,hf]
     rw [hp]
     simp [hx,hf,hg]
def ofR (l:List Cert) (r:Int):List Cert:=l.filter fun c=>decide (c.round=r)
def auth (l:List Cert):Prop:=∀ c∈l,1≤c.author∧c.author≤16
theorem sortedC.filter {l:List Cert} (h:sortedC l) (p:Cert→Bool):sortedC (l.filter p):=List.Pairwise.sublist List.filter_sublist h
theorem of_slice {l:List Cert} {r:Int} (hs:sortedC l) (ha:auth l):pos l r 0≤pos l r 17∧(l.take (pos l r 17)).drop (pos l r 0)=ofR l r:=by
 have h17:=(take_pos (r:=r) (a:=17) hs).1
 have hle:pos l r 0≤pos l r 17:=by
  unfold pos
  rw [← List.countP_eq_length_filter,← List.countP_eq_length_filter]
  exact List.countP_mono_left fun c hc h=>before_iff.2 (by have:=before_iff.1 h;omega)
 refine ⟨hle,?_⟩
 rw [h17]
 have hp:pos (l.filter fun c=>c.before r 17) r 0=pos l r 0:=by
  unfold pos
  rw [List.filter_filter]
  congr 1
  refine List.filter_congr fun c hc => ?_
  cases h:c.before r 0 with
  | false=>rfl
  | true =>
    have:c.before r 17=true:=before_iff.2 (by have:=before_iff.1 h;omega)
    rw [this];rfl
 rw [← hp,(take_pos (r:=r) (a:=0) (hs.filter _)).2,List.filter_filter]
 refine List.filter_congr fun c hc => ?_
 have:=ha c hc
 by_cases h:c.round=r
 ·have h1:c.before r 17=true:=before_iff.2 (by omega)
  have h2:c.before r 0=false:=by
   cases hb:c.before r 0 with
   | false=>rfl
   | true=>have:=before_iff.1 hb;omega
  simp [h,h1,h2]
 ·rcases Int.lt_or_gt_of_ne h with h1|h1
  ·have:c.before r 0=true:=before_iff.2 (.inl h1)
   simp [h,this]
  ·have:c.before r 17=false:=by
    cases hb:c.before r 17 with
    | false=>rfl
    | true=>have:=before_iff.1 hb;omega
   simp [h,this]
def topR (l:List Cert):Int:=(l.getLast?).elim 0 (·.round)
structure Dag.fit (d:Dag):Prop where
 few:few d.certs
 sorted:sortedC d.certs
 fit:fitC d.certs
 auth:auth d.certs
theorem find0_ok (l:List Cert) (r:Int) (hl:few l) (hs:sortedC l) (hf:fitC l) (hr:isF r):ACalls Tryz.prog 154 [.d (.sl 6 (certsD l)),.d (.cplx .f64 (fnear .f64 r) 0)] [] (fun av L=>av = .tup [.d (.int .i64 (pos l r 0)),.d (.bool (atC l r 0).isSome)]∧L=[]):=by
 have:=find_ok l r 0 hl hs hf hr ⟨by decide,by decide⟩
 rw [plb,fnear_0] at this
 exact this
theorem find17_ok (l:List Cert) (r:Int) (hl:few l) (hs:sortedC l) (hf:fitC l) (hr:isF r):ACalls Tryz.prog 154 [.d (.sl 6 (certsD l)),.d (.cplx .f64 (fnear .f64 r) 4625478292286210048)] [] (fun av L=>av = .tup [.d (.int .i64 (pos l r 17)),.d (.bool (atC l r 17).isSome)]∧L=[]):=by
 have:=find_ok l r 17 hl hs hf hr ⟨by decide,by decide⟩
 rw [plb,fnear_17] at this
 exact this
theorem dagOf_ok (d:Dag) (hd:d.fit) (r:Int) (hr:isF r):ACalls Tryz.prog 137 [d.av,.d (.int .i64 r)] [] (fun av L=>av = .d (.sl 6 (certsD (ofR d.certs r)))∧L=[]):=by
 have hcl:=certsD_length d.certs
 obtain ⟨h1,h2⟩:=of_slice (r:=r) hd.sorted hd.auth
 have h3:=pos_le d.certs r 17
 have h4:=hd.few
 unfold few at h4
 (refine acalls_go ttOk zOk foOk Tryz.func137 rfl Tryz.ntmps137 rfl false rfl ?_);(conv=>whnf)
 refine (find0_ok d.certs r hd.few hd.sorted hd.fit hr).mono ?_
 rintro _ _ ⟨rfl,rfl⟩
 conv=>whnf
 refine (find17_ok d.certs r hd.few hd.sorted hd.fit hr).mono ?_
 rintro _ _ ⟨rfl,rfl⟩
 conv=>whnf
 refine rdw ?_;repeat' ((with_reducible apply tw)<;>intro _)
 refine ⟨by omega,by omega,by omega,?_⟩
 conv=>whnf
 rw [show (certsD (ofR d.certs r))=((certsD d.certs).take (pos d.certs r 17)).drop (pos d.certs r 0) by rw [← h2];simp [certsD,List.map_drop,List.map_take]]
 exact ⟨rfl,rfl⟩
theorem index_ok (l:List Int) (hl:few l) (x:Int):ACalls Tryz.prog 174 [.d (.sl 1 (nums l)),.d (.int .i64 x)] [] (fun av L=>(∃ z:Int,av = .d (.int .i64 z)∧(z≥0↔x∈l))∧L=[]):=by
 have hll:=nums_length l
 unfold few at hl
 (refine acalls_go ttOk zOk foOk Tryz.func174 rfl Tryz.ntmps174 rfl false rfl ?_);(conv=>whnf)
 refine loop_go ttOk zOk foOk (σ:=Nat) (fun j=>([(0,.d (.sl 1 (nums l))),(1,.d (.int .i64 x)),(7,.d (.int .i64 l.length)),(8,.d (.int .i64 j))],[])) (fun j=>j≤l.length∧¬x∈l.take j) (fun j=>l.length - j) [0,1,7,8] ?_ ?_
 ·conv=>whnf
  exact ⟨0,by rw [hll];rfl,rfl,Nat.zero_le _,by simp⟩
 ·rintro j ⟨h1,h2⟩
  conv=>whnf
  refine rdw ?_;repeat' ((with_reducible apply tw)<;>intro _)
  ·rename_i h
   obtain ⟨y,hy⟩:∃ y,l[j]? = some y:=⟨_,List.getElem?_eq_getElem (by omega)⟩
   refine ⟨by omega,[.int .i64 y],nums_at hy,?_⟩
   conv=>whnf
   refine rdw ?_;repeat' ((with_reducible apply tw)<;>intro _)
   ·rename_i h3
    exact ⟨⟨_,rfl,by rw [h3];exact ⟨fun _=>List.mem_of_getElem? hy,fun _=>Int.natCast_nonneg _⟩⟩,rfl⟩
   ·rename_i h3
    exact ⟨j+1,rfl,rfl,⟨by omega,by rw [List.take_add_one,hy];simpa using ⟨h2,h3⟩⟩,by omega⟩
  ·rename_i h
   rw [show j=l.length by omega,List.take_length] at h2
   exact ⟨⟨_,rfl,⟨fun h3=>absurd h3 (by decide),fun h3=>absurd h3 h2⟩⟩,rfl⟩
theorem contains_ok (l:List Int) (hl:few l) (x:Int):ACalls Tryz.prog 135 [.d (.sl 1 (nums l)),.d (.int .i64 x)] [] (fun av L=>av = .d (.bool (decide (x∈l)))∧L=[]):=by
 (refine acalls_go ttOk zOk foOk Tryz.func135 rfl Tryz.ntmps135 rfl false rfl ?_);(conv=>whnf)
 refine (index_ok l hl x).mono ?_
 rintro _ _ ⟨⟨z,rfl,hz⟩,rfl⟩
 conv=>whnf
 exact ⟨boolEq (by simpa using hz),rfl⟩
def fewC (d:Dag):Prop:=∀ c∈d.certs,few c.pars
theorem cf_ok (n:Int) (hn:0<n∧n≤16):ACalls Tryz.prog 171 [.d (.int .i64 n)] [] (fun av L=>av = .d (.int .i64 ((n - 1) / 3))∧L=[]):=by
 (refine acalls_go ttOk zOk foOk Tryz.func171 rfl Tryz.ntmps171 rfl false rfl ?_);(conv=>whnf)
 ((with_reducible apply z_wrap);(focus omega);(conv=>whnf))
 refine ⟨by decide,?_⟩
 intro z hz
 have:z=(n - 1) / 3:=by rw [hz,Int.tdiv_eq_ediv_of_nonneg (by omega),wrapI (by omega)]
 clear hz
 subst this
 conv=>whnf
 exact ⟨rfl,rfl⟩
structure Dag.well (d:Dag):Prop where
 fit:d.fit
 nodes:0<d.nodes∧d.nodes≤16
 pars:fewC d
 low:0≤d.low∧d.low≤1099511627776
 top:topR d.certs≤1099511627776
 len:d.certs.length≤65536
 dig:(d.certs.map (·.digest)).Nodup
 pos:∀ c∈d.certs,1≤c.digest
def getC (l:List Cert) (x:Int):Option Nat:=l.findIdx? fun c=>decide (c.digest=x)
def getI (l:List Cert) (x:Int):Int:=(getC l x).elim (-1) fun i=>(i:Int)
end Go.Proofs.YtolkmjfkkkiboaaGreat
namespace Go.Proofs.YtolkmjfkkkiboaaGreat
open Go.Ab Go.RowKit
end Go.Proofs.YtolkmjfkkkiboaaGreat
namespace Go.Proofs.YtolkmjfkkkiboaaGreat
open Go.Ab Go.RowKit Go.MapKept
attribute [local irreducible] ACalls AW ADraw Into fltB fnear
set_option maxRecDepth 100000
theorem isNaNi_ok (x:Int):ACalls Tryz.prog 249 [.d (.int .i64 x)] [] (fun av L=>av = .d (.bool false)∧L=[]):=by
 (refine acalls_go ttOk zOk foOk Tryz.func249 rfl Tryz.ntmps249 rfl false rfl ?_);(conv=>whnf)
 refine ⟨?_,rfl⟩
 show AV.d (.bool (x != x))=_
 rw [bne_self_eq_false]
def risingI (l:List Int):Prop:=l.Pairwise (· < ·)
end Go.Proofs.YtolkmjfkkkiboaaGreat
/-
  DERIVED: THE SHELF's CONTRACTS AT THIS DUMP, IN PLAIN WORDS (tools/lay-plain.mjs out of 'TryzShelf.lean', which tools/lay-shelf.mjs wrote): THE SAME DECLARATIONS UNDER THE SAME NAMES: 'import', 'namespace', 'open', 'def', 'theorem' AND NOTHING ELSE: no command of the shelf's: FOR A HAND-IN. Each laying: the table of numbers ('.._ren') and one theorem, a field a fact of the dump's own or the kernel's comparison; each contract: ONE APPLICATION.
-/
namespace Go.Proofs
open Go.Shelf
def Tryz.laysSlM5_f136_ren:Go.Shelf.Ren:=⟨fun|5=>136|8=>176|7=>175|19=>217|20=>218|10=>208|11=>209|12=>210|13=>211|14=>212|15=>213|16=>214|17=>215|18=>216|30=>244|31=>245|32=>246|33=>247|34=>248|35=>249|40=>259|n=>n,fun|23=>22|25=>3|3=>3|32=>113|22=>22|0=>0|44=>209|46=>211|4=>4|36=>204|35=>203|41=>165|5=>5|9=>9|53=>229|57=>233|63=>239|64=>240|n=>n,fun|n=>n⟩
theorem Tryz.laysSlM5_f136:Go.Proofs.SlLaysM.n5 Tryz.prog Tryz.laysSlM5_f136_ren:={
 mixed:=by kernel_rfl
 f5:=⟨Tryz.f136.name,by decide,Tryz.func136.trans (congrArg some (by kernel_rfl))⟩
 f7:=⟨Tryz.f175.name,by decide,Tryz.func175.trans (congrArg some (by kernel_rfl))⟩
 f8:=Tryz.func176.trans (congrArg some (by kernel_rfl))
 f10:=⟨Tryz.f208.name,by decide,Tryz.func208.trans (congrArg some (by kernel_rfl))⟩
 f11:=⟨Tryz.f209.name,by decide,Tryz.func209.trans (congrArg some (by kernel_rfl))⟩
 f12:=⟨Tryz.f210.name,by decide,Tryz.func210.trans (congrArg some (by kernel_rfl))⟩
 f13:=⟨Tryz.f211.name,by decide,Tryz.func211.trans (congrArg some (by kernel_rfl))⟩
 f14:=⟨Tryz.f212.name,by decide,Tryz.func212.trans (congrArg some (by kernel_rfl))⟩
 f15:=⟨Tryz.f213.name,by decide,Tryz.func213.trans (congrArg some (by kernel_rfl))⟩
 f16:=⟨Tryz.f214.name,by decide,Tryz.func214.trans (congrArg some (by kernel_rfl))⟩
 f17:=⟨Tryz.f215.name,by decide,Tryz.func215.trans (congrArg some (by kernel_rfl))⟩
 f18:=⟨Tryz.f216.name,by decide,Tryz.func216.trans (congrArg some (by kernel_rfl))⟩
 f19:=Tryz.func217.trans (congrArg some (by kernel_rfl))
 f20:=Tryz.func218.trans (congrArg some (by kernel_rfl))
 f30:=⟨Tryz.f244.name,by decide,Tryz.func244.trans (congrArg some (by kernel_rfl))⟩
 f31:=Tryz.func245.trans (congrArg some (by kernel_rfl))
 f32:=Tryz.func246.trans (congrArg some (by kernel_rfl))
 f33:=⟨Tryz.f247.name,by decide,Tryz.func247.trans (congrArg some (by kernel_rfl))⟩
 f34:=⟨Tryz.f248.name,by decide,Tryz.func248.trans (congrArg some (by kernel_rfl))⟩
 f35:=⟨Tryz.f249.name,by decide,Tryz.func249.trans (congrArg some (by kernel_rfl))⟩
 f40:=⟨Tryz.f259.name,by decide,Tryz.func259.trans (congrArg some (by kernel_rfl))⟩
 t0:=Tryz.underlying0
 a0:=Tryz.isAgg0
 z0:=Tryz.sizeOf0
 v0:=Tryz.zeroValue0
 t3:=Tryz.underlying3
 a3:=Tryz.isAgg3
 z3:=Tryz.sizeOf3
 v3:=Tryz.zeroValue3
 t4:=Tryz.underlying4
 a4:=Tryz.isAgg4
 z4:=Tryz.sizeOf4
 v4:=Tryz.zeroValue4
 t5:=Tryz.underlying5
 a5:=Tryz.isAgg5
 z5:=Tryz.sizeOf5
 v5:=Tryz.zeroValue5
 t9:=Tryz.underlying9
 a9:=Tryz.isAgg9
 z9:=Tryz.sizeOf9
 v9:=Tryz.zeroValue9
 t22:=Tryz.underlying22
 a22:=Tryz.isAgg22
 z22:=Tryz.sizeOf22
 v22:=Tryz.zeroValue22
 t23:=Tryz.underlying22
 a23:=Tryz.isAgg22
 z23:=Tryz.sizeOf22
 v23:=Tryz.zeroValue22
 t25:=Tryz.underlying3
 a25:=Tryz.isAgg3
 z25:=Tryz.sizeOf3
 v25:=Tryz.zeroValue3
 t32:=Tryz.underlying113
 a32:=Tryz.isAgg113
 z32:=Tryz.sizeOf113
 v32:=Tryz.zeroValue113
 t35:=Tryz.underlying203
 a35:=Tryz.isAgg203
 z35:=Tryz.sizeOf203
 v35:=Tryz.zeroValue203
 t36:=Tryz.underlying204
 a36:=Tryz.isAgg204
 z36:=Tryz.sizeOf204
 v36:=Tryz.zeroValue204
 t41:=Tryz.underlying165
 a41:=Tryz.isAgg165
 z41:=Tryz.sizeOf165
 v41:=Tryz.zeroValue165
 t44:=Tryz.underlying209
 a44:=Tryz.isAgg209
 z44:=Tryz.sizeOf209
 v44:=Tryz.zeroValue209
 t46:=Tryz.underlying211
 a46:=Tryz.isAgg211
 z46:=Tryz.sizeOf211
 v46:=Tryz.zeroValue211
 t53:=Tryz.underlying229
 a53:=Tryz.isAgg229
 z53:=Tryz.sizeOf229
 v53:=Tryz.zeroValue229
 t57:=Tryz.underlying233
 a57:=Tryz.isAgg233
 z57:=Tryz.sizeOf233
 v57:=Tryz.zeroValue233
 t63:=Tryz.underlying239
 a63:=Tryz.isAgg239
 z63:=Tryz.sizeOf239
 v63:=Tryz.zeroValue239
 t64:=Tryz.underlying240
 a64:=Tryz.isAgg240
 z64:=Tryz.sizeOf240
 v64:=Tryz.zeroValue240 }
open Go.Sort Go.RowKit in
theorem Tryz.slices_Sort_int (blk off cap:Nat) (zs:List Int) (w:World) (hH:Holds (Value.int .i64) w blk off zs.toArray) (hblk:blk<w.heap.size) (hsz:zs.length<4611686018427387904) :
  Calls Tryz.prog 136 #[.slice (some ⟨blk,off,none⟩) zs.length cap] w fun e w' =>
   e = .returned (.tuple #[])∧∃ n os,w'=grow (putRow (Value.int .i64) (Sort.ahead w n) blk off (zs.mergeSort fun x y=>decide (x≤y)).toArray) os:=AnyM.slices_Sort_int Tryz.laysSlM5_f136 blk off cap zs w hH hblk hsz
open Go.RowKit Go.Sort in
theorem Tryz.slices_Sort_int_none (p:Option Addr) (cap:Nat) (w:World) :
  Calls Tryz.prog 136 #[.slice p 0 cap] w fun e w'=>e = .returned (.tuple #[])∧w'=w:=AnyM.slices_Sort_int_none Tryz.laysSlM5_f136 p cap w
end Go.Proofs
namespace Go.Proofs.YtolkmjfkkkiboaaGreat
open Go Go.Ab Go.RowKit Go.Sort
def sortI (l:List Int):List Int:=l.mergeSort fun x y=>decide (x≤y)
theorem VDs_nums {rd:Addr→Value→Prop}:∀ {l:List Int} {us:List Value},VDs rd (nums l).flatten us↔us=l.map (Value.int .i64)
 | [],us=>by simp [nums,VDs,Cs]
 | n :: l,us=>by
   have ih := @VDs_nums rd l
   simp only [nums,List.map_cons,List.flatten_cons,List.singleton_append,VDs,Cs] at ih ⊢
   constructor
   ·rintro ⟨u,us',rfl,h1,h2,h3⟩
    simp only [VD] at h2
    rw [h2,(ih).1 h3]
   ·rintro rfl
    exact ⟨_,_,rfl,rfl,by simp [VD],ih.2 rfl⟩
theorem sortI_ok (l:List Int) (hl:l.length<4611686018427387904):ACalls Tryz.prog 136 [.arr 0] [.row 3 1 (nums l) false] (fun av L=>av = .tup []∧L=[.row 3 1 (nums (sortI l)) false]):=by
 intro c vs hc hL0 hs hv
 have hll:=nums_length l
 simp only [VRt,VR] at hv
 obtain ⟨u,us',hvs,⟨ab,hab,har⟩,rfl⟩:=hv
 simp only [List.getElem?_cons_zero,Option.some.injEq] at hab
 subst hab
 have hvs':vs = #[u]:=by rw [← Array.toArray_toList (xs:=vs),hvs]
 rw [hvs']
 have hbr:=hs.blk 0 _ rfl
 cases hE:c.E0 0 with
 | none =>
   rw [hE] at hbr
   have hnil:l=[]:=by
    have:=hbr.2.2
    simpa [nums] using this
   subst hnil
   simp only [arRel,hE] at har
   subst har
   refine (Tryz.slices_Sort_int_none none 0 c.w0).mono ?_
   rintro e w' ⟨rfl,rfl⟩
   exact ⟨_,.tup [],_,c.E0,rfl,⟨rfl,rfl⟩,(by rw [show sortI []=[] by simp [sortI]];exact hs),⟨_,rfl,by simp [VRt]⟩⟩
 | some b =>
   rw [hE] at hbr
   simp only [arRel,hE] at har
   obtain ⟨cap,cur,rfl,hh,hsz⟩:=har
   obtain ⟨_,_,cap2,cur2,hh2,hsz2,hcap,_,hvd⟩:=hbr
   rw [hh] at hh2
   cases hh2
   rw [VDs_nums,hll,Nat.mul_one] at hvd
   have hcur:∀ j,j<l.length→cur[j]? = some (.int .i64 l[j]!):=by
    intro j hj
    have:=congrArg (fun x=>x[j]?) hvd
    simp only [List.getElem?_take,List.getElem?_map,hj,if_true] at this
    rw [← Array.getElem?_toList,this,List.getElem?_eq_getElem hj,getElem!_pos l j hj]
    rfl
   have hblk:b<c.w0.heap.size:=(Array.getElem?_eq_some_iff.1 hh).1
   have hH:Holds (Value.int .i64) c.w0 b 0 l.toArray:=by
    intro j hj
    have hj':j<l.length:=by simpa using hj
    refine ⟨?_,?_⟩
    ·simp only [World.cell?,hh,Nat.zero_add]
     have:=hcur j hj'
     simpa using this
    ·simp [World.frozen?,hh]
   rw [hll]
   refine (Tryz.slices_Sort_int b 0 cap l c.w0 hH hblk hl).mono ?_
   rintro e w' ⟨rfl,n,os,rfl⟩
   have hperm:=List.mergeSort_perm l (fun x y=>decide (x≤y))
   have hsl:(sortI l).length=l.length:=hperm.length_eq
   have k1:Keeps c.w0 (Sort.ahead c.w0 n):=⟨rfl,rfl,rfl,Nat.le_refl _,fun _ _=>rfl⟩
   have hs1:=hs.keeps hc k1
   have hle1:(rcOf c.M0 c.E0 [AB.row 3 1 (nums l) false] c.w0).le (rcOf c.M0 c.E0 [AB.row 3 1 (nums l) false] (Sort.ahead c.w0 n)):=le_keeps hs.bl k1
   obtain ⟨cur',hcur'⟩:∃ cur',putCells (Value.int .i64) 0 (sortI l).toArray cur=cur':=⟨_,rfl⟩
   have hput:putRow (Value.int .i64) (Sort.ahead c.w0 n) b 0 (sortI l).toArray=(Sort.ahead c.w0 n).setRow b cur':=by
    have e1:putRow (Value.int .i64) (Sort.ahead c.w0 n) b 0 (sortI l).toArray=mapBlock (Sort.ahead c.w0 n) b (fun _=>cur'):=by
     refine mapBlock_congr _ _ _ _ fun c1 e fr h => ?_
     have h2:c.w0.heap[b]? = some (.cells c1 e fr):=h
     rw [hh] at h2
     cases h2
     exact hcur'
    rw [e1]
    unfold mapBlock World.setRow
    congr 2
   have hsz':cur'.size=cur.size:=by rw [← hcur'];simp [putCells]
   obtain ⟨hs2,hle2⟩:=hs1.rewrite (i:=0) (zs:=nums (sortI l)) rfl hE (cur':=cur') hh hsz' (by rw [nums_length,hsl,hll]) (by simp [nums]) (by
    rw [VDs_nums,nums_length,Nat.mul_one,hsl,← hcur']
    refine List.ext_getElem? fun j => ?_
    simp only [putCells,List.getElem?_take,List.getElem?_map,Array.toList_mapIdx,List.getElem?_mapIdx,Nat.zero_le,true_and,Nat.zero_add,Nat.sub_zero,List.size_toArray,hsl]
    by_cases hj:j<l.length
    ·have hcj:=hcur j hj
     rw [← Array.getElem?_toList] at hcj
     rw [if_pos hj,hcj]
     have hj2:j<(sortI l).length:=by rw [hsl];exact hj
     simp [hj,hj2]
    ·rw [if_neg hj,List.getElem?_eq_none (by rw [hsl];omega)]
     rfl)
   have k2:Keeps ((Sort.ahead c.w0 n).setRow b cur') (grow ((Sort.ahead c.w0 n).setRow b cur') os):=⟨rfl,rfl,rfl,by simp [grow],fun b' hb'=>by simp only [grow];rw [Array.getElem?_append_left hb']⟩
   rw [show (l.mergeSort fun x y=>decide (x≤y))=sortI l from rfl,hput]
   exact ⟨_,.tup [],_,c.E0,rfl,⟨rfl,rfl⟩,hs2.keeps hc k2,⟨_,rfl,by simp [VRt]⟩⟩
end Go.Proofs.YtolkmjfkkkiboaaGreat
namespace Go.Proofs.YtolkmjfkkkiboaaGreat
open Go.Ab Go.RowKit Go.MapKept
attribute [local irreducible] ACalls AW ADraw Into fltB fnear
set_option maxRecDepth 100000
theorem clone_ok (l:List Int) (hl:l.length≤1099511627776):ACalls Tryz.prog 143 [.d (.sl 1 (nums l))] [] (fun av L=>av = .arr 0∧L=[.row 3 1 (nums l) false]):=by
 have hll:=nums_length l
 (refine acalls_go ttOk zOk foOk Tryz.func143 rfl Tryz.ntmps143 rfl true rfl ?_);(conv=>whnf)
 intro b hb
 conv=>whnf
 refine rdz ?_;repeat' ((with_reducible apply tw)<;>intro _)
 ·rename_i h
  have:l=[]:=by simpa [nums] using hb h
  subst this
  exact ⟨rfl,rfl⟩
 ·rename_i h
  refine ⟨by rw [hll];show (0+l.length) * 8≤_;omega,?_⟩
  conv=>whnf
  exact ⟨rfl,rfl⟩
theorem getC_some {l:List Cert} {x:Int} {i:Nat} (h:getC l x=some i):∃ c,l[i]? = some c∧c.digest=x:=by
 unfold getC at h
 rw [List.findIdx?_eq_some_iff_getElem] at h
 obtain ⟨hi,h1,_⟩:=h
 exact ⟨l[i],List.getElem?_eq_getElem hi,by simpa using h1⟩
theorem sortI_rising {l:List Int} (h:l.Nodup):risingI (sortI l):=by
 have h1:=List.pairwise_mergeSort (le:=fun x y:Int=>decide (x≤y)) (fun a b c h1 h2=>by simp at *;omega) (fun a b=>by simp;omega) l
 have h2:(sortI l).Nodup:=(List.mergeSort_perm l _).nodup_iff.2 h
 exact (h1.and h2).imp fun ⟨h3,h4⟩=>by simp at h3;omega
theorem rising_nodup {l:List Int} (h:risingI l):l.Nodup:=h.imp fun h=>by omega
theorem sub_len {α:Type} [DecidableEq α]:∀ {l m:List α},l.Nodup→(∀ x∈l,x∈m)→l.length≤m.length
 | [],m,_,_=>Nat.zero_le _
 | x :: r,m,hn,h=>by
   have hn':=List.nodup_cons.1 hn
   have hx:=h x (by simp)
   have:=sub_len (l:=r) (m:=m.erase x) hn'.2 (fun y hy=>(List.mem_erase_of_ne (fun e=>hn'.1 (by rw [← e];exact hy))).2 (h y (by simp [hy])))
   rw [List.length_erase_of_mem hx] at this
   have hp:=List.length_pos_of_mem hx
   simp only [List.length_cons]
   omega
theorem tmod_pos {a b:Int} (ha:0≤a) {z:Int} (hz:z=a.tmod b):z=a % b:=by rw [hz,Int.tmod_eq_emod_of_nonneg ha]
def isN (n:Int):Bool:=decide (1≤n∧n≤16∧n % 3=1)
theorem is_ok (n:Int):ACalls Tryz.prog 72 [.d (.int .i64 n)] [] (fun av L=>av = .d (.bool (isN n))∧L=[]):=by
 unfold isN
 (refine acalls_go ttOk zOk foOk Tryz.func72 rfl Tryz.ntmps72 rfl false rfl ?_);(conv=>whnf)
 refine rdz ?_;repeat' ((with_reducible apply tw)<;>intro _)
 ·rename_i h1 h2
  refine ⟨by decide,?_⟩
  intro z hz
  have hz2:=tmod_pos (by omega) hz
  clear hz
  subst hz2
  conv=>whnf
  exact ⟨boolEq (by simp;omega),rfl⟩
 ·rename_i h1 h2
  exact ⟨by rw [decide_eq_false (by omega)];rfl,rfl⟩
 ·rename_i h1
  exact ⟨by rw [decide_eq_false (by omega)];rfl,rfl⟩
theorem digest_ok (n:Int):ACalls Tryz.prog 83 [.d (.int .i64 n)] [] (fun av L=>av = .d (.bool (decide (1≤n∧n≤65536)))∧L=[]):=by
 (refine acalls_go ttOk zOk foOk Tryz.func83 rfl Tryz.ntmps83 rfl false rfl ?_);(conv=>whnf)
 refine rdz ?_;repeat' ((with_reducible apply tw)<;>intro _)
 ·rename_i h1
  exact ⟨boolEq (by simp;omega),rfl⟩
 ·rename_i h1
  exact ⟨by rw [decide_eq_false (by omega)];rfl,rfl⟩
theorem q_ok (n:Int) (hn:0<n∧n≤16):ACalls Tryz.prog 126 [.d (.int .i64 n)] [] (fun av L=>av = .d (.int .i64 (2 * ((n - 1) / 3)+1))∧L=[]):=by
 (refine acalls_go ttOk zOk foOk Tryz.func126 rfl Tryz.ntmps126 rfl false rfl ?_);(conv=>whnf)
 refine (cf_ok n hn).mono ?_
 rintro _ _ ⟨rfl,rfl⟩
 conv=>whnf
 refine rdz ?_;repeat' ((with_reducible apply tw)<;>intro _)
 exact ⟨rfl,rfl⟩
theorem rising_snoc {l:List Int} {x:Int}:risingI (l++[x])↔risingI l∧∀ y∈l,y<x:=by
 unfold risingI
 rw [List.pairwise_append]
 simp
theorem rising_last {l:List Int} {j:Nat} {y:Int} (h:risingI (l.take (j+1))) (hy:l[j]? = some y):∀ z∈l.take (j+1),z≤y:=by
 rw [List.take_add_one,hy] at h ⊢
 intro z hz
 have:=(rising_snoc (l:=l.take j) (x:=y)).1 h
 rcases List.mem_append.1 hz with hz|hz
 ·have:=this.2 z hz;omega
 ·simp at hz;omega
def riseB (l:List Int) (a b:Int):Prop:=risingI l∧∀ x∈l,a≤x∧x≤b
theorem riseB_take {l:List Int} {a b:Int} (h:riseB l a b) (j:Nat):riseB (l.take j) a b:=⟨h.1.sublist (List.take_sublist ..),fun x hx=>h.2 x (List.mem_of_mem_take hx)⟩
theorem riseB_succ {l:List Int} {a b x:Int} {j:Nat} (hx:l[j]? = some x):riseB (l.take (j+1)) a b↔riseB (l.take j) a b∧a≤x∧x≤b∧∀ y∈l.take j,y<x:=by
 unfold riseB
 rw [List.take_add_one,hx,Option.toList_some,rising_snoc]
 constructor
 ·rintro ⟨⟨h1,h2⟩,h3⟩
  exact ⟨⟨h1,fun y hy=>h3 y (by simp [hy])⟩,(h3 x (by simp)).1,(h3 x (by simp)).2,h2⟩
 ·rintro ⟨⟨h1,h2⟩,h3,h4,h5⟩
  refine ⟨⟨h1,h5⟩,fun y hy => ?_⟩
  rcases List.mem_append.1 hy with hy|hy
  ·exact h2 y hy
  ·rw [List.mem_singleton.1 hy];exact ⟨h3,h4⟩
theorem take_pred {l:List Int} {j:Nat} (h0:0<j) (hj:j<l.length):∃ y,l[j - 1]? = some y∧y∈l.take j∧(risingI (l.take j)→∀ z∈l.take j,z≤y):=by
 obtain ⟨m,rfl⟩:∃ m,j=m+1:=⟨j - 1,by omega⟩
 obtain ⟨y,hy⟩:∃ y,l[m]? = some y:=⟨_,List.getElem?_eq_getElem (by omega)⟩
 refine ⟨y,hy,?_,fun h=>rising_last h hy⟩
 rw [List.take_add_one,hy];simp
open Classical in
theorem crising_ok (l:List Int) (hl:few l) (a b:Int):ACalls Tryz.prog 125 [.d (.sl 1 (nums l)),.d (.int .i64 a),.d (.int .i64 b)] [] (fun av L=>av = .d (.bool (decide (riseB l a b)))∧L=[]):=by
 have hll:=nums_length l
 unfold few at hl
 (refine acalls_go ttOk zOk foOk Tryz.func125 rfl Tryz.ntmps125 rfl false rfl ?_);(conv=>whnf)
 refine loop_go ttOk zOk foOk (σ:=Nat) (fun j=>([(0,.d (.sl 1 (nums l))),(1,.d (.int .i64 a)),(2,.d (.int .i64 b)),(9,.d (.sl 1 (nums l))),(10,.d (.int .i64 l.length)),(11,.d (.int .i64 j))],[])) (fun j=>j≤l.length∧riseB (l.take j) a b) (fun j=>l.length - j) [0,1,2,9,10,11] ?_ ?_
 ·conv=>whnf
  exact ⟨0,by rw [hll];rfl,rfl,Nat.zero_le _,by simp [riseB,risingI]⟩
 ·rintro j ⟨hj,hr⟩
  conv=>whnf
  refine rdz ?_;repeat' ((with_reducible apply tw)<;>intro _)
  ·rename_i h
   obtain ⟨x,hx⟩:∃ x,l[j]? = some x:=⟨_,List.getElem?_eq_getElem (by omega)⟩
   have hs:=riseB_succ (a:=a) (b:=b) hx
   have hbad:¬(a≤x∧x≤b∧∀ y∈l.take j,y<x)→¬riseB l a b:=fun h1 h2=>h1 ((hs.1 (riseB_take h2 (j+1))).2)
   refine ⟨by omega,[.int .i64 x],nums_at hx,?_⟩
   conv=>whnf
   refine rdz ?_;repeat' ((with_reducible apply tw)<;>intro _)
   ·rename_i h2
    exact ⟨by rw [decide_eq_false (hbad fun h3=>by omega)];rfl,rfl⟩
   ·rename_i h2 h3
    exact ⟨by rw [decide_eq_false (hbad fun h4=>by omega)];rfl,rfl⟩
   ·rename_i h2 h3 h4
    obtain ⟨y,hy,hym,hle⟩:=take_pred (l:=l) (j:=j) (by omega) (by omega)
    refine ⟨by omega,[.int .i64 y],by rw [show ((j:Int) - 1).toNat=j - 1 by omega];exact nums_at hy,?_⟩
    conv=>whnf
    refine rdz ?_;repeat' ((with_reducible apply tw)<;>intro _)
    ·rename_i h5
     exact ⟨by rw [decide_eq_false (hbad fun h6=>by have:=h6.2.2 y hym;omega)];rfl,rfl⟩
    ·rename_i h5
     exact ⟨j+1,rfl,rfl,⟨by omega,hs.2 ⟨hr,by omega,by omega,fun z hz=>by have:=hle hr.1 z hz;omega⟩⟩,by omega⟩
   ·rename_i h2 h3 h4
    have hj0:j=0:=by omega
    subst hj0
    exact ⟨1,rfl,rfl,⟨by omega,hs.2 ⟨hr,by omega,by omega,by simp⟩⟩,by omega⟩
  ·rename_i h
   rw [List.take_of_length_le (by omega)] at hr
   exact ⟨by rw [decide_eq_true hr];rfl,rfl⟩
open Classical in
theorem digests_ok (l:List Int) (hl:few l):ACalls Tryz.prog 115 [.d (.sl 1 (nums l))] [] (fun av L=>av = .d (.bool (decide (riseB l 1 65536)))∧L=[]):=by
 (refine acalls_go ttOk zOk foOk Tryz.func115 rfl Tryz.ntmps115 rfl false rfl ?_);(conv=>whnf)
 refine (crising_ok l hl 1 65536).mono ?_
 rintro _ _ ⟨rfl,rfl⟩
 conv=>whnf
 exact ⟨rfl,rfl⟩
theorem rMay_ok (n:Int):ACalls Tryz.prog 30 [.d (.int .i64 n)] [] (fun av L=>av = .d (.bool (isN n))∧L=[]):=by
 unfold isN
 (refine acalls_go ttOk zOk foOk Tryz.func30 rfl Tryz.ntmps30 rfl false rfl ?_);(conv=>whnf)
 refine rdw ?_;repeat' ((with_reducible apply tw)<;>intro _)
 ·rename_i h1 h2
  refine ⟨by decide,?_⟩
  intro z hz
  have hz2:=tmod_pos (by omega) hz
  clear hz
  subst hz2
  conv=>whnf
  exact ⟨boolEq (by simp;omega),rfl⟩
 ·rename_i h1 h2
  exact ⟨by rw [decide_eq_false (by omega)];rfl,rfl⟩
 ·rename_i h1
  exact ⟨by rw [decide_eq_false (by omega)];rfl,rfl⟩
theorem rQuorum_ok (n:Int) (hn:isN n=true):ACalls Tryz.prog 40 [.d (.int .i64 n)] [] (fun av L=>av = .d (.int .i64 (2 * ((n - 1) / 3)+1))∧L=[]):=by
 have hn':=of_decide_eq_true hn
 (refine acalls_go ttOk zOk foOk Tryz.func40 rfl Tryz.ntmps40 rfl false rfl ?_);(conv=>whnf)
 refine ⟨by decide,?_⟩
 intro z hz
 have:z=(n - 1) / 3:=by rw [hz,Int.tdiv_eq_ediv_of_nonneg (by omega),wrapI (by omega)];omega
 clear hz
 subst this
 conv=>whnf
 refine rdw ?_;repeat' ((with_reducible apply tw)<;>intro _)
 exact ⟨rfl,rfl⟩
theorem rDigest_ok (n:Int):ACalls Tryz.prog 36 [.d (.int .i64 n)] [] (fun av L=>av = .d (.bool (decide (1≤n∧n≤65536)))∧L=[]):=by
 (refine acalls_go ttOk zOk foOk Tryz.func36 rfl Tryz.ntmps36 rfl false rfl ?_);(conv=>whnf)
 refine rdw ?_;repeat' ((with_reducible apply tw)<;>intro _)
 ·rename_i h1
  exact ⟨boolEq (by simp;omega),rfl⟩
 ·rename_i h1
  exact ⟨by rw [decide_eq_false (by omega)];rfl,rfl⟩
theorem rBefore_ok (r a s b:Int):ACalls Tryz.prog 68 [.d (.int .i64 r),.d (.int .i64 a),.d (.int .i64 s),.d (.int .i64 b)] [] (fun av L=>av = .d (.bool (decide (r<s∨r=s∧a<b)))∧L=[]):=by
 (refine acalls_go ttOk zOk foOk Tryz.func68 rfl Tryz.ntmps68 rfl false rfl ?_);(conv=>whnf)
 refine rdw ?_;repeat' ((with_reducible apply tw)<;>intro _)
 ·rename_i h1
  exact ⟨by rw [decide_eq_true (.inl h1:r<s∨r=s∧a<b)];rfl,rfl⟩
 ·rename_i h1 h2
  exact ⟨boolEq (by simp;omega),rfl⟩
 ·rename_i h1 h2
  exact ⟨by rw [decide_eq_false (by omega)];rfl,rfl⟩
theorem rising_take_succ {l:List Int} {j:Nat} {y x:Int} (hy:l[j]? = some y) (hx:l[j+1]? = some x):risingI (l.take (j+2))↔risingI (l.take (j+1))∧y<x:=by
 rw [show l.take (j+2)=l.take (j+1)++[x] by rw [List.take_add_one,hx];rfl,rising_snoc]
 constructor
 ·rintro ⟨h1,h2⟩
  exact ⟨h1,h2 y (by rw [List.take_add_one,hy];simp)⟩
 ·rintro ⟨h1,h2⟩
  exact ⟨h1,fun z hz=>by have:=rising_last h1 hy z hz;omega⟩
open Classical in
theorem rRising_ok (l:List Int) (hl:few l):ACalls Tryz.prog 38 [.d (.sl 1 (nums l))] [] (fun av L=>av = .d (.bool (decide (risingI l)))∧L=[]):=by
 have hll:=nums_length l
 unfold few at hl
 (refine acalls_go ttOk zOk foOk Tryz.func38 rfl Tryz.ntmps38 rfl false rfl ?_);(conv=>whnf)
 refine loop_go ttOk zOk foOk (σ:=Nat) (fun j=>([(0,.d (.sl 1 (nums l))),(3,.d (.int .i64 ((j:Int)+1)))],[])) (fun j=>j≤l.length∧risingI (l.take (j+1))) (fun j=>l.length - j) [0,3] ?_ ?_
 ·conv=>whnf
  refine ⟨0,rfl,rfl,Nat.zero_le _,?_⟩
  cases l with
  | nil=>simp [risingI]
  | cons a t=>simp [risingI]
 ·rintro j ⟨hj,hr⟩
  conv=>whnf
  refine rdw ?_;repeat' ((with_reducible apply tw)<;>intro _)
  ·rename_i h
   obtain ⟨y,hy⟩:∃ y,l[j]? = some y:=⟨_,List.getElem?_eq_getElem (by omega)⟩
   obtain ⟨x,hx⟩:∃ x,l[j+1]? = some x:=⟨_,List.getElem?_eq_getElem (by omega)⟩
   have hs:=rising_take_succ hy hx
   ((with_reducible refine draw_pl ttOk zOk foOk mixedOk pl38x4 ?_ ?_);(focus kernel_rfl);(conv=>whnf))
   refine rdw ?_;repeat' ((with_reducible apply tw)<;>intro _)
   ((with_reducible apply rd_intro);(focus (intro K hK;(conv=>whnf);exact ⟨by omega,[.int .i64 x],(by rw [show ((j:Int)+1).toNat=j+1 by omega];exact nums_at hx),hK⟩));(conv=>whnf))
   refine rdw ?_;repeat' ((with_reducible apply tw)<;>intro _)
   ((with_reducible apply rd_intro);(focus (intro K hK;(conv=>whnf);exact ⟨by omega,[.int .i64 y],(by rw [show ((j:Int)+1 - 1).toNat=j by omega];exact nums_at hy),hK⟩));(conv=>whnf))
   refine rdw ?_;repeat' ((with_reducible apply tw)<;>intro _)
   ·rename_i h2
    exact ⟨by rw [decide_eq_false (fun h3=>by have:=(hs.1 (h3.sublist (List.take_sublist ..))).2;omega)];rfl,rfl⟩
   ·rename_i h2
    exact ⟨j+1,rfl,rfl,⟨by omega,hs.2 ⟨hr,by omega⟩⟩,by omega⟩
  ·rename_i h
   rw [List.take_of_length_le (by omega)] at hr
   exact ⟨by rw [decide_eq_true hr];rfl,rfl⟩
open Classical in
theorem rBetween_ok (l:List Int) (hl:few l) (a b:Int):ACalls Tryz.prog 39 [.d (.sl 1 (nums l)),.d (.int .i64 a),.d (.int .i64 b)] [] (fun av L=>av = .d (.bool (decide (∀ x∈l,a≤x∧x≤b)))∧L=[]):=by
 have hll:=nums_length l
 unfold few at hl
 (refine acalls_go ttOk zOk foOk Tryz.func39 rfl Tryz.ntmps39 rfl false rfl ?_);(conv=>whnf)
 refine loop_go ttOk zOk foOk (σ:=Nat) (fun j=>([(0,.d (.sl 1 (nums l))),(1,.d (.int .i64 a)),(2,.d (.int .i64 b)),(7,.d (.int .i64 j))],[])) (fun j=>j≤l.length∧∀ x∈l.take j,a≤x∧x≤b) (fun j=>l.length - j) [0,1,2,7] ?_ ?_
 ·conv=>whnf
  exact ⟨0,rfl,rfl,Nat.zero_le _,by simp⟩
 ·rintro j ⟨hj,hr⟩
  conv=>whnf
  refine rdw ?_;repeat' ((with_reducible apply tw)<;>intro _)
  ·rename_i h
   obtain ⟨x,hx⟩:∃ x,l[j]? = some x:=⟨_,List.getElem?_eq_getElem (by omega)⟩
   refine ⟨by omega,[.int .i64 x],nums_at hx,?_⟩
   conv=>whnf
   refine rdw ?_;repeat' ((with_reducible apply tw)<;>intro _)
   ·rename_i h2
    exact ⟨by rw [decide_eq_false (fun h3=>by have:=h3 x (List.mem_of_getElem? hx);omega)];rfl,rfl⟩
   ·rename_i h2
    refine ⟨by omega,[.int .i64 x],nums_at hx,?_⟩
    conv=>whnf
    refine rdw ?_;repeat' ((with_reducible apply tw)<;>intro _)
    ·rename_i h3
     exact ⟨by rw [decide_eq_false (fun h4=>by have:=h4 x (List.mem_of_getElem? hx);omega)];rfl,rfl⟩
    ·rename_i h3
     refine ⟨j+1,rfl,rfl,⟨by omega,fun z hz => ?_⟩,by omega⟩
     rw [List.take_add_one,hx] at hz
     rcases List.mem_append.1 hz with hz|hz
     ·exact hr z hz
     ·simp at hz;omega
  ·rename_i h
   rw [List.take_of_length_le (by omega)] at hr
   exact ⟨by rw [decide_eq_true hr];rfl,rfl⟩
open Classical in
theorem rDigests_ok (l:List Int) (hl:few l):ACalls Tryz.prog 77 [.d (.sl 1 (nums l))] [] (fun av L=>av = .d (.bool (decide (∀ x∈l,1≤x∧x≤65536)))∧L=[]):=by
 (refine acalls_go ttOk zOk foOk Tryz.func77 rfl Tryz.ntmps77 rfl false rfl ?_);(conv=>whnf)
 refine (rBetween_ok l hl 1 65536).mono ?_
 rintro _ _ ⟨rfl,rfl⟩
 conv=>whnf
 exact ⟨rfl,rfl⟩
open Classical in
theorem rdigests_ok (l:List Int) (hl:few l) (m:Int):ACalls Tryz.prog 71 [.d (.sl 1 (nums l)),.d (.int .i64 m)] [] (fun av L=>av = .d (.bool (decide ((l.length:Int)≤m∧riseB l 1 65536)))∧L=[]):=by
 have hll:=nums_length l
 (refine acalls_go ttOk zOk foOk Tryz.func71 rfl Tryz.ntmps71 rfl false rfl ?_);(conv=>whnf)
 rw [hll]
 refine rdw ?_;repeat' ((with_reducible apply tw)<;>intro _)
 ·rename_i h1
  refine (rDigests_ok l hl).mono ?_
  rintro _ _ ⟨rfl,rfl⟩
  conv=>whnf
  refine rdw ?_;repeat' ((with_reducible apply tw)<;>intro _)
  ·rename_i h2
   refine (rRising_ok l hl).mono ?_
   rintro _ _ ⟨rfl,rfl⟩
   conv=>whnf
   exact ⟨boolEq (by simp only [decide_eq_true_iff];exact ⟨fun h=>⟨h1,h,h2⟩,fun h=>h.2.1⟩),rfl⟩
  ·rename_i h2
   exact ⟨by rw [decide_eq_false (fun h=>h2 h.2.2)];rfl,rfl⟩
 ·rename_i h1
  exact ⟨by rw [decide_eq_false (fun h=>h1 h.1)];rfl,rfl⟩
end Go.Proofs.YtolkmjfkkkiboaaGreat
