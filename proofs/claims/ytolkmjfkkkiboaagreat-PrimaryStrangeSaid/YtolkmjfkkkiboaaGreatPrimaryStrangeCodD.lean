/- PrimaryStrange: contracts. -/
import Derived.Test.YtolkmjfkkkiboaaGreatPrimaryStrangeCodC
import Derived.RangeFuncBox
import Derived.RangeFuncLeaves
import Derived.Shelf.Abstract
import Derived.Shelf.RegionOpen
import Derived.WalkKit
import Derived.OwnWalkIn
import Derived.TacticsInMore
import Derived.LoopNIn
import Derived.LoopIn
import Derived.Maps.AppendAt
set_option linter.unusedVariables false
set_option linter.unusedSimpArgs false
namespace Go.Proofs.YtolkmjfkkkiboaaGreat
open Go.Ab Go.RowKit Go.MapKept
attribute [local irreducible] ACalls AW ADraw Into fltB fnear
set_option maxRecDepth 100000
def lackI (d:Dag) (c:Cert):List Int:=if c.round≤d.low+1 then [] else c.pars.filter fun x => !(ofR d.certs (c.round - 1)).any fun y=>y.digest == x
theorem lack_ok (d:Dag) (hd:d.fit) (c:Cert) (hc:tiny c.pars) (hr:isF c.round) (hr1:1≤c.round) (hlow:0≤d.low∧d.low≤1099511627776):ACalls Tryz.prog 194 [d.av,c.hav] [] (fun av L=>av = .d (.sl 1 (nums (lackI d c)))∧L=[]):=by
 have hpl:=nums_length c.pars
 have hfl:few (ofR d.certs (c.round - 1)):=by
  have:=hd.few
  unfold few at this ⊢
  exact Nat.le_trans (List.length_filter_le ..) this
 unfold tiny at hc
 unfold isF at hr
 (refine acalls_go ttOk zOk foOk Tryz.func194 rfl Tryz.ntmps194 rfl false rfl ?_);(conv=>whnf)
 refine rdw ?_;repeat' ((with_reducible apply tw)<;>intro _)
 ·rename_i h
  rw [lackI,if_pos h]
  exact ⟨rfl,rfl⟩
 ·rename_i h
  rw [lackI,if_neg h]
  refine (dagOf_ok d hd (c.round - 1) (by unfold isF;omega)).mono ?_
  rintro _ _ ⟨rfl,rfl⟩
  obtain ⟨A,hA⟩:∃ A,ofR d.certs (c.round - 1)=A:=⟨_,rfl⟩
  rw [hA] at hfl ⊢
  conv=>whnf
  refine loop_go ttOk zOk foOk (σ:=Nat) (fun j=>([(5,.d (.sl 6 (certsD A))),(20,.d (.sl 1 (nums c.pars))),(21,.d (.int .i64 c.pars.length)),(22,.d (.int .i64 j)),(4,.arr 0)],[.row 3 1 (nums ((c.pars.take j).filter fun x => !A.any fun y=>y.digest == x)) false])) (fun j=>j≤c.pars.length) (fun j=>c.pars.length - j) [5,20,21,22,4] ?_ ?_
  ·conv=>whnf
   exact ⟨0,by rw [hpl];rfl,rfl,Nat.zero_le _⟩
  ·intro j hj
   have hfn:(nums ((c.pars.take j).filter fun x => !A.any fun y=>y.digest == x)).length≤c.pars.length:=by rw [nums_length];exact Nat.le_trans (List.length_filter_le ..) (List.length_take_le' ..)
   conv=>whnf
   refine rdw ?_;repeat' ((with_reducible apply tw)<;>intro _)
   ·rename_i hjl
    refine Exists.elim (⟨_,List.getElem?_eq_getElem (by omega)⟩:∃ x,c.pars[j]? = some x) fun x hx => ?_
    refine ⟨by omega,[.int .i64 x],nums_at hx,?_⟩
    conv=>whnf
    refine (has_ok A hfl x).mono ?_
    rintro _ _ ⟨rfl,rfl⟩
    have hsn:∀ b,(A.any fun y=>y.digest == x)=b→(c.pars.take (j+1)).filter (fun x => !A.any fun y=>y.digest == x)=(c.pars.take j).filter (fun x => !A.any fun y=>y.digest == x)++(if b then [] else [x]):=by
     intro b hb
     rw [List.take_add_one,hx,List.filter_append]
     cases b<;>simp [List.filter_cons,hb]
    obtain ⟨b,hb⟩:∃ b,(A.any fun y=>y.digest == x)=b:=⟨_,rfl⟩
    rw [hb]
    replace hsn:=hsn b hb
    cases b with
    | true =>
      conv=>whnf
      refine rdw ?_;repeat' ((with_reducible apply tw)<;>intro _)
      exact ⟨j+1,rfl,by rw [hsn];simp,by omega,by omega⟩
    | false =>
      conv=>whnf
      refine rdw ?_;repeat' ((with_reducible apply tw)<;>intro _)
      refine ⟨by simp;omega,?_⟩
      conv=>whnf
      refine rdw ?_;repeat' ((with_reducible apply tw)<;>intro _)
      refine ⟨j+1,rfl,?_,by omega,by omega⟩
      rw [hsn,← nums_apps]
      rfl
   ·rename_i hjl
    obtain rfl:j=c.pars.length:=by omega
    rw [List.take_length]
    exact ⟨rfl,rfl⟩
def putE (d:Dag) (c:Cert):Int :=
 if c.round≤d.low then 6 else match atC d.certs c.round c.author with
  | some y=>if y.digest=c.digest then 4 else 5
  | none=>if d.certs.any (fun y=>y.digest == c.digest) then 5 else if lackI d c=[] then 0 else 7
def insC (d:Dag) (c:Cert):Dag:=⟨d.nodes,d.low,d.certs.take (pos d.certs c.round c.author)++c :: d.certs.drop (pos d.certs c.round c.author)⟩
theorem insC_cs (l:List Cert) (c:Cert) (i:Nat):(certsD l).take i++c.cs :: (certsD l).drop i=certsD (l.take i++c :: l.drop i):=by simp [certsD]
theorem insertC_ok (l:List Cert) (c:Cert) (i:Nat) (hi:i≤l.length) (hl:l.length≤4294967296):ACalls Tryz.prog 195 [.arr 0,.d (.int .i64 i),.arr 1] [.row 47 6 (certsD l) false,.row 47 6 [c.cs] false] (fun av L=>av = .arr 2∧L=[.dead,.row 47 6 [c.cs] false,.row 47 6 (certsD (l.take i++c :: l.drop i)) false]):=by
 have hcl:=certsD_length l
 rcases Nat.lt_or_eq_of_le hi with h|h
 ·have:=insertCert_in (certsD l) c.cs i (by omega) (by omega)
  rw [insC_cs] at this
  exact this
 ·subst h
  have:=insertCert_end (certsD l) (fun cs hcs=>by obtain ⟨c,_,rfl⟩:=List.mem_map.1 hcs;rfl) c.cs rfl (by omega)
  rw [hcl] at this
  rw [List.take_length,List.drop_length]
  simpa [certsD] using this
set_option maxHeartbeats 1000000 in
theorem put_dag_row (d:Dag) (hd:d.fit) (hl:d.certs.length≤4294967296) (hlow:0≤d.low∧d.low≤1099511627776) (c:Cert) (hc:c.tiny) (hr:isF c.round) (hr1:1≤c.round) (ha:isF c.author) :
  ACalls Tryz.prog 158 [d.av,c.av] [] (fun av L=>(putE d c≠0∧av = .tup [d.av,.d (.int .i64 (putE d c))]∧L=[])∨(putE d c=0∧av = .tup [.agg [.d (.int .i64 d.nodes),.d (.int .i64 d.low),.arr 0],.d (.int .i64 0)]∧L=[.row 47 6 (certsD (insC d c).certs) false])):=by
 have hcl:=certsD_length d.certs
 have hlk:=lack_ok d hd c hc.pars hr hr1 hlow
 have hfew:=hd.few
 have hps:=pos_le d.certs c.round c.author
 (refine acalls_go ttOk zOk foOk Tryz.func158 rfl Tryz.ntmps158 rfl true rfl ?_);(conv=>whnf)
 ((with_reducible refine draw_pl ttOk zOk foOk mixedOk pl158x1 ?_ ?_);(focus kernel_rfl);(conv=>whnf))
 refine rdw ?_;repeat' ((with_reducible apply tw)<;>intro _)
 refine (dagPlace_ok c).mono ?_
 rintro _ _ ⟨rfl,rfl⟩
 conv=>whnf
 refine rdw ?_;repeat' ((with_reducible apply tw)<;>intro _)
 refine (find_ok d.certs c.round c.author hd.few hd.sorted hd.fit hr ha).mono ?_
 rintro _ _ ⟨rfl,rfl⟩
 cases hat:atC d.certs c.round c.author with
 | none =>
   conv=>whnf
   refine rdw ?_;repeat' ((with_reducible apply tw)<;>intro _)
   ·rename_i h
    have e:putE d c=6:=by rw [putE,if_pos h]
    rw [e]
    exact .inl ⟨by decide,rfl,rfl⟩
   ·rename_i h
    ((with_reducible refine draw_pl ttOk zOk foOk mixedOk pl158x4 ?_ ?_);(focus kernel_rfl);(conv=>whnf))
    refine rdw ?_;repeat' ((with_reducible apply tw)<;>intro _)
    refine (has_ok d.certs hd.few c.digest).mono ?_
    rintro _ _ ⟨rfl,rfl⟩
    cases hany:d.certs.any (fun y=>y.digest == c.digest) with
    | true =>
      have e:putE d c=5:=by rw [putE,if_neg h,hat];simp [hany]
      conv=>whnf
      refine rdw ?_;repeat' ((with_reducible apply tw)<;>intro _)
      rw [e]
      exact .inl ⟨by decide,rfl,rfl⟩
    | false =>
      conv=>whnf
      refine rdw ?_;repeat' ((with_reducible apply tw)<;>intro _)
      refine hlk.mono ?_
      rintro _ _ ⟨rfl,rfl⟩
      obtain ⟨lk,hlk2⟩:∃ lk,lackI d c=lk:=⟨_,rfl⟩
      rw [hlk2]
      cases lk with
      | cons x r =>
        have e:putE d c=7:=by rw [putE,if_neg h,hat];simp [hany,hlk2]
        conv=>whnf
        refine rdw ?_;repeat' ((with_reducible apply tw)<;>intro _)
        ·rw [e]
         exact .inl ⟨by decide,rfl,rfl⟩
        ·rename_i hx
         exact absurd (by show ((0:Int)<((nums (x :: r)).length:Int));rw [nums_length];simp) hx
      | nil =>
        have e:putE d c=0:=by rw [putE,if_neg h,hat];simp [hany,hlk2]
        conv=>whnf
        refine rdw ?_;repeat' ((with_reducible apply tw)<;>intro _)
        ((with_reducible refine draw_pl ttOk zOk foOk mixedOk pl158x10 ?_ ?_);(focus kernel_rfl);(conv=>whnf))
        refine rdw ?_;repeat' ((with_reducible apply tw)<;>intro _)
        refine (cloneC_ok d.certs (by omega)).mono ?_
        rintro _ _ ⟨rfl,rfl⟩
        conv=>whnf
        refine rdw ?_;repeat' ((with_reducible apply tw)<;>intro _)
        refine (ownCert_ok c hc).mono ?_
        rintro _ _ ⟨rfl,rfl⟩
        conv=>whnf
        refine rdw ?_;repeat' ((with_reducible apply tw)<;>intro _)
        (refine Or.inr ?_;(conv=>whnf))
        refine (insertC_ok d.certs c _ hps hl).mono ?_
        rintro _ _ ⟨rfl,rfl⟩
        conv=>whnf
        refine rdw ?_;repeat' ((with_reducible apply tw)<;>intro _)
        exact .inr ⟨e,rfl,rfl⟩
 | some y =>
   have hpy:d.certs[pos d.certs c.round c.author]? = some y:=by
    rw [atC_pos hd.sorted] at hat
    exact (Option.filter_eq_some_iff.1 hat).1
   have hlt:=(List.getElem?_eq_some_iff.1 hpy).1
   conv=>whnf
   refine rdw ?_;repeat' ((with_reducible apply tw)<;>intro _)
   ·rename_i h
    have e:putE d c=6:=by rw [putE,if_pos h]
    rw [e]
    exact .inl ⟨by decide,rfl,rfl⟩
   ·rename_i h
    ((with_reducible refine draw_pl ttOk zOk foOk mixedOk pl158x4 ?_ ?_);(focus kernel_rfl);(conv=>whnf))
    refine rdw ?_;repeat' ((with_reducible apply tw)<;>intro _)
    ((with_reducible apply rd_intro);(focus (intro K hK;(conv=>whnf);exact ⟨by omega,y.cs,certsD_at hpy,hK⟩));(conv=>whnf))
    refine rdw ?_;repeat' ((with_reducible apply tw)<;>intro _)
    ·rename_i h2
     have e:putE d c=4:=by rw [putE,if_neg h,hat];simp [h2]
     rw [e]
     exact .inl ⟨by decide,rfl,rfl⟩
    ·rename_i h2
     have e:putE d c=5:=by rw [putE,if_neg h,hat];simp [h2]
     rw [e]
     exact .inl ⟨by decide,rfl,rfl⟩
def putD (d:Dag) (c:Cert):Dag:=if putE d c=0 then insC d c else d
theorem put_dag (d:Dag) (hd:d.fit) (hl:d.certs.length≤4294967296) (hlow:0≤d.low∧d.low≤1099511627776) (c:Cert) (hc:c.tiny) (hr:isF c.round) (hr1:1≤c.round) (ha:isF c.author) :
  ACalls Tryz.prog 158 [d.av,c.av] [] (fun av L=>av = .tup [(putD d c).av,.d (.int .i64 (putE d c))]∧L=[]):=by
 refine acalls_data (put_dag_row d hd hl hlow c hc hr hr1 ha) ?_
 rintro _ _ (⟨h,rfl,rfl⟩|⟨h,rfl,rfl⟩)
 ·rw [putD,if_neg h]
  conv=>whnf
  exact ⟨rfl,rfl⟩
 ·rw [putD,if_pos h,h]
  conv=>whnf
  exact ⟨rfl,rfl⟩
end Go.Proofs.YtolkmjfkkkiboaaGreat
namespace Go.Proofs.YtolkmjfkkkiboaaGreat
open Go Go.Ab Go.RowKit Go.Shelf
attribute [local go_sem] Oper.semAt_some
def chv (b off len k:Nat):Value := .slice (some ⟨b,off+16 * k,none⟩) (min 16 (len - 16 * k)) (min 16 (len - 16 * k))
def chn (len:Nat):Nat:=(len+15) / 16
theorem grown_drew0 (w:World) (row:Option Nat):w.grownBy w.drew row:=⟨rfl,rfl,rfl,Nat.le_refl _,fun _ _ _=>rfl⟩
theorem below_drew0 (n:Nat) (w:World):Below n w w.drew:=⟨rfl,rfl,rfl,Nat.le_refl _,fun _ _=>rfl⟩
set_option maxRecDepth 100000 in
set_option maxHeartbeats 4000000 in
theorem chunk1_in (F:Fence) (n:Nat) (h7:F.fn 257) (hro:F.round=none) (hn:1≤n) (l Bs Bn n₀ b off len cap:Nat) (hreach:len≤1000000) (hcap:len≤cap) (hcap2:cap≤maxLen) (hb:Bs<n₀) (hb2:Bn<n₀) (J Jx:List Nat→World→Prop)
  (hA:∀ s A,J s A→J s A.drew)
  (hY:∀ pre x W,J pre W→pre.length<chn len→YieldAt F (n - 1) Tryz.prog l #[chv b off len x] W fun e W' =>
    (e = .returned (.bool true)∧J (pre++[x]) W'∧Below n₀ W W')∨(e = .returned (.bool false)∧Jx (pre++[x]) W'))
  (W:World) (hBs:W.cell? ⟨Bs,0,none⟩=some (.slice (some ⟨b,off,none⟩) len cap)) (hBn:W.cell? ⟨Bn,0,none⟩=some (.int .i64 16)) (h0:J [] W) :
  CallsIn F n Tryz.prog 257 #[.func (.yield l) #[] #[],.pointer (some ⟨Bs,0,none⟩),.pointer (some ⟨Bn,0,none⟩)] W fun e W'=>(∃ v,e = .returned v) ∧
   ((∃ ys,ys=List.range (chn len)∧J ys W')∨(∃ pre,(∃ k,k≤chn len∧pre=List.range k)∧Jx pre W')):=by
 refine callsIn_of_wp Tryz.func257 rfl h7 ?_ hro
 simp only [Tryz.ntmps257,List.size_toArray,List.length_cons,List.length_nil,Nat.reduceAdd,Nat.reduceSub,Array.replicate_succ,Array.replicate_zero,List.push_toArray,List.append_toArray,List.nil_append,List.cons_append]
 have mixed:=mixedOk
 gi_wp2
 gi_loopw [4] (fun i wr=>∃ k:Nat,16 * k<len+16∧i = .int .i64 (16 * k:Nat)∧J (List.range k) wr∧Below n₀ W wr)
  (fun i _=>len+16 - (intOf i).toNat)
 case atStart=>exact ⟨0,by omega,rfl,h0,Below.refl _ _⟩
 case round =>
  obtain ⟨k,hk,rfl,hJs,hnx⟩:=hrel
  have hcs:=(hnx.cell (p:=⟨Bs,0,none⟩) hb).trans hBs
  have hcn:=(hnx.cell (p:=⟨Bn,0,none⟩) hb2).trans hBn
  by_cases hlt:16 * k<len
  ·gi_wp2
   gi_region_with_o (gi_in)
   all_goals
    obtain ⟨fn,tmps,assign,body,hy,hR⟩:=hY _ k wr.drew (hA _ _ hJs) (by simp [chn];omega)
    have hcs2:wr.drew.cell? ⟨Bs,0,none⟩=_:=hcs
    have hcn2:wr.drew.cell? ⟨Bn,0,none⟩=_:=hcn
    have hmn:min (16:Int) ((len - 16 * k:Nat):Int)=(min 16 (len - 16 * k):Nat):=by omega
    rw [hmn]
    obtain ⟨m,hm⟩:∃ m,min 16 (len - 16 * k)=m:=⟨_,rfl⟩
    rw [hm]
    simp only [chv,hm] at hy
    gi_wp2
    refine hR.mono ?_
    rintro e W3 (⟨rfl,hJ3,hk3⟩|⟨rfl,hJx3⟩)
    ·have hcn3:W3.cell? ⟨Bn,0,none⟩=_:=(hk3.cell (p:=⟨Bn,0,none⟩) hb2).trans hcn2
     gi_wp2
     go_roundw
     case rel=>exact ⟨k+1,by omega,by simp;omega,by rw [List.range_succ];exact hJ3,hnx.trans ((below_drew0 _ _).trans hk3)⟩
     case measure=>simp [intOf];omega
    ·gi_wp2
     refine bodyPost_ret (results_none rfl _ _ _) rfl ?_
     exact ⟨⟨_,rfl⟩,.inr ⟨_,⟨k+1,by unfold chn;omega,List.range_succ.symm⟩,hJx3⟩⟩
  ·gi_wp2
   go_end0
   exact ⟨⟨_,rfl⟩,.inl ⟨_,rfl,by rw [show chn len=k by unfold chn;omega];exact hJs⟩⟩
end Go.Proofs.YtolkmjfkkkiboaaGreat
namespace Go.Proofs.YtolkmjfkkkiboaaGreat
open Go Go.Ab Go.RowKit Go.Shelf
attribute [local go_sem] Oper.semAt_some
set_option maxRecDepth 100000 in
set_option maxHeartbeats 1000000 in
theorem chunk1_nil (F:Fence) (n:Nat) (h7:F.fn 257) (hro:F.round=none) (l Bs Bn:Nat) (a:Option Addr) (cap:Nat) (J:List Nat→World→Prop) (W:World) (hBs:W.cell? ⟨Bs,0,none⟩=some (.slice a 0 cap)) (h0:J [] W) :
  CallsIn F n Tryz.prog 257 #[.func (.yield l) #[] #[],.pointer (some ⟨Bs,0,none⟩),.pointer (some ⟨Bn,0,none⟩)] W fun e W'=>(∃ v,e = .returned v)∧J [] W':=by
 refine callsIn_of_wp Tryz.func257 rfl h7 ?_ hro
 simp only [Tryz.ntmps257,List.size_toArray,List.length_cons,List.length_nil,Nat.reduceAdd,Nat.reduceSub,Array.replicate_succ,Array.replicate_zero,List.push_toArray,List.append_toArray,List.nil_append,List.cons_append]
 gi_wp2
 gi_loopw [4] (fun i wr=>i = .int .i64 0∧J [] wr∧wr.cell? ⟨Bs,0,none⟩=some (.slice a 0 cap)) (fun _ _=>0)
 case atStart=>exact ⟨rfl,h0,hBs⟩
 case round =>
  obtain ⟨rfl,hJs,hBs'⟩:=hrel
  gi_wp2
  go_end0
  exact ⟨⟨_,rfl⟩,hJs⟩
def chvs:Value→Nat→Value
 | .slice (some a) len _,k=>chv a.block a.off len k
 | _,_ => .slice none 0 0
def chlen:Value→Nat
 | .slice _ len _=>chn len
 | _=>0
theorem chunk_stops (F:Fence) (n:Nat) (h7:F.fn 257) (hro:F.round=none) (hn:1≤n) (Bs Bn n₀:Nat) (sv:Value) (w:World) (hn₀:n₀≤w.heap.size) (hBs:Bs<n₀) (hBn:Bn<n₀)
  (hsv:(∃ a cap,sv = .slice a 0 cap)∨∃ b off len cap,sv = .slice (some ⟨b,off,none⟩) len cap∧len≤1000000∧len≤cap∧cap≤maxLen)
  (hc:w.cell? ⟨Bs,0,none⟩=some sv) (hc2:w.cell? ⟨Bn,0,none⟩=some (.int .i64 16)) :
  SeqStopsK F n Tryz.prog 257 #[.pointer (some ⟨Bs,0,none⟩),.pointer (some ⟨Bn,0,none⟩)] (fun x:Nat => #[chvs sv x]) (Below n₀) (fun ys=>ys=List.range (chlen sv)) (fun _=>True) (chlen sv) w:=fun l J Jx W hW hJ _ hY h0=>by
 have hc':=(hW.cell (p:=⟨Bs,0,none⟩) (Nat.lt_of_lt_of_le hBs hn₀)).trans hc
 have hc2':=(hW.cell (p:=⟨Bn,0,none⟩) (Nat.lt_of_lt_of_le hBn hn₀)).trans hc2
 rcases hsv with ⟨a,cap,rfl⟩|⟨b,off,len,cap,rfl,h1,h2,h3⟩
 ·exact (chunk1_nil F n h7 hro l Bs Bn a cap J W hc' h0).mono fun e W' ⟨he,hj⟩=>⟨he,.inl ⟨_,rfl,hj⟩⟩
 ·refine (chunk1_in F n h7 hro hn l Bs Bn n₀ b off len cap h1 h2 h3 hBs hBn J Jx (fun s A hs=>hJ s A A.drew none hs (grown_drew0 _ _) (fun r e=>by cases e)) hY W hc' hc2' h0).mono ?_
  rintro e W' ⟨he,⟨ys,rfl,hj⟩|⟨pre,_,hj⟩⟩
  ·exact ⟨he,.inl ⟨_,rfl,hj⟩⟩
  ·exact ⟨he,.inr ⟨_,trivial,hj⟩⟩
theorem infoSl:(Tryz.prog.info? 22).map (fun i=>(i.zero,i.size,i.bytes))=some (some (.slice none 0 0),1,24):=by kernel_rfl
set_option maxRecDepth 100000 in
set_option maxHeartbeats 2000000 in
theorem appendSeq_in (F:Fence) (n:Nat) (h3:F.fn 256) (h5:F.fn 257) (hro:F.round=none) (hn:3≤n) (Bs Bn:Nat) (sv:Value) (w:World) (hBs:Bs<w.heap.size) (hBn:Bn<w.heap.size)
  (hsv:(∃ a cap,sv = .slice a 0 cap)∨∃ b off len cap,sv = .slice (some ⟨b,off,none⟩) len cap∧len≤1000000∧len≤cap∧cap≤maxLen)
  (hc:w.cell? ⟨Bs,0,none⟩=some sv) (hc2:w.cell? ⟨Bn,0,none⟩=some (.int .i64 16)) :
  CallsIn F n Tryz.prog 256 #[.slice none 0 0,.func (.func 257) #[] #[.pointer (some ⟨Bs,0,none⟩),.pointer (some ⟨Bn,0,none⟩)]] w fun e W'=>∃ v,e = .returned v∧W'.ownsRow w.heap.size 22 1 v (chlen sv) ((List.range (chlen sv)).map (chvs sv))∧Below w.heap.size w W':=by
 have h1:1≤n:=by omega
 obtain ⟨i0,hi,hz0,hz1,hz2⟩:=info_parts infoSl
 have hcl:chlen sv≤1000000:=by
  rcases hsv with ⟨a,cap,rfl⟩|⟨b,off,len,cap,rfl,h1,h2,h3⟩
  ·exact Nat.zero_le _
  ·show chn len≤_
   unfold chn;omega
 refine callsIn_of_wp_marks Tryz.func256 rfl h3 ?_ hro
 simp only [Tryz.ntmps256,List.size_toArray,List.length_cons,List.length_nil,Nat.reduceAdd,Nat.reduceSub,Array.replicate_succ,Array.replicate_zero,List.push_toArray,List.append_toArray,List.nil_append,List.cons_append]
 gi_wp2
 have bO:=Boxed.new w 221 (.slice none 0 0)
 have hst:=chunk_stops F (n - 1) h5 hro (by omega) Bs Bn w.heap.size sv (w.alloc (.cells #[.slice none 0 0] 221)) (by simp) hBs hBn hsv ((((Below.refl w.heap.size w).alloc (Nat.le_refl _) _).cell (p:=⟨Bs,0,none⟩) hBs).trans hc) ((((Below.refl w.heap.size w).alloc (Nat.le_refl _) _).cell (p:=⟨Bn,0,none⟩) hBn).trans hc2)
 have hB0:Below w.heap.size w (w.alloc (.cells #[.slice none 0 0] 221)):=(Below.refl _ w).alloc (Nat.le_refl _) _
 refine wpIn_rangeFunc_ownG hro h1 (gf:=257) (lb := #[.pointer (some ⟨Bs,0,none⟩),.pointer (some ⟨Bn,0,none⟩)]) rfl h5 (enters_of Tryz.func257 (by kernel_rfl) rfl)
  hst belowK_t (belowK_b (by simp)) (Below.refl _ _) (fun _=>rfl)
  (fun pre W=>(∃ v,Boxed W w.heap.size 221 v∧W.ownsRow w.heap.size 22 1 v pre.length (pre.map (chvs sv))∧(v = .slice none 0 0↔pre=[]))∧Below w.heap.size w W)
  (fun _ _ _=>False)
  (OwnFrom.and (Own.from (holdsRow_own w.heap.size w.heap.size 221 22 1 (fun pre=>pre.length) (fun pre=>pre.map (chvs sv)) (fun pre v=>v = .slice none 0 0↔pre=[])) _) (ownFrom_below (Nat.le_refl _) (by simp)))
  (fun _ _ _ _ _ hs _ _=>hs)
  ⟨⟨_,bO,World.ownsRow_nil _ _ _ _,by simp⟩,hB0⟩
  (fun x=>{ tmps := #[.slice none 0 0,.func (.func 257) #[] #[.pointer (some ⟨Bs,0,none⟩),.pointer (some ⟨Bn,0,none⟩)],.pointer (some ⟨w.heap.size,0,none⟩),undef,.slice none 0 0,chvs sv x,.func (.func 257) #[] #[.pointer (some ⟨Bs,0,none⟩),.pointer (some ⟨Bn,0,none⟩)],chvs sv x,undef,undef,undef,undef,undef],defers:=[] }) ?assign ?body ?done ?stop
 case assign =>
  intro l x W K hK
  gi_wp2
  exact hK
 case body =>
  rintro l pre x W ⟨⟨v,hv,hrow,hnil⟩,hB⟩ hlt
  have hc:=hv.cell
  have hml:(1000001:Nat)≤maxLen:=by decide
  obtain ⟨xp,xq,xr,hx⟩:∃ p q r,chvs sv x = .slice p q r:=by unfold chvs;split<;>exact ⟨_,_,_,rfl⟩
  simp only [hx]
  gi_wp2_with (gi_at_builtin;refine wpListIn_append_own _ rfl _ _ 221 rfl w.heap.size 22 i0 (.slice none 0 0) 1 24 Tryz.underlying221 hi hz0 hz1 hz2 rfl (by decide) _ _ _ rfl (hrow.alloc _) ⟨W.heap.size,0,none⟩ 1 1 [.slice xp xq xr] rfl rfl (cell_one_new _ _ _) (by simp [Value.oneCell']) (by omega) (by omega) (by have:=hB.size;simp;omega) ?_;intro v' w1 hown' hgrow _;obtain ⟨g',cap',rfl⟩:=ownsRow_succ hown';obtain ⟨hv1,hv2,hr2,hk2,hb2⟩:=hv.appended (by decide) hrow hB.size (Nat.le_refl _) hown' hgrow;have hc1:=hv1.cell;have hf1:=hv1.frozen)
  exact ⟨hk2.from _,hb2,⟨_,hv2,by simpa [hx] using hr2,by simp⟩,hB.trans hb2⟩
 case done =>
  rintro D ys W hD rfl ⟨⟨v,hv,hrow,hnil⟩,hB⟩ hK
  have hc:=hv.cell
  gi_wp2
  refine ⟨by simp,.inl ⟨_,_,rfl,run_takeDeferred hK,?_⟩⟩
  refine ⟨_,results_tmp rfl _ _ _,v,rfl,?_,hB.trans (belowK_b (w:=w) (Nat.le_refl _) W D _ _ (by simp at hD;omega) hK rfl rfl)⟩
  have:=ownsRow_putObj hrow (.deferred none) hK rfl
  simpa using this
 case stop =>
  rintro D c pre W _ _ h _
  exact h.elim
set_option maxRecDepth 100000 in
theorem collect_in (F:Fence) (n:Nat) (h2:F.fn 235) (h3:F.fn 256) (h5:F.fn 257) (hro:F.round=none) (hn:4≤n) (Bs Bn:Nat) (sv:Value) (w:World) (hBs:Bs<w.heap.size) (hBn:Bn<w.heap.size)
  (hsv:(∃ a cap,sv = .slice a 0 cap)∨∃ b off len cap,sv = .slice (some ⟨b,off,none⟩) len cap∧len≤1000000∧len≤cap∧cap≤maxLen)
  (hc:w.cell? ⟨Bs,0,none⟩=some sv) (hc2:w.cell? ⟨Bn,0,none⟩=some (.int .i64 16)) :
  CallsIn F n Tryz.prog 235 #[.func (.func 257) #[] #[.pointer (some ⟨Bs,0,none⟩),.pointer (some ⟨Bn,0,none⟩)]] w fun e W'=>∃ v,e = .returned v∧W'.ownsRow w.heap.size 22 1 v (chlen sv) ((List.range (chlen sv)).map (chvs sv))∧Below w.heap.size w W':=by
 have h1:1≤n:=by omega
 refine callsIn_of_wp Tryz.func235 rfl h2 ?_ hro
 simp only [Tryz.ntmps235,List.size_toArray,List.length_cons,List.length_nil,Nat.reduceAdd,Nat.reduceSub,Array.replicate_succ,Array.replicate_zero,List.push_toArray,List.append_toArray,List.nil_append,List.cons_append]
 gi_wp2_with (gi_at_call 256;refine (appendSeq_in F (n - 1) h3 h5 hro (by omega) Bs Bn sv _ hBs hBn hsv hc hc2).mono ?_;rintro e w' ⟨v,rfl,hrow,hbel⟩)
 go_ret
 exact ⟨_,rfl,hrow,hbel⟩
end Go.Proofs.YtolkmjfkkkiboaaGreat
namespace Go.Proofs.YtolkmjfkkkiboaaGreat
open Go Go.Ab Go.RowKit Go.Shelf
def partI (l:List Int) (k:Nat):List Int:=(l.drop (16 * k)).take 16
def chunksI (l:List Int):List (List Int):=(List.range (chn l.length)).map (partI l)
def numss (l:List (List Int)):List (List DV):=l.map fun x=>[.sl 1 (nums x)]
theorem numss_length (l:List (List Int)):(numss l).length=l.length:=List.length_map ..
theorem chv_VD {rd:Addr→Value→Prop} {l:List Int} {b off cap:Nat} (hl:l.length≤1000000) (hlc:l.length≤cap) (htk:∀ o' c',o'+c'≤cap→0<c'→rd ⟨b,off+o',some 1⟩ (.slice (some ⟨b,off+o',none⟩) 0 c')) (hv:VDE rd 1 (nums l) ⟨b,off,none⟩) {k:Nat} (hk:k<chn l.length):VD rd (.sl 1 (nums (partI l k))) (chv b off l.length k):=by
 have hml:(1000001:Nat)≤maxLen:=by decide
 have hlen:(nums (partI l k)).length=min 16 (l.length - 16 * k):=by rw [nums_length,partI,List.length_take,List.length_drop]
 have h1:nums (partI l k)=((nums l).drop (16 * k)).take 16:=by simp [nums,partI]
 simp only [VD]
 refine ⟨by omega,some ⟨b,off+16 * k,none⟩,min 16 (l.length - 16 * k),?_,by omega,by omega,(fun h=>by cases h),fun a' ha => ?_⟩
 ·rw [hlen];rfl
 ·cases ha
  refine ⟨.inr rfl,fun hc=>htk (16 * k) _ (by omega) hc,?_⟩
  rw [h1]
  have:=VDE_drop 1 (16 * k) rfl hv
  rw [Nat.mul_one] at this
  exact VDE_take 1 16 this
theorem chvs_VDs {rd:Addr→Value→Prop} {l:List Int} {b off cap:Nat} (hl:l.length≤1000000) (hlc:l.length≤cap) (htk:∀ o' c',o'+c'≤cap→0<c'→rd ⟨b,off+o',some 1⟩ (.slice (some ⟨b,off+o',none⟩) 0 c')) (hv:VDE rd 1 (nums l) ⟨b,off,none⟩):∀ (ks:List Nat),(∀ k∈ks,k<chn l.length)→VDs rd (numss (ks.map (partI l))).flatten (ks.map (chv b off l.length))
 | [],_=>by simp [numss,VDs,Cs]
 | k :: ks,h=>by
   have ih:=chvs_VDs (cap:=cap) hl hlc htk hv ks fun x hx=>h x (List.mem_cons_of_mem _ hx)
   simp only [numss,List.map_cons,List.flatten_cons,List.singleton_append,VDs,Cs] at ih ⊢
   exact ⟨_,_,rfl,by simp [chv,Value.oneCell'],chv_VD (cap:=cap) hl hlc htk hv (h k (List.mem_cons_self ..)),ih⟩
set_option maxHeartbeats 1000000 in
theorem collect_ok (l:List Int) (hl:l.length≤1000000):ACalls Tryz.prog 235 [.fn 257 [.ptr 0 0,.ptr 1 0]] [.cells [.d (.sl 1 (nums l))],.cells [.d (.int .i64 16)]] (fun av L=>av = .arr 2∧L=[.cells [.d (.sl 1 (nums l))],.cells [.d (.int .i64 16)],.row 22 1 (numss (chunksI l)) false]):=by
 intro c vs hc hL0 hs hv
 simp only [VRt,VR] at hv
 obtain ⟨u,us',hvs,⟨caps,rfl,u1,us1,hcaps,⟨b0,hp0,rfl⟩,u2,us2,rfl,⟨b1,hp1,rfl⟩,rfl⟩,rfl⟩:=hv
 obtain ⟨ab0,ha0,_,hE0⟩:=hp0
 obtain ⟨ab1,ha1,_,hE1⟩:=hp1
 have hb0:=hs.blk 0 _ rfl
 have hb1:=hs.blk 1 _ rfl
 rw [hE0] at hb0
 rw [hE1] at hb1
 simp only [BR] at hb0 hb1
 obtain ⟨b0',cur0,e0,heq,hh0,hcs0⟩:=hb0
 cases heq
 obtain ⟨b1',cur1,e1,heq,hh1,hcs1⟩:=hb1
 cases heq
 simp only [VRs,VR,VD] at hcs0 hcs1
 obtain ⟨sv,_,hcur0,_,hsv,rfl⟩:=hcs0
 obtain ⟨nv,_,hcur1,_,hnv,rfl⟩:=hcs1
 subst hnv
 obtain ⟨_,a,cap,rfl,hcap1,hcap2,hnone,hvde⟩:=hsv
 rw [nums_length] at hcap1 hcur0
 have hc0:c.w0.cell? ⟨b0,0,none⟩=some (.slice a l.length cap):=by
  have hc1:cur0 = #[.slice a l.length cap]:=by cases cur0;simpa using hcur0
  simp [World.cell?,hh0,hc1]
 have hc1:c.w0.cell? ⟨b1,0,none⟩=some (.int .i64 16):=by
  have hc1:cur1 = #[.int .i64 16]:=by cases cur1;simpa using hcur1
  simp [World.cell?,hh1,hc1]
 have hsv:(∃ a' cap',Value.slice a l.length cap = .slice a' 0 cap')∨∃ b off len cap',Value.slice a l.length cap = .slice (some ⟨b,off,none⟩) len cap'∧len≤1000000∧len≤cap'∧cap'≤maxLen:=by
  cases a with
  | none =>
    have:=hnone rfl
    exact .inl ⟨none,cap,by rw [show l.length=0 by omega]⟩
  | some a =>
    rcases (hvde a rfl).1 with h|h
    ·have:l=[]:=by simpa [nums] using h
     subst this
     exact .inl ⟨some a,cap,rfl⟩
    ·obtain ⟨b,off,sp⟩:=a
     simp only at h
     subst h
     exact .inr ⟨b,off,l.length,cap,rfl,hl,hcap1,by omega⟩
 have hcall:=collect_in Fence.wide 4 trivial trivial trivial rfl (by omega) b0 b1 _ c.w0 (Array.getElem?_eq_some_iff.1 hh0).1 (Array.getElem?_eq_some_iff.1 hh1).1 hsv hc0 hc1
 have hvs':vs = #[.func (.func 257) #[] #[.pointer (some ⟨b0,0,none⟩),.pointer (some ⟨b1,0,none⟩)]]:=by cases vs;cases caps;simp_all
 rw [hvs']
 refine (callsIn_wide.1 hcall).mono ?_
 rintro e w' ⟨v,rfl,⟨hrl,hrow⟩,hb⟩
 have hkeep:Keeps c.w0 w':=⟨hb.os,hb.tape,hb.output,hb.size,hb.block⟩
 have hcl:chlen (.slice a l.length cap)=chn l.length:=rfl
 have hnl:(numss (chunksI l)).length=chn l.length:=by rw [numss_length,chunksI];simp
 rw [hcl] at hrow
 rcases hrow with ⟨rfl,h0⟩|⟨g,cap3,cur,rfl,hg,hhg,hcap3,hcap4,hcs,htake⟩
 ·have hx:numss (chunksI l)=[]:=List.eq_nil_of_length_eq_zero (by omega)
  rw [hx]
  refine ⟨_,.arr 2,_,Eupd c.E0 2 none,rfl,⟨rfl,rfl⟩,hs.extend hc hkeep (.row 22 1 [] false) none (fun b h=>by cases h) (fun b h=>by simp [AB.boxes] at h) (by simp [AB.boxes]) (fun b h=>by simp [AB.boxes] at h) ?_,?_⟩
  ·exact ⟨⟨by decide,rfl⟩,by simp,rfl⟩
  ·exact ⟨_,rfl,by simp [arRel,Eupd]⟩
 ·refine ⟨_,.arr 2,_,Eupd c.E0 2 (some g),rfl,⟨rfl,rfl⟩,hs.extend hc hkeep (.row 22 1 (numss (chunksI l)) false) (some g) (fun b h=>by cases h;exact hg) (fun b h=>by simp [AB.boxes] at h) (by simp [AB.boxes]) (fun b h=>by simp [AB.boxes] at h) ?_,?_⟩
  ·simp only [BR]
   refine ⟨⟨by decide,rfl⟩,by simp [numss],cap3,cur,hhg,hcs,by omega,hcap4,?_⟩
   rw [hnl,htake]
   have hle:=le_extend (c:=c) (E:=c.E0) (L:=[.cells [.d (.sl 1 (nums l))],.cells [.d (.int .i64 16)]]) hkeep (.row 22 1 (numss (chunksI l)) false) (some g) hs.bl (fun b h=>by cases h;exact hg) (fun b h=>by simp [AB.boxes] at h)
   refine VDs.mono hle.rd ?_
   have hnil:l=[]→VDs (rcOf c.M0 c.E0 [.cells [.d (.sl 1 (nums l))],.cells [.d (.int .i64 16)]] c.w0).rd (numss (chunksI l)).flatten (List.map (chvs (Value.slice a l.length cap)) (List.range (chn l.length))):=by
    rintro rfl
    simp [chunksI,chn,numss,VDs,Cs]
   cases a with
   | none =>
     have:=hnone rfl
     exact hnil (List.eq_nil_of_length_eq_zero (by omega))
   | some a =>
     obtain ⟨hsp,htk,hve⟩:=hvde a rfl
     rcases hsp with h|h
     ·exact hnil (by simpa [nums] using h)
     ·obtain ⟨b,off,sp⟩:=a
      simp only at h
      subst h
      exact chvs_VDs (cap:=cap) hl hcap1 (fun o' c' h1 h2=>by
       have h3:=tkc_rcOf _ _ _ _ ⟨b,off,none⟩ 1 cap o' rfl (by omega) (htk (by omega))
       rw [Nat.mul_one] at h3
       exact tkl_rcOf (a:=⟨b,off+o',none⟩) h3 (by omega)) hve (List.range (chn l.length)) fun k hk=>List.mem_range.1 hk
  ·exact ⟨_,rfl,by
    simp only [arRel,Eupd]
    exact ⟨cap3,cur,by rw [hnl],hhg,hcs⟩⟩
end Go.Proofs.YtolkmjfkkkiboaaGreat
namespace Go.Proofs.YtolkmjfkkkiboaaGreat
open Go.Ab Go.RowKit Go.MapKept
attribute [local irreducible] ACalls AW ADraw Into fltB fnear
set_option maxRecDepth 100000
structure Vote where
 round:Int
 author:Int
 digest:Int
deriving DecidableEq
def Vote.cs (v:Vote):List DV:=[.int .i64 v.round,.int .i64 v.author,.int .i64 v.digest]
def votesD (l:List Vote):List (List DV):=l.map Vote.cs
theorem votesD_length (l:List Vote):(votesD l).length=l.length:=List.length_map ..
structure Tx where
 sender:Int
 seq:Int
 key:ByteArray
 val:ByteArray
def Tx.cs (t:Tx):List DV:=[.int .i64 t.sender,.int .i64 t.seq,.str t.key,.str t.val]
def txsD (l:List Tx):List (List DV):=l.map Tx.cs
structure Msg where
 kind:Int
 src:Int
 dst:Int
 digest:Int
 ba:Int
 bn:Int
 txs:List Tx
 head:Cert
 cert:Cert
 digs:List Int
def Msg.cs (m:Msg):List DV:=[.int .i64 m.kind,.int .i64 m.src,.int .i64 m.dst,.int .i64 m.digest,.int .i64 m.ba,.int .i64 m.bn,.sl 4 (txsD m.txs),.int .i64 m.head.author,.int .i64 m.head.round,.sl 1 (nums m.head.bats),.sl 1 (nums m.head.pars),.int .i64 m.cert.author,.int .i64 m.cert.round,.sl 1 (nums m.cert.bats),.sl 1 (nums m.cert.pars),.int .i64 m.cert.digest,.sl 1 (nums m.cert.sigs),.sl 1 (nums m.digs)]
def Msg.av (m:Msg):AV := .agg (m.cs.map AV.d)
def msgsD (l:List Msg):List (List DV):=l.map Msg.cs
theorem msgsD_length (l:List Msg):(msgsD l).length=l.length:=List.length_map ..
structure Prim where
 id:Int
 nodes:Int
 round:Int
 age:Int
 said:Int
 mine:Cert
 dig:Int
 acks:List Int
 votes:List Vote
 dag:Dag
 late:List Cert
def Prim.cs (p:Prim):List DV:=[.int .i64 p.id,.int .i64 p.nodes,.int .i64 p.round,.int .i64 p.age,.int .i64 p.said,.int .i64 p.mine.author,.int .i64 p.mine.round,.sl 1 (nums p.mine.bats),.sl 1 (nums p.mine.pars),.int .i64 p.dig,.sl 1 (nums p.acks),.sl 3 (votesD p.votes),.int .i64 p.dag.nodes,.int .i64 p.dag.low,.sl 6 (certsD p.dag.certs),.sl 6 (certsD p.late)]
def Prim.av (p:Prim):AV := .agg (p.cs.map AV.d)
def Prim.st (p:Prim) (out:List Msg):List AB:=[.cells (p.cs.map AV.d++[.arr 1]),.row 49 18 (msgsD out) false]
def Prim.st1 (p:Prim) (out:List Msg):List AB:=[.cells (p.cs.map AV.d++[.arr 2]),.dead,.row 49 18 (msgsD out) false]
def cz0:Cert:=⟨0,0,[],[],0,[]⟩
def Msg.told (m:Msg) (p:Prim) (to:Int):Msg:={ m with src:=p.id,dst:=to }
set_option maxHeartbeats 1000000 in
theorem say_ok (p:Prim) (out:List Msg) (ho:out.length≤1000000000) (to:Int) (m:Msg) (h1:m.head.tiny) (h2:m.cert.tiny):ACalls Tryz.prog 179 [.ptr 0 0,.d (.int .i64 to),m.av] (p.st out) (fun av L=>av = .tup []∧L=p.st1 (out++[m.told p to])):=by
 have hml:=msgsD_length out
 (refine acalls_go ttOk zOk foOk Tryz.func179 rfl Tryz.ntmps179 rfl false rfl ?_);(conv=>whnf)
 refine rdw ?_;repeat' ((with_reducible apply tw)<;>intro _)
 ((with_reducible refine draw_pl ttOk zOk foOk mixedOk pl179x2 ?_ ?_);(focus kernel_rfl);(conv=>whnf))
 refine rdw ?_;repeat' ((with_reducible apply tw)<;>intro _)
 refine (own_ok m.head h1).mono ?_
 rintro _ _ ⟨rfl,rfl⟩
 conv=>whnf
 refine rdw ?_;repeat' ((with_reducible apply tw)<;>intro _)
 refine (ownCert_ok m.cert h2).mono ?_
 rintro _ _ ⟨rfl,rfl⟩
 conv=>whnf
 refine rdw ?_;repeat' ((with_reducible apply tw)<;>intro _)
 ((with_reducible refine draw_pl ttOk zOk foOk mixedOk pl179x3 ?_ ?_);(focus kernel_rfl);(conv=>whnf))
 refine rdw ?_;repeat' ((with_reducible apply tw)<;>intro _)
 refine ⟨by simp;omega,?_⟩
 conv=>whnf
 refine rdw ?_;repeat' ((with_reducible apply tw)<;>intro _)
 refine ⟨rfl,?_⟩
 rw [Prim.st1,show msgsD (out++[m.told p to])=msgsD out++[(m.told p to).cs] by simp [msgsD]]
 rfl
theorem compareI_ok (x y:Int):ACalls Tryz.prog 242 [.d (.int .i64 x),.d (.int .i64 y)] [] (fun av L=>av = .d (.int .i64 (cmpI x y))∧L=[]):=by
 (refine acalls_go ttOk zOk foOk Tryz.func242 rfl Tryz.ntmps242 rfl false rfl ?_);(conv=>whnf)
 refine (isNaNi_ok x).mono ?_
 rintro _ _ ⟨rfl,rfl⟩
 conv=>whnf
 refine rdw ?_;repeat' ((with_reducible apply tw)<;>intro _)
 refine (isNaNi_ok y).mono ?_
 rintro _ _ ⟨rfl,rfl⟩
 conv=>whnf
 refine rdw ?_;repeat' ((with_reducible apply tw)<;>intro _)
 all_goals refine ⟨?_,rfl⟩
 ·rename_i h
  rw [cmpI,if_pos h];rfl
 ·rename_i h h2
  rw [cmpI,if_neg h,if_pos h2];rfl
 ·rename_i h h2
  rw [cmpI,if_neg h,if_neg h2];rfl
theorem lateAtf_ok (c:Cert) (d:Int):ACalls Tryz.prog 241 [c.av,.d (.int .i64 d)] [] (fun av L=>av = .d (.int .i64 (cmpI c.digest d))∧L=[]):=by
 (refine acalls_go ttOk zOk foOk Tryz.func241 rfl Tryz.ntmps241 rfl false rfl ?_);(conv=>whnf)
 refine rdw ?_;repeat' ((with_reducible apply tw)<;>intro _)
 refine (compareI_ok c.digest d).mono ?_
 rintro _ _ ⟨rfl,rfl⟩
 conv=>whnf
 exact ⟨rfl,rfl⟩
def risingC (l:List Cert):Prop:=l.Pairwise fun x y=>x.digest<y.digest
def lateI (l:List Cert) (d:Int):Nat:=(l.filter fun c=>decide (c.digest<d)).length
def isLate (l:List Cert) (d:Int):Bool:=l.any fun c=>c.digest == d
theorem lateI_le (l:List Cert) (d:Int):lateI l d≤l.length:=List.length_filter_le ..
theorem lateI_iff {d:Int}:∀ {l:List Cert} {m:Nat} {c:Cert},risingC l→l[m]? = some c→(c.digest<d↔m<lateI l d)
 | [],m,c,_,h=>by simp at h
 | x :: t,m,c,hs,h=>by
   have hs':=List.pairwise_cons.1 hs
   by_cases hx:x.digest<d
   ·have hp:lateI (x :: t) d=lateI t d+1:=by simp [lateI,hx]
    cases m with
    | zero =>
      simp only [List.getElem?_cons_zero,Option.some.injEq] at h
      subst h
      rw [hp];simp [hx]
    | succ m =>
      rw [List.getElem?_cons_succ] at h
      rw [lateI_iff hs'.2 h,hp];omega
   ·have hall:∀ y∈t,¬y.digest<d:=fun y hy=>by have:=hs'.1 y hy;omega
    have hp:lateI (x :: t) d=0:=by
     simp only [lateI,List.length_eq_zero_iff,List.filter_eq_nil_iff]
     intro y hy
     rcases List.mem_cons.1 hy with rfl|hy
     ·simpa using hx
     ·simpa using hall y hy
    rw [hp]
    constructor
    ·intro hc
     rcases List.mem_cons.1 (List.mem_of_getElem? h) with rfl|hy
     ·exact absurd hc hx
     ·exact absurd hc (hall c hy)
    ·intro hc;omega
theorem isLate_at {l:List Cert} {d:Int} (hs:risingC l):isLate l d=((l[lateI l d]?).elim false fun c=>c.digest == d):=by
 rw [Bool.eq_iff_iff]
 unfold isLate
 rw [List.any_eq_true]
 constructor
 ·rintro ⟨c,hc,hd⟩
  obtain ⟨m,hm⟩:=List.getElem?_of_mem hc
  have hd':c.digest=d:=by simpa using hd
  have h1:¬m<lateI l d:=fun h=>by have:=(lateI_iff hs hm).2 h;omega
  have h2:m=lateI l d:=by
   rcases Nat.lt_or_ge (lateI l d) m with h|h
   ·exfalso
    have hml:=(List.getElem?_eq_some_iff.1 hm).1
    obtain ⟨x,hx⟩:∃ x,l[lateI l d]? = some x:=⟨_,List.getElem?_eq_getElem (by omega)⟩
    have hlt:x.digest<c.digest:=by
     have:=List.pairwise_iff_getElem.1 hs (lateI l d) m (by omega) hml h
     rw [List.getElem?_eq_getElem (by omega)] at hx hm
     cases hx;cases hm;exact this
    have:=(lateI_iff (d:=d) hs hx).1 (by omega)
    omega
   ·omega
  rw [← h2,hm]
  exact hd
 ·intro h
  cases hx:l[lateI l d]? with
  | none=>rw [hx] at h;cases h
  | some c=>rw [hx] at h;exact ⟨c,List.mem_of_getElem? hx,h⟩
theorem cmpI_neg {x y:Int}:cmpI x y<0↔x<y:=by unfold cmpI;split<;>(try split)<;>omega
theorem cmpI_zero {x y:Int}:cmpI x y=0↔x=y:=by unfold cmpI;split<;>(try split)<;>omega
set_option maxHeartbeats 4000000 in
theorem bsearchL_ok (l:List Cert) (d:Int) (hl:few l) (hs:risingC l):ACalls Tryz.prog 240 [.d (.sl 6 (certsD l)),.d (.int .i64 d),.fn 241 []] [] (fun av L=>av = .tup [.d (.int .i64 (lateI l d)),.d (.bool (isLate l d))]∧L=[]):=by
 have hcl:=certsD_length l
 unfold few at hl
 (refine acalls_go ttOk zOk foOk Tryz.func240 rfl Tryz.ntmps240 rfl false rfl ?_);(conv=>whnf)
 refine loop_go ttOk zOk foOk (σ:=Nat×Nat) (fun s=>([(0,.d (.sl 6 (certsD l))),(1,.d (.int .i64 d)),(2,.fn 241 []),(8,.d (.int .i64 l.length)),(9,.d (.int .i64 s.1)),(10,.d (.int .i64 s.2))],[])) (fun s=>s.1≤lateI l d∧lateI l d≤s.2∧s.2≤l.length) (fun s=>s.2 - s.1) [0,1,2,8,9,10] ?_ ?_
 ·conv=>whnf
  exact ⟨(0,l.length),by rw [hcl];rfl,rfl,Nat.zero_le _,lateI_le l d,Nat.le_refl _⟩
 ·rintro ⟨i,j⟩ ⟨h1,h2,h3⟩
  simp only at h1 h2 h3
  conv=>whnf
  refine rdz ?_;repeat' ((with_reducible apply tw)<;>intro _)
  ·rename_i hij
   intro z hz
   conv=>whnf
   refine ⟨by decide,?_⟩
   intro z1 hz1
   conv=>whnf
   intro z2 hz2
   have hh:=half (by omega) (by omega) hz hz1 hz2
   subst hh
   clear hz hz1 hz2
   obtain ⟨h,hh⟩:∃ h,(i+j) / 2=h:=⟨_,rfl⟩
   rw [hh]
   obtain ⟨c,hc⟩:∃ c,l[h]? = some c:=⟨_,List.getElem?_eq_getElem (by omega)⟩
   conv=>whnf
   refine ⟨by omega,c.cs,certsD_at hc,?_⟩
   conv=>whnf
   refine rdz ?_;repeat' ((with_reducible apply tw)<;>intro _)
   refine (lateAtf_ok c d).mono ?_
   rintro _ _ ⟨rfl,rfl⟩
   have hp:=lateI_iff (d:=d) hs hc
   rw [← cmpI_neg] at hp
   conv=>whnf
   refine rdz ?_;repeat' ((with_reducible apply tw)<;>intro _)
   ·rename_i hn
    exact ⟨(h+1,j),rfl,rfl,⟨by have:=hp.1 hn;show h+1≤_;omega,h2,h3⟩,by show j - (h+1)<j - i;omega⟩
   ·rename_i hn
    exact ⟨(i,h),rfl,rfl,⟨h1,by show _≤h;rcases Nat.lt_or_ge h (lateI l d) with h4|h4;exact absurd (hp.2 h4) hn;exact h4,by show h≤_;omega⟩,by show h - i<j - i;omega⟩
  ·rename_i hij hlt
   replace hij:¬(i:Int)<j:=hij
   replace hlt:(i:Int)<l.length:=hlt
   obtain rfl:i=lateI l d:=by omega
   obtain ⟨c,hc⟩:∃ c,l[lateI l d]? = some c:=⟨_,List.getElem?_eq_getElem (by omega)⟩
   rw [isLate_at hs]
   refine ⟨by omega,c.cs,certsD_at hc,?_⟩
   conv=>whnf
   refine rdz ?_;repeat' ((with_reducible apply tw)<;>intro _)
   refine (lateAtf_ok c d).mono ?_
   rintro _ _ ⟨rfl,rfl⟩
   conv=>whnf
   refine ⟨?_,rfl⟩
   have e:((l[lateI l d]?).elim false fun c=>c.digest == d)=(cmpI c.digest d == 0):=by
    rw [hc,Bool.eq_iff_iff,beq_iff_eq,cmpI_zero]
    simp
   rw [e]
  ·rename_i hij hlt
   replace hij:¬(i:Int)<j:=hij
   replace hlt:¬(i:Int)<l.length:=hlt
   obtain rfl:i=lateI l d:=by omega
   rw [isLate_at hs,List.getElem?_eq_none (by omega)]
   exact ⟨rfl,rfl⟩
def Prim.sj (p:Prim) (j:Bool) (out:List Msg):List AB:=if j then p.st1 out else p.st out
theorem lateAt_ok (p:Prim) (j:Bool) (out:List Msg) (hl:few p.late) (hs:risingC p.late) (d:Int):ACalls Tryz.prog 206 [.ptr 0 0,.d (.int .i64 d)] (p.st out) (fun av L=>av = .tup [.d (.int .i64 (lateI p.late d)),.d (.bool (isLate p.late d))]∧L=p.st out):=by
 (refine acalls_go ttOk zOk foOk Tryz.func206 rfl Tryz.ntmps206 rfl false rfl ?_);(conv=>whnf)
 refine rdz ?_;repeat' ((with_reducible apply tw)<;>intro _)
 refine (bsearchL_ok p.late d hl hs).mono ?_
 rintro _ _ ⟨rfl,rfl⟩
 conv=>whnf
 refine rdz ?_;repeat' ((with_reducible apply tw)<;>intro _)
 exact ⟨rfl,rfl⟩
def freshI (late:List Cert) (l:List Int):List Int:=l.filter fun x => !isLate late x
set_option maxHeartbeats 4000000 in
theorem fresh_ok (p:Prim) (out:List Msg) (hl:few p.late) (hs:risingC p.late) (l:List Int) (hll:l.length≤1000000):ACalls Tryz.prog 203 [.ptr 0 0,.d (.sl 1 (nums l))] (p.st out) (fun av L=>av = .d (.sl 1 (nums (freshI p.late l)))∧L=p.st out):=by
 have hnl:=nums_length l
 have hcall:=lateAt_ok p false out hl hs
 (refine acalls_go ttOk zOk foOk Tryz.func203 rfl Tryz.ntmps203 rfl false rfl ?_);(conv=>whnf)
 refine rdz ?_;repeat' ((with_reducible apply tw)<;>intro _)
 refine loop_go ttOk zOk foOk (σ:=Nat) (fun j=>([(0,.ptr 0 0),(9,.d (.sl 1 (nums l))),(10,.d (.int .i64 l.length)),(11,.d (.int .i64 j)),(4,.arr 2)],p.st out++[.row 3 1 (nums (freshI p.late (l.take j))) false])) (fun j=>j≤l.length) (fun j=>l.length - j) [0,9,10,11,4] ?_ ?_
 ·conv=>whnf
  exact ⟨0,by rw [hnl];rfl,rfl,Nat.zero_le _⟩
 ·intro j hj
  have hfn:(nums (freshI p.late (l.take j))).length≤l.length:=by rw [nums_length];exact Nat.le_trans (List.length_filter_le ..) (List.length_take_le' ..)
  conv=>whnf
  refine rdz ?_;repeat' ((with_reducible apply tw)<;>intro _)
  ·rename_i hjl
   refine Exists.elim (⟨_,List.getElem?_eq_getElem (by omega)⟩:∃ x,l[j]? = some x) fun x hx => ?_
   refine ⟨by omega,[.int .i64 x],nums_at hx,?_⟩
   conv=>whnf
   refine (hcall x).mono ?_
   rintro _ _ ⟨rfl,rfl⟩
   have hsn:∀ b,isLate p.late x=b→freshI p.late (l.take (j+1))=freshI p.late (l.take j)++(if b then [] else [x]):=by
    intro b hb
    unfold freshI
    rw [List.take_add_one,hx,List.filter_append]
    cases b<;>simp [List.filter_cons,hb]
   obtain ⟨b,hb⟩:∃ b,isLate p.late x=b:=⟨_,rfl⟩
   rw [hb]
   replace hsn:=hsn b hb
   cases b with
   | true =>
     conv=>whnf
     refine rdz ?_;repeat' ((with_reducible apply tw)<;>intro _)
     refine ⟨j+1,rfl,?_,by omega,by omega⟩
     rw [hsn]
     simp
     rfl
   | false =>
     conv=>whnf
     refine rdz ?_;repeat' ((with_reducible apply tw)<;>intro _)
     refine ⟨by simp;omega,?_⟩
     conv=>whnf
     refine rdz ?_;repeat' ((with_reducible apply tw)<;>intro _)
     refine ⟨j+1,rfl,?_,by omega,by omega⟩
     rw [hsn,← nums_apps]
     rfl
  ·rename_i hjl
   have:l.take j=l:=List.take_of_length_le (by omega)
   rw [this]
   exact ⟨rfl,rfl⟩
theorem chunk_ok (l:List Int):ACalls Tryz.prog 236 [.d (.sl 1 (nums l)),.d (.int .i64 16)] [] (fun av L=>av = .fn 257 [.ptr 0 0,.ptr 1 0]∧L=[.cells [.d (.sl 1 (nums l))],.cells [.d (.int .i64 16)]]):=by
 (refine acalls_go ttOk zOk foOk Tryz.func236 rfl Tryz.ntmps236 rfl true rfl ?_);(conv=>whnf)
 refine rdz ?_;repeat' ((with_reducible apply tw)<;>intro _)
 exact ⟨rfl,rfl⟩
theorem collect_data (l:List Int) (hl:l.length≤1000000):ACalls Tryz.prog 235 [.fn 257 [.ptr 0 0,.ptr 1 0]] [.cells [.d (.sl 1 (nums l))],.cells [.d (.int .i64 16)]] (fun av L=>av = .d (.sl 1 (numss (chunksI l)))∧L=[.cells [.d (.sl 1 (nums l))],.cells [.d (.int .i64 16)]]):=by
 refine acalls_data (collect_ok l hl) ?_
 rintro _ _ ⟨rfl,rfl⟩
 conv=>whnf
 exact ⟨rfl,rfl⟩
def wantM (p:Prim) (to kind:Int) (l:List Int):Msg:=⟨kind,p.id,to,0,0,0,[],cz0,cz0,l⟩
def wantO (p:Prim) (to kind:Int) (l:List Int):List Msg:=(chunksI l).map (wantM p to kind)
theorem chunksI_length (l:List Int):(chunksI l).length=chn l.length:=by simp [chunksI]
theorem chunks_tiny {l:List Int} (hl:l.length≤1000000):∀ x∈chunksI l,x.length≤16:=by
 intro x hx
 obtain ⟨k,_,rfl⟩:=List.mem_map.1 hx
 exact List.length_take_le ..
theorem numss_at {l:List (List Int)} {k:Nat} {a:List Int} (h:l[k]? = some a):(numss l)[k]? = some [.sl 1 (nums a)]:=by simp [numss,h]
theorem cloneI_ok (l:List Int) (hl:l.length≤1099511627776):ACalls Tryz.prog 143 [.d (.sl 1 (nums l))] [] (fun av L=>av = .d (.sl 1 (nums l))∧L=[]):=by
 refine acalls_data (clone_ok l hl) ?_
 rintro _ _ ⟨rfl,rfl⟩
 conv=>whnf
 exact ⟨rfl,rfl⟩
theorem cz0_tiny:cz0.tiny:=⟨Nat.zero_le _,Nat.zero_le _,Nat.zero_le _⟩
theorem wantSt_step (p:Prim) (out:List Msg) (to kind:Int) {l:List (List Int)} {k:Nat} {x:List Int} (hx:l[k]? = some x):out++(l.take k).map (wantM p to kind)++[(⟨kind,0,0,0,0,0,[],cz0,cz0,x⟩:Msg).told p to]=out++(l.take (k+1)).map (wantM p to kind):=by
 rw [List.take_add_one,hx]
 simp [wantM,Msg.told]
def wantSt (p:Prim) (out:List Msg) (to kind:Int) (l:List Int) (j:Bool) (k:Nat):AF×List AB:=([(0,.ptr 0 0),(1,.d (.int .i64 to)),(2,.d (.int .i64 kind)),(12,.d (.sl 1 (numss (chunksI l)))),(13,.d (.int .i64 (chunksI l).length)),(14,.d (.int .i64 k))],p.sj j (out++((chunksI l).take k).map (wantM p to kind)))
set_option maxHeartbeats 4000000 in
theorem want_ok (p:Prim) (out:List Msg) (ho:out.length≤100000000) (to kind:Int) (l:List Int) (hl:l.length≤1000000):ACalls Tryz.prog 202 [.ptr 0 0,.d (.int .i64 to),.d (.int .i64 kind),.d (.sl 1 (nums l))] (p.st out) (fun av L=>av = .tup []∧∃ j,L=p.sj j (out++wantO p to kind l)):=by
 have hcl:=chunksI_length l
 have hnl:=numss_length (chunksI l)
 unfold chn at hcl
 (refine acalls_go ttOk zOk foOk Tryz.func202 rfl Tryz.ntmps202 rfl false rfl ?_);(conv=>whnf)
 refine rdz ?_;repeat' ((with_reducible apply tw)<;>intro _)
 refine (chunk_ok l).mono ?_
 rintro _ _ ⟨rfl,rfl⟩
 conv=>whnf
 refine rdz ?_;repeat' ((with_reducible apply tw)<;>intro _)
 refine (collect_data l hl).mono ?_
 rintro _ _ ⟨rfl,rfl⟩
 conv=>whnf
 refine rdz ?_;repeat' ((with_reducible apply tw)<;>intro _)
 refine loop_go2 ttOk zOk foOk (σ:=Bool) (ρ:=Nat) (wantSt p out to kind l) (fun j k=>k≤(chunksI l).length) (fun j k=>(chunksI l).length - k) [0,1,2,12,13,14] ?_ ?_
 ·conv=>whnf
  exact ⟨false,0,by rw [hnl];rfl,by simp only [wantSt,List.take_zero,List.map_nil,List.append_nil];rfl,Nat.zero_le _⟩
 ·rintro j k hk
  cases j with
  | false =>
    conv=>whnf
    refine rdz ?_;repeat' ((with_reducible apply tw)<;>intro _)
    ·refine Exists.elim (⟨_,List.getElem?_eq_getElem (by omega)⟩:∃ x,(chunksI l)[k]? = some x) fun x hx => ?_
     have hxt:=chunks_tiny hl x (List.mem_of_getElem? hx)
     have hsay:=say_ok p (out++((chunksI l).take k).map (wantM p to kind)) (by simp;omega) to (⟨kind,0,0,0,0,0,[],cz0,cz0,x⟩:Msg) cz0_tiny cz0_tiny
     rw [wantSt_step p out to kind hx] at hsay
     refine ⟨by omega,[.sl 1 (nums x)],numss_at hx,?_⟩
     conv=>whnf
     refine rdz ?_;repeat' ((with_reducible apply tw)<;>intro _)
     refine (cloneI_ok x (by omega)).mono ?_
     rintro _ _ ⟨rfl,rfl⟩
     conv=>whnf
     refine rdz ?_;repeat' ((with_reducible apply tw)<;>intro _)
     refine (acalls_nw hsay (.cons (.refl _) (.cons (.refl _) (.cons (.agg ?_) .nil)))).mono ?_
     ·repeat (first|exact .nil|refine .cons (.refl _) ?_|refine .cons (.nils _ (by decide)) ?_)
     ·rintro _ _ ⟨rfl,rfl⟩
      conv=>whnf
      refine rdz ?_;repeat' ((with_reducible apply tw)<;>intro _)
      exact ⟨true,k+1,rfl,rfl,by omega,by omega⟩
    ·rename_i hkl
     have:k=(chunksI l).length:=by omega
     subst this
     rw [List.take_length]
     exact ⟨rfl,false,rfl⟩
  | true =>
    conv=>whnf
    refine rdz ?_;repeat' ((with_reducible apply tw)<;>intro _)
    ·refine Exists.elim (⟨_,List.getElem?_eq_getElem (by omega)⟩:∃ x,(chunksI l)[k]? = some x) fun x hx => ?_
     have hxt:=chunks_tiny hl x (List.mem_of_getElem? hx)
     have hsay:=say_ok p (out++((chunksI l).take k).map (wantM p to kind)) (by simp;omega) to (⟨kind,0,0,0,0,0,[],cz0,cz0,x⟩:Msg) cz0_tiny cz0_tiny
     rw [wantSt_step p out to kind hx] at hsay
     refine ⟨by omega,[.sl 1 (nums x)],numss_at hx,?_⟩
     conv=>whnf
     refine rdz ?_;repeat' ((with_reducible apply tw)<;>intro _)
     refine (cloneI_ok x (by omega)).mono ?_
     rintro _ _ ⟨rfl,rfl⟩
     conv=>whnf
     refine rdz ?_;repeat' ((with_reducible apply tw)<;>intro _)
     refine (acalls_nw hsay (.cons (.refl _) (.cons (.refl _) (.cons (.agg ?_) .nil)))).mono ?_
     ·repeat (first|exact .nil|refine .cons (.refl _) ?_|refine .cons (.nils _ (by decide)) ?_)
     ·rintro _ _ ⟨rfl,rfl⟩
      conv=>whnf
      refine rdz ?_;repeat' ((with_reducible apply tw)<;>intro _)
      exact ⟨true,k+1,rfl,rfl,by omega,by omega⟩
    ·rename_i hkl
     have:k=(chunksI l).length:=by omega
     subst this
     rw [List.take_length]
     exact ⟨rfl,true,rfl⟩
def tellL (p:Prim) (not:List Int) (k:Nat):List Int:=((List.range k).map fun i:Nat=>(i:Int)+1).filter fun t=>decide (t≠p.id∧t∉not)
def tellO (p:Prim) (m:Msg) (not:List Int) (k:Nat):List Msg:=(tellL p not k).map (m.told p)
theorem tellO_succ (p:Prim) (m:Msg) (not:List Int) (k:Nat):tellO p m not (k+1)=tellO p m not k++(if (k:Int)+1≠p.id∧(k:Int)+1∉not then [m.told p ((k:Int)+1)] else []):=by
 unfold tellO tellL
 rw [List.range_succ,List.map_append,List.filter_append,List.map_append]
 congr 1
 by_cases h:(k:Int)+1≠p.id∧(k:Int)+1∉not
 ·simp [h]
 ·rw [if_neg h]
  simp only [List.map_cons,List.map_nil,List.filter_cons,decide_eq_false h]
  simp
theorem tellO_len (p:Prim) (m:Msg) (not:List Int) (k:Nat):(tellO p m not k).length≤k:=by
 unfold tellO tellL
 rw [List.length_map]
 exact Nat.le_trans (List.length_filter_le ..) (by simp)
def teB (p:Prim) (out:List Msg) (m:Msg) (j:Bool):List AB:=if j then [.cells (p.cs.map AV.d++[.arr 3]),.dead,.cells (m.cs.map AV.d),.row 49 18 (msgsD out) false] else [.cells (p.cs.map AV.d++[.arr 1]),.row 49 18 (msgsD out) false,.cells (m.cs.map AV.d)]
def teSt (p:Prim) (out:List Msg) (m:Msg) (not:List Int) (s:Bool×Nat):AF×List AB:=([(0,.ptr 0 0),(2,.d (.sl 1 (nums not))),(4,.ptr 2 0),(6,.d (.int .i64 ((s.2:Int)+1)))],teB p (out++tellO p m not s.2) m s.1)
set_option maxHeartbeats 4000000 in
theorem tell_ok (p:Prim) (hn:0≤p.nodes∧p.nodes≤16) (out:List Msg) (ho:out.length≤100000000) (m:Msg) (h1:m.head.tiny) (h2:m.cert.tiny) (not:List Int) (hnot:few not):ACalls Tryz.prog 145 [.ptr 0 0,m.av,.d (.sl 1 (nums not))] (p.st out) (fun av L=>av = .tup []∧∃ j,L=p.sj j (out++tellO p m not p.nodes.toNat)):=by
 have hnl:=nums_length not
 (refine acalls_go ttOk zOk foOk Tryz.func145 rfl Tryz.ntmps145 rfl false rfl ?_);(conv=>whnf)
 refine scope_go ttOk zOk foOk (σ:=Bool×Nat) (teSt p out m not) (fun k s=>k=0∧s.2≤p.nodes.toNat) (fun _ s=>p.nodes.toNat - s.2) ?_ ?_
 ·rintro k rest hk ⟨j,q⟩ ⟨rfl,hq⟩
  have e:=Option.some.inj (show some _=some rest from hk)
  subst e
  clear hk
  replace hq:q≤p.nodes.toNat:=hq
  have htl:=tellO_len p m not q
  have hts:=tellO_succ p m not q
  cases j with
  | false =>
    conv=>whnf
    refine rdz ?_;repeat' ((with_reducible apply tw)<;>intro _)
    ·rename_i h
     replace h:p.nodes<(q:Int)+1:=h
     obtain rfl:q=p.nodes.toNat:=by omega
     exact ⟨rfl,false,rfl⟩
    ·rename_i hle hne
     replace hne:(q:Int)+1≠p.id:=hne
     replace hle:¬p.nodes<(q:Int)+1:=hle
     refine (contains_ok not hnot ((q:Int)+1)).mono ?_
     rintro _ _ ⟨rfl,rfl⟩
     by_cases hm:(q:Int)+1∈not
     ·rw [decide_eq_true hm]
      rw [if_neg (fun h=>h.2 hm),List.append_nil] at hts
      conv=>whnf
      refine rdz ?_;repeat' ((with_reducible apply tw)<;>intro _)
      refine into_of [0,2,4,6] ?_
      conv=>whnf
      exact ⟨(false,q+1),rfl,by simp only [teSt];rw [hts];rfl,⟨rfl,by show q+1≤_;omega⟩,by show _ - (q+1)<_ - q;omega⟩
     ·rw [decide_eq_false hm]
      rw [if_pos ⟨hne,hm⟩] at hts
      have hsay:=say_ok p (out++tellO p m not q) (by rw [List.length_append];omega) ((q:Int)+1) m h1 h2
      rw [List.append_assoc,← hts] at hsay
      conv=>whnf
      refine rdz ?_;repeat' ((with_reducible apply tw)<;>intro _)
      refine hsay.mono ?_
      rintro _ _ ⟨rfl,rfl⟩
      conv=>whnf
      refine rdz ?_;repeat' ((with_reducible apply tw)<;>intro _)
      refine into_of [0,2,4,6] ?_
      conv=>whnf
      exact ⟨(true,q+1),rfl,rfl,⟨rfl,by show q+1≤_;omega⟩,by show _ - (q+1)<_ - q;omega⟩
    ·rename_i hle hne
     replace hne:(q:Int)+1=p.id:=hne
     replace hle:¬p.nodes<(q:Int)+1:=hle
     rw [if_neg (fun h=>h.1 hne),List.append_nil] at hts
     refine into_of [0,2,4,6] ?_
     conv=>whnf
     exact ⟨(false,q+1),rfl,by simp only [teSt];rw [hts];rfl,⟨rfl,by show q+1≤_;omega⟩,by show _ - (q+1)<_ - q;omega⟩
  | true =>
    conv=>whnf
    refine rdz ?_;repeat' ((with_reducible apply tw)<;>intro _)
    ·rename_i h
     replace h:p.nodes<(q:Int)+1:=h
     obtain rfl:q=p.nodes.toNat:=by omega
     exact ⟨rfl,true,rfl⟩
    ·rename_i hle hne
     replace hne:(q:Int)+1≠p.id:=hne
     replace hle:¬p.nodes<(q:Int)+1:=hle
     refine (contains_ok not hnot ((q:Int)+1)).mono ?_
     rintro _ _ ⟨rfl,rfl⟩
     by_cases hm:(q:Int)+1∈not
     ·rw [decide_eq_true hm]
      rw [if_neg (fun h=>h.2 hm),List.append_nil] at hts
      conv=>whnf
      refine rdz ?_;repeat' ((with_reducible apply tw)<;>intro _)
      refine into_of [0,2,4,6] ?_
      conv=>whnf
      exact ⟨(true,q+1),rfl,by simp only [teSt];rw [hts];rfl,⟨rfl,by show q+1≤_;omega⟩,by show _ - (q+1)<_ - q;omega⟩
     ·rw [decide_eq_false hm]
      rw [if_pos ⟨hne,hm⟩] at hts
      have hsay:=say_ok p (out++tellO p m not q) (by rw [List.length_append];omega) ((q:Int)+1) m h1 h2
      rw [List.append_assoc,← hts] at hsay
      conv=>whnf
      refine rdz ?_;repeat' ((with_reducible apply tw)<;>intro _)
      refine hsay.mono ?_
      rintro _ _ ⟨rfl,rfl⟩
      conv=>whnf
      refine rdz ?_;repeat' ((with_reducible apply tw)<;>intro _)
      refine into_of [0,2,4,6] ?_
      conv=>whnf
      exact ⟨(true,q+1),rfl,rfl,⟨rfl,by show q+1≤_;omega⟩,by show _ - (q+1)<_ - q;omega⟩
    ·rename_i hle hne
     replace hne:(q:Int)+1=p.id:=hne
     replace hle:¬p.nodes<(q:Int)+1:=hle
     rw [if_neg (fun h=>h.1 hne),List.append_nil] at hts
     refine into_of [0,2,4,6] ?_
     conv=>whnf
     exact ⟨(true,q+1),rfl,by simp only [teSt];rw [hts];rfl,⟨rfl,by show q+1≤_;omega⟩,by show _ - (q+1)<_ - q;omega⟩
 ·intro pass
  conv=>whnf
  refine aw_at (σ:=Unit) (fun _=>teSt p out m not (false,0)) (fun _=>True) [0,2,4,6] ?_ ?_
  ·conv=>whnf
   exact ⟨(),rfl,by rw [teSt,show tellO p m not (false,0).2=[] from rfl,List.append_nil];rfl,trivial⟩
  ·intro _ _
   exact pass 0 _ rfl (false,0) ⟨rfl,Nat.zero_le _⟩
theorem any_no {l:List Cert} {x:Int} (h:(l.any fun y=>y.digest == x)=false):∀ y∈l,y.digest≠x:=by
 intro y hy e
 rw [List.any_eq_false] at h
 exact h y hy (by simp [e])
theorem putE_ok {d:Dag} {c:Cert} (h:putE d c=0):d.low<c.round∧atC d.certs c.round c.author=none∧(∀ y∈d.certs,y.digest≠c.digest)∧lackI d c=[]:=by
 unfold putE at h
 split at h
 ·cases h
 ·rename_i h1
  split at h
  ·split at h<;>cases h
  ·rename_i h2
   split at h
   ·cases h
   ·rename_i h3
    split at h
    ·rename_i h4
     exact ⟨by omega,h2,any_no (by simpa using h3),h4⟩
    ·cases h
theorem atC_no {l:List Cert} {r a:Int} (h:atC l r a=none):∀ y∈l,¬(y.round=r∧y.author=a):=by
 intro y hy e
 unfold atC at h
 rw [List.find?_eq_none] at h
 exact h y hy (by simpa using e)
theorem before_total {y:Cert} {r a:Int} (h:¬(y.round=r∧y.author=a)):y.before r a=false→(r<y.round∨r=y.round∧a<y.author):=by
 intro h1
 have:¬(y.round<r∨y.round=r∧y.author<a):=fun h2=>by rw [before_iff.2 h2] at h1;cases h1
 omega
theorem take_before {l:List Cert} (hs:sortedC l) {r a:Int}:∀ y∈l.take (pos l r a),y.before r a=true:=by
 intro y hy
 obtain ⟨m,hm⟩:=List.getElem?_of_mem hy
 rw [List.getElem?_take] at hm
 split at hm
 ·rename_i h;exact (pos_iff hs hm).2 h
 ·cases hm
theorem drop_after {l:List Cert} (hs:sortedC l) {r a:Int}:∀ y∈l.drop (pos l r a),y.before r a=false:=by
 intro y hy
 obtain ⟨m,hm⟩:=List.getElem?_of_mem hy
 rw [List.getElem?_drop] at hm
 cases hb:y.before r a with
 | false=>rfl
 | true=>have:=(pos_iff hs hm).1 hb;omega
theorem mem_insC {d:Dag} {c y:Cert}:y∈(insC d c).certs↔y=c∨y∈d.certs:=by
 have e:=List.take_append_drop (pos d.certs c.round c.author) d.certs
 constructor
 ·intro h
  rcases List.mem_append.1 h with h|h
  ·exact .inr (List.mem_of_mem_take h)
  ·rcases List.mem_cons.1 h with h|h
   ·exact .inl h
   ·exact .inr (List.mem_of_mem_drop h)
 ·rintro (h|h)
  ·subst h;exact List.mem_append_right _ (List.mem_cons_self ..)
  ·rw [← e] at h
   rcases List.mem_append.1 h with h|h
   ·exact List.mem_append_left _ h
   ·exact List.mem_append_right _ (List.mem_cons_of_mem _ h)
theorem insC_len (d:Dag) (c:Cert):(insC d c).certs.length=d.certs.length+1:=by
 have:=pos_le d.certs c.round c.author
 simp [insC];omega
theorem insC_perm (d:Dag) (c:Cert):(insC d c).certs.Perm (c :: d.certs):=by
 have e:=List.take_append_drop (pos d.certs c.round c.author) d.certs
 exact List.perm_middle.trans (by rw [e])
theorem insC_sorted {d:Dag} (hs:sortedC d.certs) {c:Cert} (hat:atC d.certs c.round c.author=none):sortedC (insC d c).certs:=by
 have e:=List.take_append_drop (pos d.certs c.round c.author) d.certs
 have hs':=hs
 rw [← e] at hs'
 obtain ⟨h1,h2,h3⟩:=List.pairwise_append.1 hs'
 refine List.pairwise_append.2 ⟨h1,List.pairwise_cons.2 ⟨fun y hy => ?_,h2⟩,fun x hx y hy => ?_⟩
 ·have:=before_total (atC_no hat y (List.mem_of_mem_drop hy)) (drop_after hs y hy)
  exact before_iff.2 (by omega)
 ·rcases List.mem_cons.1 hy with rfl|hy
  ·exact take_before hs x hx
  ·exact h3 x hx y hy
theorem insC_valid {d:Dag} (h:Valid d) {c:Cert} (hc:okCert d.nodes c) (hp:putE d c=0) (hl:d.certs.length<65536):Valid (insC d c):=by
 obtain ⟨h1,h2,h3,h4⟩:=putE_ok hp
 have hlen:=insC_len d c
 refine ⟨h.nodes,h.low,by omega,fun y hy => ?_,fun y hy => ?_,insC_sorted h.sorted h2,?_,fun y hy hr x hx => ?_⟩
 ·rcases mem_insC.1 hy with rfl|hy
  ·exact hc
  ·exact h.certs y hy
 ·rcases mem_insC.1 hy with rfl|hy
  ·exact h1
  ·exact h.above y hy
 ·have hp:=(insC_perm d c).map (·.digest)
  rw [hp.nodup_iff,List.map_cons,List.nodup_cons]
  refine ⟨fun hm => ?_,h.dig⟩
  obtain ⟨y,hy,e⟩:=List.mem_map.1 hm
  exact h3 y hy e
 ·have hup:∀ z∈d.certs,z∈(insC d c).certs:=fun z hz=>mem_insC.2 (.inr hz)
  rcases mem_insC.1 hy with rfl|hy
  ·have hr':¬y.round≤d.low+1:=by have:y.round>d.low+1:=hr;omega
   rw [lackI,if_neg hr',List.filter_eq_nil_iff] at h4
   have:=h4 x hx
   simp only [Bool.not_eq_true',Bool.not_eq_false,List.any_eq_true,beq_iff_eq] at this
   obtain ⟨z,hz,e⟩:=this
   obtain ⟨hz1,hz2⟩:=List.mem_filter.1 hz
   exact ⟨z,hup z hz1,e,of_decide_eq_true hz2⟩
  ·obtain ⟨z,hz,e⟩:=h.here y hy hr x hx
   exact ⟨z,hup z hz,e⟩
def mayS (d:Dag) (j:Nat):AF×List AB :=
 ([(1,.ptr 0 0),(3,.map 1),(30,.d (.sl 6 (certsD d.certs))),(31,.d (.int .i64 d.certs.length)),(32,.d (.int .i64 j))],[.cells d.cells,.map (mapP (seenP (d.certs.take j)))])
def mayI (d:Dag) (j:Nat) (c:Cert) (m:Nat):AF×List AB :=
 ([(1,.ptr 0 0),(3,.map 1),(5,.ptr 2 0),(30,.d (.sl 6 (certsD d.certs))),(31,.d (.int .i64 d.certs.length)),(32,.d (.int .i64 j)),(76,.d (.sl 1 (nums c.pars))),(77,.d (.int .i64 c.pars.length)),(78,.d (.int .i64 m))],[.cells d.cells,.map (mapP (seenP (d.certs.take j))),.cells c.cells])
set_option maxHeartbeats 2000000 in
theorem dagMay_ok (d:Dag) (h:Valid d):ACalls Tryz.prog 75 [d.av] [] (fun av L=>av = .d (.bool true)∧L=[]):=by
 have hcl:=certsD_length d.certs
 have hn:=of_decide_eq_true h.nodes
 have hlow:=h.low
 have hlen:=h.len
 have hwell:=h.well
 (refine acalls_go ttOk zOk foOk Tryz.func75 rfl Tryz.ntmps75 rfl false rfl ?_);(conv=>whnf)
 refine (is_ok d.nodes).mono ?_
 rintro _ _ ⟨rfl,rfl⟩
 rw [h.nodes]
 conv=>whnf
 refine rdw ?_;repeat' ((with_reducible apply tw)<;>intro _)
 ·rename_i h1;omega
 ·rename_i h1 h2;omega
 ·rename_i h1 h2 h3;omega
 ·skip
  refine loop_go ttOk zOk foOk (σ:=Nat) (mayS d) (fun j=>j≤d.certs.length) (fun j=>d.certs.length - j) [1,3,30,31,32] ?_ ?_
  ·conv=>whnf
   exact ⟨0,by rw [hcl];rfl,rfl,Nat.zero_le _⟩
  ·intro j hj
   conv=>whnf
   refine rdw ?_;repeat' ((with_reducible apply tw)<;>intro _)
   ·rename_i hjl
    have hjn:j<d.certs.length:=Int.ofNat_lt.1 hjl
    refine Exists.elim (⟨_,List.getElem?_eq_getElem hjn⟩:∃ c,d.certs[j]? = some c) fun c hc => ?_
    have hcm:=List.mem_of_getElem? hc
    have hok:=h.certs c hcm
    have hfl:=h.fewL hcm
    have hab:=h.above c hcm
    have hft:=hwell.fit.fit c hcm
    have hrb:=hok.head.round
    have hpl:=nums_length c.pars
    refine ⟨by omega,c.cs,certsD_at hc,?_⟩
    conv=>whnf
    refine rdw ?_;repeat' ((with_reducible apply tw)<;>intro _)
    ((with_reducible refine draw_pl ttOk zOk foOk mixedOk pl75x7 ?_ ?_);(focus kernel_rfl);(conv=>whnf))
    refine rdw ?_;repeat' ((with_reducible apply tw)<;>intro _)
    refine (mayCert_ok c hfl d.nodes).mono ?_
    rintro _ _ ⟨rfl,rfl⟩
    rw [@decide_eq_true _ (Classical.propDecidable _) hok]
    conv=>whnf
    refine rdw ?_;repeat' ((with_reducible apply tw)<;>intro _)
    ·rename_i h1;exact absurd hab (by omega)
    ·rename_i h1
     obtain ⟨q,hq,hq2⟩:=mapP_find c.digest (seenP (d.certs.take j)) 0
     have hqn:q=none:=by
      rcases hq2 with ⟨v,i,hv,_⟩|⟨_,hv⟩
      ·rw [h.fresh hc] at hv;cases hv
      ·exact hv
     subst hqn
     ((with_reducible apply rd_intro);(focus (intro K hK;(conv=>whnf);exact ⟨none,hq,hK⟩));(conv=>whnf))
     refine rdw ?_;repeat' ((with_reducible apply tw)<;>intro _)
     ·rename_i hj0
      refine Exists.elim (⟨_,List.getElem?_eq_getElem (show j - 1<d.certs.length by omega)⟩:∃ c,d.certs[j - 1]? = some c) fun c0 hc0 => ?_
      have hft0:=hwell.fit.fit c0 (List.mem_of_getElem? hc0)
      have hbef:c0.before c.round c.author=true:=by
       have:=List.pairwise_iff_getElem.1 h.sorted (j - 1) j (by omega) hjn (by omega)
       rw [List.getElem?_eq_getElem hjn] at hc
       rw [List.getElem?_eq_getElem (by omega)] at hc0
       rw [← Option.some.inj hc,← Option.some.inj hc0]
       exact this
      have hls:decide (c0.round<c.round∨c0.round=c.round∧c0.author<c.author)=true:=hbef
      ((with_reducible apply rd_intro);(focus (intro K hK;(conv=>whnf);exact ⟨by omega,c0.cs,(by rw [show ((j:Int) - 1).toNat=j - 1 by omega];exact certsD_at hc0),hK⟩));(conv=>whnf))
      refine rdw ?_;repeat' ((with_reducible apply tw)<;>intro _)
      refine (dagPlace_ok c0).mono ?_
      rintro _ _ ⟨rfl,rfl⟩
      conv=>whnf
      refine rdw ?_;repeat' ((with_reducible apply tw)<;>intro _)
      refine (dagPlace_ok c).mono ?_
      rintro _ _ ⟨rfl,rfl⟩
      conv=>whnf
      refine rdw ?_;repeat' ((with_reducible apply tw)<;>intro _)
      refine (placeLess_ok hft0.1 hft0.2 hft.1 hft.2).mono ?_
      rintro _ _ ⟨rfl,rfl⟩
      rw [hls]
      conv=>whnf
      refine rdw ?_;repeat' ((with_reducible apply tw)<;>intro _)
      refine loop_go ttOk zOk foOk (σ:=Nat) (mayI d j c) (fun m=>m≤c.pars.length) (fun m=>c.pars.length - m) [1,3,5,30,31,32,76,77,78] ?_ ?_
      ·conv=>whnf
       exact ⟨0,by rw [hpl];rfl,rfl,Nat.zero_le _⟩
      ·intro m hm
       conv=>whnf
       refine rdw ?_;repeat' ((with_reducible apply tw)<;>intro _)
       ·rename_i hml
        have hmn:m<c.pars.length:=Int.ofNat_lt.1 hml
        have hpf:=hfl.pars
        unfold few at hpf
        refine Exists.elim (⟨_,List.getElem?_eq_getElem hmn⟩:∃ x,c.pars[m]? = some x) fun x hx => ?_
        refine ⟨by omega,[.int .i64 x],nums_at hx,?_⟩
        conv=>whnf
        refine rdw ?_;repeat' ((with_reducible apply tw)<;>intro _)
        ·rename_i hrl
         have hpa:=h.parent hc (by omega) (List.mem_of_getElem? hx)
         refine Exists.elim (mapP_find x (seenP (d.certs.take j)) 0) fun q hq => ?_
         have hqs:∃ i,q=some (i,.v (.one (.int .i64 (c.round - 1)))):=by
          rcases hq.2 with ⟨v,i,hv,e⟩|⟨hv,_⟩
          ·rw [hpa] at hv;cases hv;exact ⟨i,e⟩
          ·rw [hpa] at hv;cases hv
         refine Exists.elim hqs fun i hqe => ?_
         have hq1:=hq.1
         rw [hqe] at hq1
         refine ⟨_,hq1,?_⟩
         conv=>whnf
         refine rdw ?_;repeat' ((with_reducible apply tw)<;>intro _)
         ·rename_i hne
          exfalso
          revert hne
          simp
         ·exact ⟨m+1,rfl,rfl,by omega,by omega⟩
        ·exact ⟨m+1,rfl,rfl,by omega,by omega⟩
       ·rename_i hml
        refine Exists.elim (mapP_new (v:=c.round) (h.fresh hc)) fun q hq => ?_
        refine ⟨q,hq.1,?_⟩
        have hnew:mputAt (mapP (seenP (d.certs.take j))) q (.one (.int .i64 c.digest)) (.v (.one (.int .i64 c.round)))=mapP (seenP (d.certs.take (j+1))):=by
         rw [hq.2,List.take_add_one,hc];simp [seenP]
        rw [hnew]
        conv=>whnf
        refine rdw ?_;repeat' ((with_reducible apply tw)<;>intro _)
        exact ⟨j+1,rfl,rfl,by omega,by omega⟩
     ·rename_i hj0
      refine loop_go ttOk zOk foOk (σ:=Nat) (mayI d j c) (fun m=>m≤c.pars.length) (fun m=>c.pars.length - m) [1,3,5,30,31,32,76,77,78] ?_ ?_
      ·conv=>whnf
       exact ⟨0,by rw [hpl];rfl,rfl,Nat.zero_le _⟩
      ·intro m hm
       conv=>whnf
       refine rdw ?_;repeat' ((with_reducible apply tw)<;>intro _)
       ·rename_i hml
        have hmn:m<c.pars.length:=Int.ofNat_lt.1 hml
        have hpf:=hfl.pars
        unfold few at hpf
        refine Exists.elim (⟨_,List.getElem?_eq_getElem hmn⟩:∃ x,c.pars[m]? = some x) fun x hx => ?_
        refine ⟨by omega,[.int .i64 x],nums_at hx,?_⟩
        conv=>whnf
        refine rdw ?_;repeat' ((with_reducible apply tw)<;>intro _)
        ·rename_i hrl
         have hpa:=h.parent hc (by omega) (List.mem_of_getElem? hx)
         refine Exists.elim (mapP_find x (seenP (d.certs.take j)) 0) fun q hq => ?_
         have hqs:∃ i,q=some (i,.v (.one (.int .i64 (c.round - 1)))):=by
          rcases hq.2 with ⟨v,i,hv,e⟩|⟨hv,_⟩
          ·rw [hpa] at hv;cases hv;exact ⟨i,e⟩
          ·rw [hpa] at hv;cases hv
         refine Exists.elim hqs fun i hqe => ?_
         have hq1:=hq.1
         rw [hqe] at hq1
         refine ⟨_,hq1,?_⟩
         conv=>whnf
         refine rdw ?_;repeat' ((with_reducible apply tw)<;>intro _)
         ·rename_i hne
          exfalso
          revert hne
          simp
         ·exact ⟨m+1,rfl,rfl,by omega,by omega⟩
        ·exact ⟨m+1,rfl,rfl,by omega,by omega⟩
       ·rename_i hml
        refine Exists.elim (mapP_new (v:=c.round) (h.fresh hc)) fun q hq => ?_
        refine ⟨q,hq.1,?_⟩
        have hnew:mputAt (mapP (seenP (d.certs.take j))) q (.one (.int .i64 c.digest)) (.v (.one (.int .i64 c.round)))=mapP (seenP (d.certs.take (j+1))):=by
         rw [hq.2,List.take_add_one,hc];simp [seenP]
        rw [hnew]
        conv=>whnf
        refine rdw ?_;repeat' ((with_reducible apply tw)<;>intro _)
        exact ⟨j+1,rfl,rfl,by omega,by omega⟩
   ·exact ⟨rfl,rfl⟩
end Go.Proofs.YtolkmjfkkkiboaaGreat
