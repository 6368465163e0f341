/- PrimaryStrange: contracts. -/
import Derived.Test.YtolkmjfkkkiboaaGreatPrimaryStrangeCodE
set_option linter.unusedVariables false
set_option linter.unusedSimpArgs false
namespace Go.Proofs.YtolkmjfkkkiboaaGreat
open Go.Ab Go.RowKit Go.MapKept
attribute [local irreducible] ACalls AW ADraw Into fltB fnear
set_option maxRecDepth 100000
def stepD (s:Dag×List Cert) (c:Cert):Dag×List Cert:=(putD s.1 c,if putE s.1 c=7 then s.2++[c] else s.2)
def passD (d:Dag) (l:List Cert):Dag×List Cert:=l.foldl stepD (d,[])
theorem passD_snoc {d:Dag} {l:List Cert} {j:Nat} {c:Cert} (hc:l[j]? = some c):passD d (l.take (j+1))=stepD (passD d (l.take j)) c:=by
 rw [List.take_add_one,hc]
 simp [passD,List.foldl_append]
theorem pass_len (d:Dag) (l:List Cert):∀ j,(passD d (l.take j)).2.length≤j
 | 0=>by simp [passD]
 | j+1=>by
   have ih:=pass_len d l j
   cases hc:l[j]? with
   | none =>
     have hl:l.length≤j:=by simpa using hc
     rw [List.take_of_length_le (by omega)] at ih ⊢
     omega
   | some c =>
     rw [passD_snoc hc]
     unfold stepD
     simp only
     split
     ·simp;omega
     ·omega
def againF:Nat→Dag→List Cert→Dag×List Cert
 | 0,d,l=>(d,l)
 | n+1,d,l=>if (passD d l).2.length<l.length then againF n (passD d l).1 (passD d l).2 else ((passD d l).1,l)
theorem againF_fuel:∀ (m n:Nat) (d:Dag) (l:List Cert),l.length<m→l.length<n→againF m d l=againF n d l
 | 0,n,d,l,h1,h2=>by omega
 | m+1,0,d,l,h1,h2=>by omega
 | m+1,n+1,d,l,h1,h2=>by
   unfold againF
   split
   ·exact againF_fuel m n _ _ (by omega) (by omega)
   ·rfl
def againD (d:Dag) (l:List Cert):Dag×List Cert:=againF (l.length+1) d l
structure Fine (d:Dag) (l:List Cert):Prop where
 valid:Valid d
 room:d.certs.length+l.length≤60000
 late:∀ c∈l,okCert d.nodes c∧c.tiny
theorem Valid.fit {d:Dag} (h:Valid d):d.fit:=h.well.fit
theorem putD_nodes (d:Dag) (c:Cert):(putD d c).nodes=d.nodes:=by unfold putD;split<;>rfl
theorem putD_low (d:Dag) (c:Cert):(putD d c).low=d.low:=by unfold putD;split<;>rfl
theorem putD_valid {d:Dag} (h:Valid d) {c:Cert} (hc:okCert d.nodes c) (hl:d.certs.length<65536):Valid (putD d c):=by
 unfold putD
 split
 ·rename_i hp;exact insC_valid h hc hp hl
 ·exact h
theorem putD_len (d:Dag) (c:Cert):(putD d c).certs.length≤d.certs.length+1:=by
 unfold putD
 split
 ·rw [insC_len];omega
 ·omega
theorem pass_fine {d:Dag} {l:List Cert} (h:Fine d l):∀ j,j≤l.length→Valid (passD d (l.take j)).1∧(passD d (l.take j)).1.nodes=d.nodes∧(passD d (l.take j)).1.low=d.low∧(passD d (l.take j)).1.certs.length+(passD d (l.take j)).2.length≤d.certs.length+j∧(∀ c∈(passD d (l.take j)).2,c∈l)
 | 0,_=>⟨h.valid,rfl,rfl,Nat.le_refl _,by simp [passD]⟩
 | j+1,hj=>by
   obtain ⟨h1,h2,h3,h4,h5⟩:=pass_fine h j (by omega)
   have hr:=h.room
   obtain ⟨c,hc⟩:∃ c,l[j]? = some c:=⟨_,List.getElem?_eq_getElem (by omega)⟩
   have hcl:=List.mem_of_getElem? hc
   rw [passD_snoc hc]
   generalize passD d (l.take j)=s at h1 h2 h3 h4 h5 ⊢
   unfold stepD
   refine ⟨putD_valid h1 (by rw [h2];exact (h.late c hcl).1) (by omega),by rw [putD_nodes,h2],by rw [putD_low,h3],?_,?_⟩
   ·simp only
    split
    ·rename_i hp
     have:putD s.1 c=s.1:=by unfold putD;rw [if_neg (by omega)]
     rw [this];simp;omega
    ·have:=putD_len s.1 c
     omega
   ·simp only
    split
    ·intro x hx
     rcases List.mem_append.1 hx with hx|hx
     ·exact h5 x hx
     ·rw [List.mem_singleton.1 hx];exact hcl
    ·exact h5
def Prim.withDL (p:Prim) (s:Dag×List Cert):Prim:={ p with dag:=s.1,late:=s.2 }
def agSt (p:Prim) (out:List Msg) (d:Dag) (l:List Cert) (j:Nat):AF×List AB:=([(0,.ptr 0 0),(11,.d (.sl 6 (certsD l))),(12,.d (.int .i64 l.length)),(13,.d (.int .i64 j)),(2,.arr 2)],(p.withDL ((passD d (l.take j)).1,l)).st out++[.row 47 6 (certsD (passD d (l.take j)).2) false])
set_option maxHeartbeats 4000000 in
theorem again_ok (p:Prim) (out:List Msg) (hf:Fine p.dag p.late):ACalls Tryz.prog 106 [.ptr 0 0] (p.st out) (fun av L=>av = .tup []∧L=(p.withDL (againD p.dag p.late)).st out):=by
 (refine acalls_go ttOk zOk foOk Tryz.func106 rfl Tryz.ntmps106 rfl false rfl ?_);(conv=>whnf)
 refine scope_go ttOk zOk foOk (σ:=Dag×List Cert) (fun s=>([(0,.ptr 0 0)],(p.withDL s).st out)) (fun k s=>k=0∧Fine s.1 s.2∧againD s.1 s.2=againD p.dag p.late) (fun _ s=>s.2.length) ?_ ?_
 ·rintro k rest hk ⟨d,l⟩ ⟨rfl,hfd,hag⟩
  have e:=Option.some.inj (show some _=some rest from hk)
  subst e
  clear hk
  replace hfd:Fine d l:=hfd
  replace hag:againD d l=againD p.dag p.late:=hag
  have hcl:=certsD_length l
  conv=>whnf
  refine rdw ?_;repeat' ((with_reducible apply tw)<;>intro _)
  have hr:=hfd.room
  refine loop_go ttOk zOk foOk (σ:=Nat) (agSt p out d l) (fun j=>j≤l.length) (fun j=>l.length - j) [0,11,12,13,2] ?_ ?_
  ·conv=>whnf
   exact ⟨0,by rw [show (certsD (p.withDL (d,l)).late).length=l.length from hcl];rfl,rfl,Nat.zero_le _⟩
  ·intro j hj
   obtain ⟨k1,k2,k3,k4,k5⟩:=pass_fine hfd j hj
   have hpl:=pass_len d l j
   have hl2:=certsD_length (passD d (l.take j)).2
   conv=>whnf
   refine rdw ?_;repeat' ((with_reducible apply tw)<;>intro _)
   ·rename_i hjl
    refine Exists.elim (⟨_,List.getElem?_eq_getElem (by omega)⟩:∃ c,l[j]? = some c) fun c hc => ?_
    obtain ⟨hok,hct⟩:=hfd.late c (List.mem_of_getElem? hc)
    have hsn:=passD_snoc (d:=d) hc
    have hrd:=hok.head.round
    have hau:=hok.head.author
    have hnn:=of_decide_eq_true hfd.valid.nodes
    have hput:=put_dag (passD d (l.take j)).1 k1.fit (by omega) k1.low c hct ⟨by omega,by omega⟩ hrd.1 ⟨by omega,by omega⟩
    refine ⟨by omega,c.cs,certsD_at hc,?_⟩
    conv=>whnf
    refine rdw ?_;repeat' ((with_reducible apply tw)<;>intro _)
    ((with_reducible refine draw_pl ttOk zOk foOk mixedOk pl106x5 ?_ ?_);(focus kernel_rfl);(conv=>whnf))
    refine rdw ?_;repeat' ((with_reducible apply tw)<;>intro _)
    ((with_reducible apply rd_intro);(focus (intro K hK;(conv=>whnf);refine (hput).mono ?_;rintro _ _ ⟨rfl,rfl⟩;(conv=>whnf);exact hK));(conv=>whnf))
    repeat' (first|(first|((with_reducible first|apply rd_intro|apply gd_and);(focus ((conv=>whnf)<;>first|rfl|(intro K hK;(conv=>whnf);first|exact hK|exact z_wrap (by omega) hK)));conv=>whnf)|((with_reducible apply z_wrap);(focus omega);conv=>whnf)|((with_reducible first|apply mt_dec|apply mt_eq|apply mt_ne|apply mt_not|apply mt_any)<;>(intro _;conv=>whnf)))|((with_reducible apply gd_and);(focus ((conv=>whnf);intro K hK;(conv=>whnf);refine (hput).mono ?_;rintro _ _ ⟨rfl,rfl⟩;(conv=>whnf);exact hK));(conv=>whnf)))
    ·rename_i h7
     refine ⟨by simp;omega,?_⟩
     conv=>whnf
     refine rdw ?_;repeat' ((with_reducible apply tw)<;>intro _)
     refine ⟨j+1,rfl,?_,by omega,by omega⟩
     simp only [agSt]
     rw [hsn,stepD]
     simp only
     rw [if_pos h7,show certsD ((passD d (l.take j)).2++[c])=certsD (passD d (l.take j)).2++[c.cs] by simp [certsD]]
     rfl
    ·rename_i h7
     refine ⟨j+1,rfl,?_,by omega,by omega⟩
     simp only [agSt]
     rw [hsn,stepD]
     simp only
     rw [if_neg h7]
     rfl
   ·rename_i hjl hlt
    have hjl2:j=l.length:=by omega
    subst hjl2
    rw [List.take_length] at k1 k2 k3 k4 k5 hpl hl2
    replace hlt:((certsD (passD d (l.take l.length)).2).length:Int)<((certsD l).length:Int):=hlt
    rw [List.take_length,hl2,hcl] at hlt
    have hlt2:(passD d l).2.length<l.length:=by omega
    refine into_seal [(0,15)] rfl ?_
    refine into_of [0] ?_
    conv=>whnf
    refine ⟨((passD d l).1,(passD d l).2),rfl,by rw [List.take_length];rfl,⟨rfl,⟨k1,by show (passD d l).1.certs.length+(passD d l).2.length≤_;omega,fun c hc=>by rw [k2];exact hfd.late c (k5 c hc)⟩,?_⟩,hlt2⟩
    show againD (passD d l).1 (passD d l).2=_
    have e1:againD d l=againF l.length (passD d l).1 (passD d l).2:=by
     rw [againD,againF,if_pos hlt2]
    rw [← hag,e1,againD]
    exact againF_fuel _ _ _ _ (by omega) (by omega)
   ·rename_i hjl hlt
    have hjl2:j=l.length:=by omega
    subst hjl2
    rw [List.take_length] at k1 k2 k3 k4 k5 hpl hl2
    replace hlt:¬((certsD (passD d (l.take l.length)).2).length:Int)<((certsD l).length:Int):=hlt
    rw [List.take_length,hl2,hcl] at hlt
    have:againD p.dag p.late=((passD d l).1,l):=by
     rw [← hag,againD,againF,if_neg (by omega)]
    rw [this,List.take_length]
    exact ⟨rfl,rfl⟩
 ·intro pass
  conv=>whnf
  refine aw_at (σ:=Unit) (fun _=>([(0,.ptr 0 0)],(p.withDL (p.dag,p.late)).st out)) (fun _=>True) [0] ?_ ?_
  ·conv=>whnf
   exact ⟨(),rfl,rfl,trivial⟩
  ·intro _ _
   exact pass 0 _ rfl (p.dag,p.late) ⟨rfl,hf,rfl⟩
def lateP (l:List Cert) (c:Cert):List Cert:=if isLate l c.digest=false∧l.length<256 then l.take (lateI l c.digest)++c :: l.drop (lateI l c.digest) else l
theorem lateP_len (l:List Cert) (c:Cert):(lateP l c).length≤l.length+1:=by
 unfold lateP
 split
 ·simp;omega
 ·omega
theorem mem_lateP {l:List Cert} {c x:Cert} (h:x∈lateP l c):x=c∨x∈l:=by
 unfold lateP at h
 split at h
 ·rcases List.mem_append.1 h with h|h
  ·exact .inr (List.mem_of_mem_take h)
  ·rcases List.mem_cons.1 h with h|h
   ·exact .inl h
   ·exact .inr (List.mem_of_mem_drop h)
 ·exact .inr h
theorem lateP_rising {l:List Cert} (hs:risingC l) (c:Cert):risingC (lateP l c):=by
 unfold lateP
 split
 ·rename_i h
  have hne:∀ x∈l,x.digest≠c.digest:=by
   intro x hx e
   have:=h.1
   rw [isLate,List.any_eq_false] at this
   exact this x hx (by simp [e])
  have hsp:=hs
  rw [risingC,← List.take_append_drop (lateI l c.digest) l,List.pairwise_append] at hsp
  rw [risingC,List.pairwise_append]
  refine ⟨hsp.1,List.pairwise_cons.2 ⟨fun y hy => ?_,hsp.2.1⟩,fun x hx y hy => ?_⟩
  ·obtain ⟨j,hj⟩:=List.getElem?_of_mem hy
   rw [List.getElem?_drop] at hj
   have h1:=(lateI_iff (d:=c.digest) hs hj)
   have h2:=hne y (List.mem_of_mem_drop hy)
   have:¬y.digest<c.digest:=fun h=>by have:=h1.1 h;omega
   omega
  ·have hxc:x.digest<c.digest:=by
    obtain ⟨j,hj⟩:=List.getElem?_of_mem hx
    rw [List.getElem?_take] at hj
    split at hj
    ·rename_i hlt
     exact (lateI_iff (d:=c.digest) hs hj).2 hlt
    ·cases hj
   rcases List.mem_cons.1 hy with rfl|hy
   ·exact hxc
   ·exact hsp.2.2 x hx y hy
 ·exact hs
def inP (p:Prim) (c:Cert):Prim:=if putE p.dag c=0 then p.withDL (againD (putD p.dag c) p.late) else if putE p.dag c=7 then { p with late:=lateP p.late c } else p
def inO (p:Prim) (c:Cert) (src:Int):List Msg:=if putE p.dag c=7∧0<src then wantO p src 8 (freshI (lateP p.late c) (lackI p.dag c)) else []
set_option maxHeartbeats 4000000 in
theorem stepIn_ok (p:Prim) (out:List Msg) (ho:out.length≤1000000) (c:Cert) (hok:okCert p.dag.nodes c) (hct:c.tiny) (hf:Fine p.dag p.late) (hroom:p.dag.certs.length+p.late.length<60000) (hs:risingC p.late) (src:Int) :
  ACalls Tryz.prog 168 [.ptr 0 0,c.av,.d (.int .i64 src)] (p.st out) (fun av L=>av = .tup []∧∃ j,L=(inP p c).sj j (out++inO p c src)):=by
 have hrd:=hok.head.round
 have hau:=hok.head.author
 have hnn:=of_decide_eq_true hf.valid.nodes
 have hr:=hf.room
 have hput:=put_dag p.dag hf.valid.fit (by omega) hf.valid.low c hct ⟨by omega,by omega⟩ hrd.1 ⟨by omega,by omega⟩
 have hcl:=certsD_length p.late
 have hfew:few p.late:=by unfold few;omega
 have hpl:=hok.head.pars.1
 have hlk:(lackI p.dag c).length≤1000000:=by
  unfold lackI
  split
  ·exact Nat.zero_le _
  ·exact Nat.le_trans (List.length_filter_le ..) (by omega)
 have hlack:=lack_ok p.dag hf.valid.fit c hct.pars ⟨by omega,by omega⟩ hrd.1 hf.valid.low
 refine acalls_seals2 ?_
 (refine acalls_go ttOk zOk foOk Tryz.func168 rfl Tryz.ntmps168 rfl true rfl ?_);(conv=>whnf)
 refine rdw ?_;repeat' ((with_reducible apply tw)<;>intro _)
 ((with_reducible refine draw_pl ttOk zOk foOk mixedOk pl168x1 ?_ ?_);(focus kernel_rfl);(conv=>whnf))
 repeat' (first|(first|((with_reducible first|apply rd_intro|apply gd_and);(focus ((conv=>whnf)<;>first|rfl|(intro K hK;(conv=>whnf);first|exact hK|exact z_wrap (by omega) hK)));conv=>whnf)|((with_reducible apply z_wrap);(focus omega);conv=>whnf)|((with_reducible first|apply mt_dec|apply mt_eq|apply mt_ne|apply mt_not|apply mt_any)<;>(intro _;conv=>whnf)))|((with_reducible apply rd_intro);(focus (intro K hK;(conv=>whnf);refine (hput).mono ?_;rintro _ _ ⟨rfl,rfl⟩;(conv=>whnf);exact hK));(conv=>whnf))|((with_reducible apply gd_and);(focus ((conv=>whnf);intro K hK;(conv=>whnf);refine (hput).mono ?_;rintro _ _ ⟨rfl,rfl⟩;(conv=>whnf);exact hK));(conv=>whnf)))
 ·rename_i h0
  have hfp:Fine (putD p.dag c) p.late:=⟨putD_valid hf.valid hok (by omega),by have:=putD_len p.dag c;omega,fun x hx=>by rw [putD_nodes];exact hf.late x hx⟩
  have hag:=again_ok (p.withDL (putD p.dag c,p.late)) out hfp
  refine hag.mono ?_
  rintro _ _ ⟨rfl,rfl⟩
  conv=>whnf
  refine rdw ?_;repeat' ((with_reducible apply tw)<;>intro _)
  refine ⟨2,[],_,_,_,Nat.le_refl _,rfl,rfl,rfl,rfl,false,?_⟩
  rw [inP,if_pos h0,inO,if_neg (fun h=>by have:=h.1;omega),List.append_nil]
  rfl
 ·rename_i h0 h7
  refine (lateAt_ok p false out (by unfold few;omega) hs c.digest).mono ?_
  rintro _ _ ⟨rfl,rfl⟩
  conv=>whnf
  refine rdw ?_;repeat' ((with_reducible apply tw)<;>intro _)
  ·rename_i hb hlt
   have hi:=lateI_le p.late c.digest
   have hlp:lateP p.late c=p.late.take (lateI p.late c.digest)++c :: p.late.drop (lateI p.late c.digest):=by
    rw [lateP,if_pos ⟨by revert hb;cases isLate p.late c.digest<;>simp,by have h2:=hlt;rw [hcl] at h2;omega⟩]
   ((with_reducible refine draw_pl ttOk zOk foOk mixedOk pl168x9 ?_ ?_);(focus kernel_rfl);(conv=>whnf))
   refine rdw ?_;repeat' ((with_reducible apply tw)<;>intro _)
   refine (cloneC_ok p.late (by omega)).mono ?_
   rintro _ _ ⟨rfl,rfl⟩
   conv=>whnf
   refine rdw ?_;repeat' ((with_reducible apply tw)<;>intro _)
   refine (ownCert_ok c hct).mono ?_
   rintro _ _ ⟨rfl,rfl⟩
   conv=>whnf
   refine rdw ?_;repeat' ((with_reducible apply tw)<;>intro _)
   (refine Or.inr ?_;(conv=>whnf))
   refine (insertC_ok p.late c (lateI p.late c.digest) hi (by omega)).mono ?_
   rintro _ _ ⟨rfl,rfl⟩
   rw [← hlp]
   have hris2:risingC (lateP p.late c):=lateP_rising hs c
   have hfew2:few (lateP p.late c):=by unfold few;have:=lateP_len p.late c;omega
   conv=>whnf
   refine rdw ?_;repeat' ((with_reducible apply tw)<;>intro _)
   ·rename_i hsrc
    refine adraw_sealC [(0,15)] rfl ?_
    ((with_reducible refine draw_pl ttOk zOk foOk mixedOk pl168x11 ?_ ?_);(focus kernel_rfl);(conv=>whnf))
    refine rdw ?_;repeat' ((with_reducible apply tw)<;>intro _)
    refine hlack.mono ?_
    rintro _ _ ⟨rfl,rfl⟩
    conv=>whnf
    refine rdw ?_;repeat' ((with_reducible apply tw)<;>intro _)
    refine (fresh_ok { p with late:=lateP p.late c } out hfew2 hris2 (lackI p.dag c) hlk).mono ?_
    rintro _ _ ⟨rfl,rfl⟩
    conv=>whnf
    refine rdw ?_;repeat' ((with_reducible apply tw)<;>intro _)
    refine (want_ok { p with late:=lateP p.late c } out (by omega) src 8 (freshI (lateP p.late c) (lackI p.dag c)) (by unfold freshI;exact Nat.le_trans (List.length_filter_le ..) hlk)).mono ?_
    rintro _ _ ⟨rfl,j,rfl⟩
    cases j
    ·conv=>whnf
     refine rdw ?_;repeat' ((with_reducible apply tw)<;>intro _)
     refine ⟨2,[],_,_,_,Nat.le_refl _,rfl,rfl,rfl,rfl,false,?_⟩
     rw [inP,if_neg h0,if_pos h7,inO,if_pos ⟨h7,hsrc⟩]
     rfl
    ·conv=>whnf
     refine rdw ?_;repeat' ((with_reducible apply tw)<;>intro _)
     refine ⟨3,[],_,_,_,by show 2≤3;omega,rfl,rfl,rfl,rfl,true,?_⟩
     rw [inP,if_neg h0,if_pos h7,inO,if_pos ⟨h7,hsrc⟩]
     rfl
   ·rename_i hsrc
    refine ⟨2,[(0,15)],_,_,_,Nat.le_refl _,rfl,rfl,rfl,rfl,false,?_⟩
    rw [inP,if_neg h0,if_pos h7,inO,if_neg (fun h=>hsrc h.2),List.append_nil]
    rfl
  ·rename_i hb hlt hsrc
   have hlp:lateP p.late c=p.late:=by rw [lateP,if_neg (fun h=>hlt (by have:=h.2;rw [hcl];omega))]
   ((with_reducible refine draw_pl ttOk zOk foOk mixedOk pl168x11 ?_ ?_);(focus kernel_rfl);(conv=>whnf))
   refine rdw ?_;repeat' ((with_reducible apply tw)<;>intro _)
   refine hlack.mono ?_
   rintro _ _ ⟨rfl,rfl⟩
   conv=>whnf
   refine rdw ?_;repeat' ((with_reducible apply tw)<;>intro _)
   refine (fresh_ok p out hfew hs (lackI p.dag c) hlk).mono ?_
   rintro _ _ ⟨rfl,rfl⟩
   conv=>whnf
   refine rdw ?_;repeat' ((with_reducible apply tw)<;>intro _)
   refine (want_ok p out (by omega) src 8 (freshI (p).late (lackI p.dag c)) (by unfold freshI;exact Nat.le_trans (List.length_filter_le ..) hlk)).mono ?_
   rintro _ _ ⟨rfl,j,rfl⟩
   cases j
   ·conv=>whnf
    refine rdw ?_;repeat' ((with_reducible apply tw)<;>intro _)
    refine ⟨2,[],_,_,_,Nat.le_refl _,rfl,rfl,rfl,rfl,false,?_⟩
    rw [inP,if_neg h0,if_pos h7,inO,if_pos ⟨h7,hsrc⟩,hlp]
    rfl
   ·conv=>whnf
    refine rdw ?_;repeat' ((with_reducible apply tw)<;>intro _)
    refine ⟨3,[],_,_,_,by show 2≤3;omega,rfl,rfl,rfl,rfl,true,?_⟩
    rw [inP,if_neg h0,if_pos h7,inO,if_pos ⟨h7,hsrc⟩,hlp]
    rfl
  ·rename_i hb hlt hsrc
   have hlp:lateP p.late c=p.late:=by rw [lateP,if_neg (fun h=>hlt (by have:=h.2;rw [hcl];omega))]
   refine ⟨2,[],_,_,_,Nat.le_refl _,rfl,rfl,rfl,rfl,false,?_⟩
   rw [inP,if_neg h0,if_pos h7,inO,if_neg (fun h=>hsrc h.2),hlp,List.append_nil]
   rfl
  ·rename_i hb hsrc
   have hlp:lateP p.late c=p.late:=by rw [lateP,if_neg (fun h=>by rw [h.1] at hb;exact absurd hb (by decide))]
   ((with_reducible refine draw_pl ttOk zOk foOk mixedOk pl168x11 ?_ ?_);(focus kernel_rfl);(conv=>whnf))
   refine rdw ?_;repeat' ((with_reducible apply tw)<;>intro _)
   refine hlack.mono ?_
   rintro _ _ ⟨rfl,rfl⟩
   conv=>whnf
   refine rdw ?_;repeat' ((with_reducible apply tw)<;>intro _)
   refine (fresh_ok p out hfew hs (lackI p.dag c) hlk).mono ?_
   rintro _ _ ⟨rfl,rfl⟩
   conv=>whnf
   refine rdw ?_;repeat' ((with_reducible apply tw)<;>intro _)
   refine (want_ok p out (by omega) src 8 (freshI (p).late (lackI p.dag c)) (by unfold freshI;exact Nat.le_trans (List.length_filter_le ..) hlk)).mono ?_
   rintro _ _ ⟨rfl,j,rfl⟩
   cases j
   ·conv=>whnf
    refine rdw ?_;repeat' ((with_reducible apply tw)<;>intro _)
    refine ⟨2,[],_,_,_,Nat.le_refl _,rfl,rfl,rfl,rfl,false,?_⟩
    rw [inP,if_neg h0,if_pos h7,inO,if_pos ⟨h7,hsrc⟩,hlp]
    rfl
   ·conv=>whnf
    refine rdw ?_;repeat' ((with_reducible apply tw)<;>intro _)
    refine ⟨3,[],_,_,_,by show 2≤3;omega,rfl,rfl,rfl,rfl,true,?_⟩
    rw [inP,if_neg h0,if_pos h7,inO,if_pos ⟨h7,hsrc⟩,hlp]
    rfl
  ·rename_i hb hsrc
   have hlp:lateP p.late c=p.late:=by rw [lateP,if_neg (fun h=>by rw [h.1] at hb;exact absurd hb (by decide))]
   refine ⟨2,[],_,_,_,Nat.le_refl _,rfl,rfl,rfl,rfl,false,?_⟩
   rw [inP,if_neg h0,if_pos h7,inO,if_neg (fun h=>hsrc h.2),hlp,List.append_nil]
   rfl
 ·rename_i h0 h7
  refine ⟨2,[],_,_,_,Nat.le_refl _,rfl,rfl,rfl,rfl,false,?_⟩
  rw [inP,if_neg h0,if_neg h7,inO,if_neg (fun h=>h7 h.1),List.append_nil]
  rfl
theorem equal_ok (xs ys:List Int) (hm:few xs):ACalls Tryz.prog 141 [.d (.sl 1 (nums xs)),.d (.sl 1 (nums ys))] [] (fun av L=>av = .d (.bool (decide (xs=ys)))∧L=[]):=by
 have hx:=nums_length xs
 have hy:=nums_length ys
 unfold few at hm
 (refine acalls_go ttOk zOk foOk Tryz.func141 rfl Tryz.ntmps141 rfl false rfl ?_);(conv=>whnf)
 rw [hx,hy]
 refine rdw ?_;repeat' ((with_reducible apply tw)<;>intro _)
 ·rename_i h
  rw [decide_eq_false (fun e=>h (by rw [e]))]
  exact ⟨rfl,rfl⟩
 ·rename_i h
  have hl:xs.length=ys.length:=by omega
  refine loop_go ttOk zOk foOk (σ:=Nat) (fun k=>([(0,.d (.sl 1 (nums xs))),(1,.d (.sl 1 (nums ys))),(12,.d (.int .i64 xs.length)),(13,.d (.int .i64 k))],[])) (fun k=>k≤xs.length∧xs.take k=ys.take k) (fun k=>xs.length - k) [0,1,12,13] ?_ ?_
  ·conv=>whnf
   exact ⟨0,by rw [hx];rfl,rfl,by simp⟩
  ·rintro k ⟨hk,he⟩
   conv=>whnf
   refine rdw ?_;repeat' ((with_reducible apply tw)<;>intro _)
   ·rename_i h
    refine Exists.elim (⟨_,List.getElem?_eq_getElem (by omega)⟩:∃ a,xs[k]? = some a) fun a ha => ?_
    refine Exists.elim (⟨_,List.getElem?_eq_getElem (by omega)⟩:∃ b,ys[k]? = some b) fun b hb => ?_
    ((with_reducible refine draw_pl ttOk zOk foOk mixedOk pl141x6 ?_ ?_);(focus kernel_rfl);(conv=>whnf))
    refine rdw ?_;repeat' ((with_reducible apply tw)<;>intro _)
    ((with_reducible apply rd_intro);(focus (intro K hK;(conv=>whnf);exact ⟨by omega,[.int .i64 a],nums_at ha,hK⟩));(conv=>whnf))
    refine rdw ?_;repeat' ((with_reducible apply tw)<;>intro _)
    ((with_reducible apply rd_intro);(focus (intro K hK;(conv=>whnf);exact ⟨by omega,[.int .i64 b],nums_at hb,hK⟩));(conv=>whnf))
    refine rdw ?_;repeat' ((with_reducible apply tw)<;>intro _)
    ·rename_i h
     rw [decide_eq_false (fun e=>by subst e;rw [ha] at hb;cases hb;exact h rfl)]
     exact ⟨rfl,rfl⟩
    ·rename_i h
     exact ⟨k+1,rfl,rfl,⟨by omega,(take_succ_eq ha hb he).2 (by omega)⟩,by omega⟩
   ·rename_i h
    obtain rfl:k=xs.length:=by omega
    rw [decide_eq_true (by rw [List.take_length,hl,List.take_length] at he;exact he)]
    exact ⟨rfl,rfl⟩
def inC (l:List Int) (x:Int):Option Nat:=l.findIdx? fun y=>decide (y=x)
def inI (l:List Int) (x:Int):Int:=(inC l x).elim (-1) fun i=>(i:Int)
theorem inC_no {l:List Int} {x:Int} (h:∀ c∈l,c≠x):inC l x=none:=by
 unfold inC
 rw [List.findIdx?_eq_none_iff]
 intro c hc
 simp [h c hc]
theorem inC_here {l:List Int} {x:Int} {j:Nat} (hc:l[j]? = some x) (h:∀ c∈l.take j,c≠x):inC l x=some j:=by
 unfold inC
 rw [List.findIdx?_eq_some_iff_getElem]
 obtain ⟨hj,rfl⟩:=List.getElem?_eq_some_iff.1 hc
 refine ⟨hj,by simp,fun i hi => ?_⟩
 have:=h l[i] (List.mem_take_iff_getElem.2 ⟨i,by omega,rfl⟩)
 simpa using this
theorem inI_not {l:List Int} {x:Int} (h:x∉l):inI l x = -1:=by
 rw [inI,inC_no (l:=l) (x:=x) fun c hc e=>h (by rw [← e];exact hc)];rfl
theorem inI_in {l:List Int} {x:Int} (h:x∈l):0≤inI l x:=by
 unfold inI
 cases hc:inC l x with
 | none =>
   unfold inC at hc
   rw [List.findIdx?_eq_none_iff] at hc
   have:=hc x h
   simp at this
 | some i=>show (0:Int)≤(i:Int);omega
theorem inI_iff {l:List Int} {x:Int}:inI l x≥0↔x∈l:=by
 constructor
 ·intro h
  refine Classical.byContradiction fun hn => ?_
  rw [inI_not hn] at h;omega
 ·exact inI_in
theorem in_ok (l:List Int) (hl:few l) (x:Int):ACalls Tryz.prog 96 [.d (.sl 1 (nums l)),.d (.int .i64 x)] [] (fun av L=>av = .d (.int .i64 (inI l x))∧L=[]):=by
 have hcl:=nums_length l
 unfold few at hl
 (refine acalls_go ttOk zOk foOk Tryz.func96 rfl Tryz.ntmps96 rfl false rfl ?_);(conv=>whnf)
 refine loop_go ttOk zOk foOk (σ:=Nat) (fun j=>([(0,.d (.sl 1 (nums l))),(1,.d (.int .i64 x)),(5,.d (.int .i64 j))],[])) (fun j=>j≤l.length∧∀ c∈l.take j,c≠x) (fun j=>l.length - j) [0,1,5] ?_ ?_
 ·conv=>whnf
  exact ⟨0,rfl,rfl,Nat.zero_le _,by simp⟩
 ·rintro j ⟨hj,hall⟩
  conv=>whnf
  rw [hcl]
  refine rdz ?_;repeat' ((with_reducible apply tw)<;>intro _)
  ·rename_i h
   refine Exists.elim (⟨_,List.getElem?_eq_getElem (by omega)⟩:∃ c,l[j]? = some c) fun c hc => ?_
   refine ⟨by omega,[.int .i64 c],nums_at hc,?_⟩
   conv=>whnf
   refine rdz ?_;repeat' ((with_reducible apply tw)<;>intro _)
   ·rename_i h2
    rw [inI,inC_here (by rw [hc,h2]) hall]
    exact ⟨rfl,rfl⟩
   ·rename_i h2
    refine ⟨j+1,rfl,rfl,⟨by omega,fun y hy => ?_⟩,by omega⟩
    rw [List.take_add_one,hc] at hy
    rcases List.mem_append.1 hy with hy|hy
    ·exact hall y hy
    ·simp at hy;rw [hy];exact h2
  ·rename_i h
   rw [List.take_of_length_le (by omega)] at hall
   rw [inI,inC_no hall]
   exact ⟨rfl,rfl⟩
def atX (l:List Cert) (r a:Int):Option Nat:=l.findIdx? fun c=>decide (c.round=r∧c.author=a)
def atI (l:List Cert) (r a:Int):Int:=(atX l r a).elim (-1) fun i=>(i:Int)
theorem atX_no {l:List Cert} {r a:Int} (h:∀ c∈l,¬(c.round=r∧c.author=a)):atX l r a=none:=by
 unfold atX
 rw [List.findIdx?_eq_none_iff]
 intro c hc
 simpa using h c hc
theorem atX_here {l:List Cert} {r a:Int} {j:Nat} {c:Cert} (hc:l[j]? = some c) (hx:c.round=r∧c.author=a) (h:∀ c∈l.take j,¬(c.round=r∧c.author=a)):atX l r a=some j:=by
 unfold atX
 rw [List.findIdx?_eq_some_iff_getElem]
 obtain ⟨hj,rfl⟩:=List.getElem?_eq_some_iff.1 hc
 refine ⟨hj,by simpa using hx,fun i hi => ?_⟩
 have:=h l[i] (List.mem_take_iff_getElem.2 ⟨i,by omega,rfl⟩)
 simpa using this
theorem atC_of {l:List Cert} {r a:Int}:atC l r a=(atX l r a).bind fun i=>l[i]? := by
 unfold atC atX
 induction l with
 | nil=>rfl
 | cons c l ih =>
   rw [List.find?_cons,List.findIdx?_cons]
   cases hc:decide (c.round=r∧c.author=a) with
   | true=>rfl
   | false =>
     rw [if_neg Bool.false_ne_true,ih]
     cases List.findIdx? (fun c=>decide (c.round=r∧c.author=a)) l with
     | none=>rfl
     | some i=>rfl
theorem rAt_ok (d:Dag) (hd:few d.certs) (r a:Int):ACalls Tryz.prog 187 [d.av,.d (.int .i64 r),.d (.int .i64 a)] [] (fun av L=>av = .d (.int .i64 (atI d.certs r a))∧L=[]):=by
 have hcl:=certsD_length d.certs
 unfold few at hd
 (refine acalls_go ttOk zOk foOk Tryz.func187 rfl Tryz.ntmps187 rfl false rfl ?_);(conv=>whnf)
 refine loop_go ttOk zOk foOk (σ:=Nat) (fun j=>([(1,.d (.int .i64 r)),(2,.d (.int .i64 a)),(3,.ptr 0 0),(7,.d (.int .i64 j))],[.cells d.cells])) (fun j=>j≤d.certs.length∧∀ c∈d.certs.take j,¬(c.round=r∧c.author=a)) (fun j=>d.certs.length - j) [1,2,3,7] ?_ ?_
 ·conv=>whnf
  exact ⟨0,rfl,rfl,Nat.zero_le _,by simp⟩
 ·rintro j ⟨hj,hall⟩
  conv=>whnf
  rw [hcl]
  refine rdw ?_;repeat' ((with_reducible apply tw)<;>intro _)
  ·rename_i h
   refine Exists.elim (⟨_,List.getElem?_eq_getElem (by omega)⟩:∃ c,d.certs[j]? = some c) fun c hc => ?_
   have hon:¬(c.round=r∧c.author=a)→∀ y∈d.certs.take (j+1),¬(y.round=r∧y.author=a):=by
    intro hn y hy
    rw [List.take_add_one,hc] at hy
    rcases List.mem_append.1 hy with hy|hy
    ·exact hall y hy
    ·simp at hy;rw [hy];exact hn
   refine ⟨by omega,c.cs,certsD_at hc,?_⟩
   conv=>whnf
   refine rdw ?_;repeat' ((with_reducible apply tw)<;>intro _)
   ·rename_i h1
    refine ⟨by omega,c.cs,certsD_at hc,?_⟩
    conv=>whnf
    refine rdw ?_;repeat' ((with_reducible apply tw)<;>intro _)
    ·rename_i h2
     rw [atI,atX_here hc ⟨h1,h2⟩ hall]
     exact ⟨rfl,rfl⟩
    ·rename_i h2
     exact ⟨j+1,rfl,rfl,⟨by omega,hon fun h=>h2 h.2⟩,by omega⟩
   ·rename_i h1
    exact ⟨j+1,rfl,rfl,⟨by omega,hon fun h=>h1 h.1⟩,by omega⟩
  ·rename_i h
   rw [List.take_of_length_le (by omega)] at hall
   rw [atI,atX_no hall]
   exact ⟨rfl,rfl⟩
theorem take_snoc' {α:Type} {l:List α} {j:Nat} {c:α} (hc:l[j]? = some c):l.take (j+1)=l.take j++[c]:=by rw [List.take_add_one,hc];rfl
theorem copyNumbers_row (xs:List Int) (hm:tiny xs):ACalls Tryz.prog 26 [.d (.sl 1 (nums xs))] [] (fun av L=>av = .arr 0∧L=[.row 3 1 (nums xs) false]):=by
 have hx:=nums_length xs
 unfold tiny at hm
 (refine acalls_go ttOk zOk foOk Tryz.func26 rfl Tryz.ntmps26 rfl true rfl ?_);(conv=>whnf)
 refine loop_go ttOk zOk foOk (σ:=Nat) (fun k=>([(0,.d (.sl 1 (nums xs))),(3,.arr 0),(4,.d (.int .i64 k))],[.row 3 1 (nums (xs.take k)) false])) (fun k=>k≤xs.length) (fun k=>xs.length - k) [0,3,4] ?_ ?_
 ·conv=>whnf
  exact ⟨0,rfl,rfl,by omega⟩
 ·intro k hk
  conv=>whnf
  rw [hx]
  refine rdz ?_;repeat' ((with_reducible apply tw)<;>intro _)
  ·rename_i h
   refine Exists.elim (⟨_,List.getElem?_eq_getElem (by omega)⟩:∃ a,xs[k]? = some a) fun a ha => ?_
   have hkn:=nums_length (xs.take k)
   refine ⟨by omega,[.int .i64 a],nums_at ha,?_⟩
   conv=>whnf
   refine rdz ?_;repeat' ((with_reducible apply tw)<;>intro _)
   refine ⟨by simp [hkn];omega,?_⟩
   conv=>whnf
   refine rdz ?_;repeat' ((with_reducible apply tw)<;>intro _)
   refine ⟨k+1,rfl,?_,by omega,by omega⟩
   rw [List.take_add_one,ha,← nums_apps]
   rfl
  ·rename_i h
   rw [List.take_of_length_le (by omega)]
   exact ⟨rfl,rfl⟩
theorem nums_take' (l:List Int) (n:Nat):(nums l).take n=nums (l.take n):=by simp [nums]
theorem nums_drop' (l:List Int) (n:Nat):(nums l).drop n=nums (l.drop n):=by simp [nums]
def insI (l:List Int) (n:Int):List Int:=l.filter (fun x=>decide (x<n))++n :: l.filter (fun x => !decide (x<n))
theorem insI_at {l:List Int} {n:Int} {i:Nat} (h1:∀ x∈l.take i,x<n) (h2:∀ x∈l.drop i,¬x<n):insI l n=l.take i++n :: l.drop i:=by
 have e:l=l.take i++l.drop i:=(List.take_append_drop ..).symm
 unfold insI
 conv=>lhs;rw [e]
 rw [List.filter_append,List.filter_append,List.filter_eq_self.2 (by simpa using h1),List.filter_eq_nil_iff.2 (by simpa using h2),List.filter_eq_nil_iff.2 (fun x hx=>by simp [h1 x hx]),List.filter_eq_self.2 (fun x hx=>by simp [h2 x hx]),List.append_nil,List.nil_append]
theorem insI_mem {l:List Int} {n x:Int}:x∈insI l n↔x∈l∨x=n:=by
 unfold insI
 rw [List.mem_append,List.mem_cons,List.mem_filter,List.mem_filter]
 by_cases h:x<n<;>simp [h]<;>constructor<;>rintro (h1|h1)<;>simp [h1]
theorem insI_rising {l:List Int} {n:Int} (h:risingI l) (hn:n∉l):risingI (insI l n):=by
 unfold insI
 refine List.pairwise_append.2 ⟨h.sublist List.filter_sublist,List.pairwise_cons.2 ⟨fun y hy => ?_,h.sublist List.filter_sublist⟩,fun x hx y hy => ?_⟩
 ·have h1:=List.mem_filter.1 hy
  have h2:¬y<n:=by simpa using h1.2
  have h3:y≠n:=fun e=>hn (by rw [← e];exact h1.1)
  omega
 ·have h1:x<n:=by simpa using (List.mem_filter.1 hx).2
  rcases List.mem_cons.1 hy with rfl|hy
  ·exact h1
  ·have h2:¬y<n:=by simpa using (List.mem_filter.1 hy).2
   omega
theorem filt_len {α:Type} (p:α→Bool):∀ l:List α,(l.filter p).length+(l.filter fun x => !p x).length=l.length
 | []=>rfl
 | x :: l=>by
   have ih:=filt_len p l
   rw [List.filter_cons,List.filter_cons]
   cases hp:p x<;>simp<;>omega
theorem insI_len (l:List Int) (n:Int):(insI l n).length=l.length+1:=by
 unfold insI
 rw [List.length_append,List.length_cons]
 have:=filt_len (fun x=>decide (x<n)) l
 omega
theorem with_ok (l:List Int) (hl:tiny l) (hs:risingI l) (n:Int) (hn:n∉l):ACalls Tryz.prog 80 [.d (.sl 1 (nums l)),.d (.int .i64 n)] [] (fun av L=>av = .d (.sl 1 (nums (insI l n)))∧L=[]):=by
 have hll:=nums_length l
 have hin:=in_ok l (by unfold few;unfold tiny at hl;omega) n
 rw [inI_not hn] at hin
 unfold tiny at hl
 (refine acalls_go ttOk zOk foOk Tryz.func80 rfl Tryz.ntmps80 rfl false rfl ?_);(conv=>whnf)
 refine hin.mono ?_
 rintro _ _ ⟨rfl,rfl⟩
 conv=>whnf
 refine rdz ?_;repeat' ((with_reducible apply tw)<;>intro _)
 refine loop_go ttOk zOk foOk (σ:=Nat) (fun i=>([(0,.d (.sl 1 (nums l))),(1,.d (.int .i64 n)),(5,.d (.int .i64 i))],[])) (fun i=>i≤l.length∧∀ x∈l.take i,x<n) (fun i=>l.length - i) [0,1,5] ?_ ?_
 ·conv=>whnf
  exact ⟨0,rfl,rfl,Nat.zero_le _,by simp⟩
 ·rintro i ⟨hi,hall⟩
  have hdj:List.drop (Int.toNat 0) (List.take ((i:Int)).toNat (nums l))=nums (l.take i):=by
   rw [show ((i:Int)).toNat=i from rfl,show Int.toNat 0=0 from rfl,List.drop_zero,nums_take']
  have hdj2:List.drop ((i:Int)).toNat (List.take (((nums l).length:Int)).toNat (nums l))=nums (l.drop i):=by
   rw [show ((i:Int)).toNat=i from rfl,show (((nums l).length:Int)).toNat=(nums l).length from rfl,List.take_length,nums_drop']
  have hcp:ACalls Tryz.prog 26 [.d (.sl 1 (List.drop (Int.toNat 0) (List.take ((i:Int)).toNat (nums l))))] [] (fun av L=>av = .arr 0∧L=[.row 3 1 (nums (l.take i)) false]):=by
   rw [hdj]
   exact copyNumbers_row _ (by unfold tiny;have:=List.length_take_le' i l;omega)
  have hlt:=List.length_take_le' i l
  have hld:(l.drop i).length≤l.length:=by rw [List.length_drop];omega
  conv=>whnf
  refine rdz ?_;repeat' ((with_reducible apply tw)<;>intro _)
  ·rename_i hil
   refine Exists.elim (⟨_,List.getElem?_eq_getElem (by omega)⟩:∃ y,l[i]? = some y) fun y hy => ?_
   refine ⟨by omega,[.int .i64 y],nums_at hy,?_⟩
   conv=>whnf
   refine rdz ?_;repeat' ((with_reducible apply tw)<;>intro _)
   ·rename_i hyn
    refine ⟨i+1,rfl,rfl,⟨by omega,fun x hx => ?_⟩,by omega⟩
    rw [List.take_add_one,hy] at hx
    rcases List.mem_append.1 hx with hx|hx
    ·exact hall x hx
    ·simp at hx;rw [hx];exact hyn
   ·rename_i hyn
    have hge:∀ x∈l.drop i,¬x<n:=by
     intro x hx
     obtain ⟨h1,rfl⟩:=List.getElem?_eq_some_iff.1 hy
     obtain ⟨j,hj,rfl⟩:=List.mem_drop_iff_getElem.1 hx
     rcases Nat.eq_zero_or_pos j with rfl|h2
     ·simpa using hyn
     ·have:=List.pairwise_iff_getElem.1 hs i (i+j) h1 (by omega) (by omega)
      omega
    rw [insI_at hall hge]
    refine ⟨by omega,by omega,by omega,?_⟩
    conv=>whnf
    refine hcp.mono ?_
    rintro _ _ ⟨rfl,rfl⟩
    conv=>whnf
    refine ⟨by rw [nums_length,List.length_singleton];show (_+1) * 8≤_;omega,?_⟩
    conv=>whnf
    rw [nums_app]
    refine ⟨by omega,by omega,by omega,?_⟩
    conv=>whnf
    refine ⟨by rw [hdj2,nums_length,nums_length,List.length_append,List.length_singleton];show (_+1+_) * 8≤_;omega,?_⟩
    conv=>whnf
    refine ⟨?_,rfl⟩
    rw [hdj2,nums_apps,List.append_assoc]
    rfl
  ·rename_i hil
   have hge:∀ x∈l.drop i,¬x<n:=by
    intro x hx
    rw [List.drop_of_length_le (by omega)] at hx
    cases hx
   rw [insI_at hall hge]
   refine ⟨by omega,by omega,by omega,?_⟩
   conv=>whnf
   refine hcp.mono ?_
   rintro _ _ ⟨rfl,rfl⟩
   conv=>whnf
   refine ⟨by rw [nums_length,List.length_singleton];show (_+1) * 8≤_;omega,?_⟩
   conv=>whnf
   rw [nums_app]
   refine ⟨by omega,by omega,by omega,?_⟩
   conv=>whnf
   refine ⟨by rw [hdj2,nums_length,nums_length,List.length_append,List.length_singleton];show (_+1+_) * 8≤_;omega,?_⟩
   conv=>whnf
   refine ⟨?_,rfl⟩
   rw [hdj2,nums_apps,List.append_assoc]
   rfl
theorem headW_ok (c:Cert) (h:c.ok):ACalls Tryz.prog 23 [c.hav] [] (fun av L=>av = .d (.int .i64 (1+c.bats.length+c.pars.length))∧L=[]):=by
 have h1:=h.bats.1
 have h2:=h.pars.1
 unfold few at h1 h2
 have e1:=nums_length c.bats
 have e2:=nums_length c.pars
 (refine acalls_go ttOk zOk foOk Tryz.func23 rfl Tryz.ntmps23 rfl false rfl ?_);(conv=>whnf)
 rw [e1]
 refine rdw ?_;repeat' ((with_reducible apply tw)<;>intro _)
 rw [e2]
 refine rdw ?_;repeat' ((with_reducible apply tw)<;>intro _)
 exact ⟨rfl,rfl⟩
theorem certW_ok (c:Cert) (h:c.ok):ACalls Tryz.prog 64 [c.av] [] (fun av L=>av = .d (.int .i64 (1+c.bats.length+c.pars.length+c.sigs.length))∧L=[]):=by
 have h1:=h.bats.1
 have h2:=h.pars.1
 have h3:=h.sigs.1
 unfold few at h1 h2 h3
 have e3:=nums_length c.sigs
 (refine acalls_go ttOk zOk foOk Tryz.func64 rfl Tryz.ntmps64 rfl false rfl ?_);(conv=>whnf)
 ((with_reducible refine draw_pl ttOk zOk foOk mixedOk pl64x1 ?_ ?_);(focus kernel_rfl);(conv=>whnf))
 refine rdw ?_;repeat' ((with_reducible apply tw)<;>intro _)
 refine (headW_ok c h).mono ?_
 rintro _ _ ⟨rfl,rfl⟩
 conv=>whnf
 refine rdw ?_;repeat' ((with_reducible apply tw)<;>intro _)
 rw [e3]
 refine rdw ?_;repeat' ((with_reducible apply tw)<;>intro _)
 exact ⟨rfl,rfl⟩
end Go.Proofs.YtolkmjfkkkiboaaGreat
