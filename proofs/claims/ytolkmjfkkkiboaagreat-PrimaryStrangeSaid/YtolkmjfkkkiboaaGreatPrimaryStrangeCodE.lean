/- PrimaryStrange: contracts. -/
import Derived.Test.YtolkmjfkkkiboaaGreatPrimaryStrangeCodD
set_option linter.unusedVariables false
set_option linter.unusedSimpArgs false
namespace Go.Proofs.YtolkmjfkkkiboaaGreat
open Go.Ab Go.RowKit Go.MapKept
attribute [local irreducible] ACalls AW ADraw Into fltB fnear
set_option maxRecDepth 100000
structure mayP (d:Dag) (j:Nat):Prop where
 ok:∀ c∈d.certs.take j,okCert d.nodes c∧d.low<c.round∧lacksI d c=[]
 sorted:sortedC (d.certs.take j)
 dig:((d.certs.take j).map (·.digest)).Nodup
theorem take_snoc {α:Type} {l:List α} {j:Nat} {c:α} (hc:l[j]? = some c):l.take (j+1)=l.take j++[c]:=by rw [List.take_add_one,hc];rfl
theorem mayP.next {d:Dag} {j:Nat} (h:mayP d j) {c:Cert} (hc:d.certs[j]? = some c) (h1:okCert d.nodes c) (h2:d.low<c.round) (h3:lacksI d c=[]) (h4:∀ c0,0<j→d.certs[j - 1]? = some c0→c0.before c.round c.author=true) (h5:∀ x∈d.certs.take j,x.digest≠c.digest):mayP d (j+1):=by
 have e:=take_snoc hc
 refine ⟨?_,?_,?_⟩
 ·rw [e]
  intro y hy
  rcases List.mem_append.1 hy with hy|hy
  ·exact h.ok y hy
  ·simp at hy;rw [hy];exact ⟨h1,h2,h3⟩
 ·rw [e]
  refine List.pairwise_append.2 ⟨h.sorted,by simp,fun x hx y hy => ?_⟩
  simp at hy
  rw [hy]
  obtain ⟨i,hi,rfl⟩:=List.mem_take_iff_getElem.1 hx
  have hil:i<j:=by omega
  have hjl:=(List.getElem?_eq_some_iff.1 hc).1
  have hp:d.certs[j - 1]? = some d.certs[j - 1]:=List.getElem?_eq_getElem (by omega)
  have hb:=h4 _ (by omega) hp
  rcases Nat.lt_or_ge i (j - 1) with hlt|hge
  ·have h6:=List.pairwise_iff_getElem.1 h.sorted i (j - 1) (by rw [List.length_take];omega) (by rw [List.length_take];omega) hlt
   rw [List.getElem_take,List.getElem_take] at h6
   have h7:=before_iff.1 h6
   have h8:=before_iff.1 hb
   exact before_iff.2 (by omega)
  ·have:i=j - 1:=by omega
   subst this
   exact hb
 ·rw [e,List.map_append,List.nodup_append]
  refine ⟨h.dig,by simp,fun a ha b hb => ?_⟩
  obtain ⟨x,hx,rfl⟩:=List.mem_map.1 ha
  simp at hb
  rw [hb]
  exact h5 x hx
theorem lacks_nil {d:Dag} {c:Cert} (h:lacksI d c=[]) (hr:c.round>d.low+1):∀ x∈c.pars,∃ c'∈d.certs,c'.digest=x∧c'.round=c.round - 1:=by
 intro x hx
 rw [lacksI,if_neg (by omega),List.filter_eq_nil_iff] at h
 have:=h x hx
 unfold lackB at this
 cases hc:certOf d x with
 | none=>rw [hc] at this;simp at this
 | some c' =>
   rw [hc] at this
   simp at this
   obtain ⟨h1,h2,_⟩:=certOf_some hc
   exact ⟨c',h1,h2,this⟩
theorem mayP.valid {d:Dag} (h:mayP d d.certs.length) (h1:isN d.nodes=true) (h2:0≤d.low∧d.low≤1099511627776) (h3:d.certs.length≤65536):Valid d:=by
 obtain ⟨a,b,c⟩:=h
 rw [List.take_length] at a b c
 exact ⟨h1,h2,h3,fun c hc=>(a c hc).1,fun c hc=>(a c hc).2.1,b,c,fun c hc hr=>lacks_nil (a c hc).2.2 hr⟩
theorem ok_fewL {c:Cert} (h:c.ok):fewL c:=⟨h.bats.1,h.pars.1,h.sigs.1⟩
set_option maxHeartbeats 2000000 in
theorem rMayDag_ok (d:Dag) (h:d.ok):ACalls Tryz.prog 33 [d.av] [] (fun av L=>(∃ b,av = .d (.bool b)∧(b=true→Valid d))∧L=[]):=by
 have hcl:=certsD_length d.certs
 have hfd:=h.certs.1
 (refine acalls_go ttOk zOk foOk Tryz.func33 rfl Tryz.ntmps33 rfl false rfl ?_);(conv=>whnf)
 refine (rMay_ok d.nodes).mono ?_
 rintro _ _ ⟨rfl,rfl⟩
 cases hn:isN d.nodes with
 | false =>
   conv=>whnf
   exact ⟨⟨_,rfl,by intro h;cases h⟩,rfl⟩
 | true =>
   have hnn:=of_decide_eq_true hn
   conv=>whnf
   refine rdw ?_;repeat' ((with_reducible apply tw)<;>intro _)
   ·exact ⟨⟨_,rfl,by intro h;cases h⟩,rfl⟩
   ·exact ⟨⟨_,rfl,by intro h;cases h⟩,rfl⟩
   ·exact ⟨⟨_,rfl,by intro h;cases h⟩,rfl⟩
   ·rename_i hl1 hl2 hl3
    refine loop_go ttOk zOk foOk (σ:=Nat) (fun j=>([(1,.ptr 0 0),(3,.d (.int .i64 j))],[.cells d.cells])) (fun j=>j≤d.certs.length∧mayP d j) (fun j=>d.certs.length - j) [1,3] ?_ ?_
    ·conv=>whnf
     exact ⟨0,rfl,rfl,Nat.zero_le _,by simp,by simp [sortedC],by simp⟩
    ·rintro j ⟨hj,hinv⟩
     conv=>whnf
     refine rdw ?_;repeat' ((with_reducible apply tw)<;>intro _)
     ·rename_i hjl
      have hjn:j<d.certs.length:=by omega
      refine Exists.elim (⟨_,List.getElem?_eq_getElem hjn⟩:∃ c,d.certs[j]? = some c) fun c hc => ?_
      have hcm:=List.mem_of_getElem? hc
      refine ⟨by omega,c.cs,certsD_at hc,?_⟩
      conv=>whnf
      refine rdw ?_;repeat' ((with_reducible apply tw)<;>intro _)
      refine (rCert_ok c (ok_fewL (h.certs.2 c hcm)) d.nodes).mono ?_
      rintro _ _ ⟨rfl,rfl⟩
      by_cases hcok:okCert d.nodes c
      ·rw [@decide_eq_true _ (Classical.propDecidable _) hcok]
       conv=>whnf
       refine rdw ?_;repeat' ((with_reducible apply tw)<;>intro _)
       ·exact ⟨⟨_,rfl,by intro h;cases h⟩,rfl⟩
       ·rename_i hlow hj0
        replace hlow:d.low<c.round:=by omega
        have hj0':0<j:=by omega
        refine Exists.elim (⟨_,List.getElem?_eq_getElem (show j - 1<d.certs.length by omega)⟩:∃ c,d.certs[j - 1]? = some c) fun c0 hc0 => ?_
        refine ⟨by omega,c0.cs,(by rw [show ((j:Int) - 1).toNat=j - 1 by omega];exact certsD_at hc0),?_⟩
        conv=>whnf
        refine rdw ?_;repeat' ((with_reducible apply tw)<;>intro _)
        refine (rBefore_ok c0.round c0.author c.round c.author).mono ?_
        rintro _ _ ⟨rfl,rfl⟩
        by_cases hb:c0.before c.round c.author=true
        ·rw [show decide (c0.round<c.round∨c0.round=c.round∧c0.author<c.author)=true from hb]
         have h4:∀ c0,0<j→d.certs[j - 1]? = some c0→c0.before c.round c.author=true:=by
          intro c1 _ hc1
          rw [hc0] at hc1;cases hc1;exact hb
         conv=>whnf
         refine loop_go ttOk zOk foOk (σ:=Nat) (fun k=>([(1,.ptr 0 0),(3,.d (.int .i64 j)),(4,.ptr 1 0),(6,.d (.int .i64 k))],[.cells d.cells,.cells c.cells])) (fun k=>k≤j∧∀ x∈d.certs.take k,x.digest≠c.digest) (fun k=>j - k) [1,3,4,6] ?_ ?_
         ·conv=>whnf
          exact ⟨0,rfl,rfl,by omega,by simp⟩
         ·rintro k ⟨hkj,hkd⟩
          conv=>whnf
          refine rdw ?_;repeat' ((with_reducible apply tw)<;>intro _)
          ·rename_i hkl
           have hkn:k<j:=Int.ofNat_lt.1 hkl
           refine Exists.elim (⟨_,List.getElem?_eq_getElem (by omega)⟩:∃ c,d.certs[k]? = some c) fun c1 hc1 => ?_
           ((with_reducible refine draw_pl ttOk zOk foOk mixedOk pl33x16 ?_ ?_);(focus kernel_rfl);(conv=>whnf))
           refine rdw ?_;repeat' ((with_reducible apply tw)<;>intro _)
           ((with_reducible apply rd_intro);(focus (intro K hK;(conv=>whnf);exact ⟨by omega,c1.cs,certsD_at hc1,hK⟩));(conv=>whnf))
           refine rdw ?_;repeat' ((with_reducible apply tw)<;>intro _)
           ·exact ⟨⟨_,rfl,by intro h;cases h⟩,rfl⟩
           ·rename_i hne
            refine ⟨k+1,rfl,rfl,⟨by omega,fun y hy => ?_⟩,by omega⟩
            rw [take_snoc hc1] at hy
            rcases List.mem_append.1 hy with hy|hy
            ·exact hkd y hy
            ·simp at hy;rw [hy];exact hne
          ·rename_i hkl
           have hkj:k=j:=by omega
           subst hkj
           refine (rLacks_ok d hfd c (by have:=hcok.head.pars.1;omega) hcok.head.round).mono ?_
           rintro _ _ ⟨rfl,rfl⟩
           have hll:=nums_length (lacksI d c)
           conv=>whnf
           rw [hll]
           refine rdw ?_;repeat' ((with_reducible apply tw)<;>intro _)
           ·exact ⟨⟨_,rfl,by intro h;cases h⟩,rfl⟩
           ·rename_i hl0
            exact ⟨k+1,rfl,rfl,⟨by omega,hinv.next hc hcok hlow (List.length_eq_zero_iff.1 (by omega)) h4 hkd⟩,by omega⟩
        ·rw [show decide (c0.round<c.round∨c0.round=c.round∧c0.author<c.author)=false from by simpa [Cert.before] using hb]
         conv=>whnf
         exact ⟨⟨_,rfl,by intro h;cases h⟩,rfl⟩
       ·rename_i hlow hj0
        replace hlow:d.low<c.round:=by omega
        have h4:∀ c0,0<j→d.certs[j - 1]? = some c0→c0.before c.round c.author=true:=by
         intro c1 h _
         omega
        refine loop_go ttOk zOk foOk (σ:=Nat) (fun k=>([(1,.ptr 0 0),(3,.d (.int .i64 j)),(4,.ptr 1 0),(6,.d (.int .i64 k))],[.cells d.cells,.cells c.cells])) (fun k=>k≤j∧∀ x∈d.certs.take k,x.digest≠c.digest) (fun k=>j - k) [1,3,4,6] ?_ ?_
        ·conv=>whnf
         exact ⟨0,rfl,rfl,by omega,by simp⟩
        ·rintro k ⟨hkj,hkd⟩
         conv=>whnf
         refine rdw ?_;repeat' ((with_reducible apply tw)<;>intro _)
         ·rename_i hkl
          have hkn:k<j:=Int.ofNat_lt.1 hkl
          refine Exists.elim (⟨_,List.getElem?_eq_getElem (by omega)⟩:∃ c,d.certs[k]? = some c) fun c1 hc1 => ?_
          ((with_reducible refine draw_pl ttOk zOk foOk mixedOk pl33x16 ?_ ?_);(focus kernel_rfl);(conv=>whnf))
          refine rdw ?_;repeat' ((with_reducible apply tw)<;>intro _)
          ((with_reducible apply rd_intro);(focus (intro K hK;(conv=>whnf);exact ⟨by omega,c1.cs,certsD_at hc1,hK⟩));(conv=>whnf))
          refine rdw ?_;repeat' ((with_reducible apply tw)<;>intro _)
          ·exact ⟨⟨_,rfl,by intro h;cases h⟩,rfl⟩
          ·rename_i hne
           refine ⟨k+1,rfl,rfl,⟨by omega,fun y hy => ?_⟩,by omega⟩
           rw [take_snoc hc1] at hy
           rcases List.mem_append.1 hy with hy|hy
           ·exact hkd y hy
           ·simp at hy;rw [hy];exact hne
         ·rename_i hkl
          have hkj:k=j:=by omega
          subst hkj
          refine (rLacks_ok d hfd c (by have:=hcok.head.pars.1;omega) hcok.head.round).mono ?_
          rintro _ _ ⟨rfl,rfl⟩
          have hll:=nums_length (lacksI d c)
          conv=>whnf
          rw [hll]
          refine rdw ?_;repeat' ((with_reducible apply tw)<;>intro _)
          ·exact ⟨⟨_,rfl,by intro h;cases h⟩,rfl⟩
          ·rename_i hl0
           exact ⟨k+1,rfl,rfl,⟨by omega,hinv.next hc hcok hlow (List.length_eq_zero_iff.1 (by omega)) h4 hkd⟩,by omega⟩
      ·rw [@decide_eq_false _ (Classical.propDecidable _) hcok]
       conv=>whnf
       exact ⟨⟨_,rfl,by intro h;cases h⟩,rfl⟩
     ·rename_i hjl
      have:j=d.certs.length:=by omega
      subst this
      exact ⟨⟨_,rfl,fun _=>hinv.valid hn ⟨by omega,by omega⟩ (by omega)⟩,rfl⟩
end Go.Proofs.YtolkmjfkkkiboaaGreat
namespace Go.Proofs.YtolkmjfkkkiboaaGreat
open Go.Ab Go.RowKit
end Go.Proofs.YtolkmjfkkkiboaaGreat
namespace Go.Proofs.YtolkmjfkkkiboaaGreat
open Go.Ab Go.RowKit Go.MapKept
attribute [local irreducible] ACalls AW ADraw Into fltB fnear
set_option maxRecDepth 100000
theorem rise_len2 {l:List Int} (h:riseB l 1 65536):l.length≤65536:=by
 have:=sub_len (m:=(List.range 65536).map fun n:Nat=>(n:Int)+1) (rising_nodup h.1) fun x hx=>by
  have:=h.2 x hx
  exact List.mem_map.2 ⟨(x - 1).toNat,by simp;omega,by omega⟩
 simpa using this
end Go.Proofs.YtolkmjfkkkiboaaGreat
namespace Go.Proofs.YtolkmjfkkkiboaaGreat
open Go.Ab Go.RowKit
end Go.Proofs.YtolkmjfkkkiboaaGreat
namespace Go.Proofs.YtolkmjfkkkiboaaGreat
open Go.Ab Go.RowKit Go.MapKept
attribute [local irreducible] ACalls AW ADraw Into fltB fnear
set_option maxRecDepth 100000
noncomputable def isV (d:Dag):Bool := @decide (Valid d) (Classical.propDecidable _)
theorem isV_yes {d:Dag} (h:Valid d):isV d=true:=by unfold isV;exact @decide_eq_true _ (Classical.propDecidable _) h
theorem isV_no {d:Dag} (h:¬Valid d):isV d=false:=by unfold isV;exact @decide_eq_false _ (Classical.propDecidable _) h
structure mayD (d:Dag) (j:Nat):Prop where
 ok:∀ c∈d.certs.take j,okCert d.nodes c∧d.low<c.round
 sorted:sortedC (d.certs.take j)
 dig:((d.certs.take j).map (·.digest)).Nodup
 here:∀ c∈d.certs.take j,c.round>d.low+1→∀ x∈c.pars,∃ c'∈d.certs.take j,c'.digest=x∧c'.round=c.round - 1
theorem mayD.next {d:Dag} {j:Nat} (h:mayD d j) {c:Cert} (hc:d.certs[j]? = some c) (h1:okCert d.nodes c) (h2:d.low<c.round) (h3:c.round>d.low+1→∀ x∈c.pars,∃ c'∈d.certs.take j,c'.digest=x∧c'.round=c.round - 1) (h4:∀ c0,0<j→d.certs[j - 1]? = some c0→c0.before c.round c.author=true) (h5:∀ x∈d.certs.take j,x.digest≠c.digest):mayD d (j+1):=by
 have e:=take_snoc hc
 refine ⟨?_,?_,?_,?_⟩
 ·rw [e]
  intro y hy
  rcases List.mem_append.1 hy with hy|hy
  ·exact h.ok y hy
  ·simp at hy;rw [hy];exact ⟨h1,h2⟩
 ·rw [e]
  refine List.pairwise_append.2 ⟨h.sorted,by simp,fun x hx y hy => ?_⟩
  simp at hy
  rw [hy]
  obtain ⟨i,hi,rfl⟩:=List.mem_take_iff_getElem.1 hx
  have hil:i<j:=by omega
  have hjl:=(List.getElem?_eq_some_iff.1 hc).1
  have hp:d.certs[j - 1]? = some d.certs[j - 1]:=List.getElem?_eq_getElem (by omega)
  have hb:=h4 _ (by omega) hp
  rcases Nat.lt_or_ge i (j - 1) with hlt|hge
  ·have h6:=List.pairwise_iff_getElem.1 h.sorted i (j - 1) (by rw [List.length_take];omega) (by rw [List.length_take];omega) hlt
   rw [List.getElem_take,List.getElem_take] at h6
   have h7:=before_iff.1 h6
   have h8:=before_iff.1 hb
   exact before_iff.2 (by omega)
  ·have:i=j - 1:=by omega
   subst this
   exact hb
 ·rw [e,List.map_append,List.nodup_append]
  refine ⟨h.dig,by simp,fun a ha b hb => ?_⟩
  obtain ⟨x,hx,rfl⟩:=List.mem_map.1 ha
  simp at hb
  rw [hb]
  exact h5 x hx
 ·rw [e]
  intro y hy hr x hx
  rcases List.mem_append.1 hy with hy|hy
  ·obtain ⟨c',k1,k2⟩:=h.here y hy hr x hx
   exact ⟨c',List.mem_append_left _ k1,k2⟩
  ·simp at hy
   rw [hy] at hr hx ⊢
   obtain ⟨c',k1,k2⟩:=h3 hr x hx
   exact ⟨c',List.mem_append_left _ k1,k2⟩
theorem mayD.valid {d:Dag} (h:mayD d d.certs.length) (h1:isN d.nodes=true) (h2:0≤d.low∧d.low≤1099511627776) (h3:d.certs.length≤65536):Valid d:=by
 obtain ⟨a,b,c,e⟩:=h
 rw [List.take_length] at a b c e
 exact ⟨h1,h2,h3,fun c hc=>(a c hc).1,fun c hc=>(a c hc).2,b,c,fun c hc hr x hx=>e c hc hr x hx⟩
theorem look_mem {k v:Int}:∀ {ps:List (Int×Int)},lookP k ps=some v→(k,v)∈ps
 | [],h=>by cases h
 | p :: r,h=>by
   rw [lookP] at h
   split at h
   ·rename_i e
    cases h
    rw [← e];simp
   ·exact List.mem_cons_of_mem _ (look_mem h)
theorem seen_some {l:List Cert} {x v:Int} (h:lookP x (seenP l)=some v):∃ c∈l,c.digest=x∧c.round=v:=by
 obtain ⟨c,hc,e⟩:=List.mem_map.1 (look_mem h)
 exact ⟨c,hc,congrArg Prod.fst e,congrArg Prod.snd e⟩
theorem look_no {k:Int}:∀ {ps:List (Int×Int)},lookP k ps=none→∀ p∈ps,p.1≠k
 | p :: r,h,q,hq=>by
   rw [lookP] at h
   split at h
   ·cases h
   ·rename_i e
    rcases List.mem_cons.1 hq with rfl|hq
    ·exact e
    ·exact look_no h q hq
theorem seen_none {l:List Cert} {x:Int} (h:lookP x (seenP l)=none):∀ c∈l,c.digest≠x:=fun c hc=>look_no h (c.digest,c.round) (List.mem_map.2 ⟨c,hc,rfl⟩)
theorem mapP_look (k:Int) (ps:List (Int×Int)):∃ r,mfind (.one (.int .i64 k)) (mapP ps) 0=some r∧((∃ v,lookP k ps=some v∧∃ i,r=some (i,.v (.one (.int .i64 v))))∨(lookP k ps=none∧r=none)):=by
 obtain ⟨r,h1,⟨v,i,h2,h3⟩|h2⟩:=mapP_find k ps 0
 ·exact ⟨r,h1,.inl ⟨v,h2,i,h3⟩⟩
 ·exact ⟨r,h1,.inr h2⟩
def outM (av:AV) (L:List AB) (d:Dag):Prop:=(∃ b,av = .d (.bool b)∧(b=true→Valid d))∧L=[]
theorem outM_no (d:Dag):outM (.d (.bool false)) [] d:=⟨⟨false,rfl,by intro h;cases h⟩,rfl⟩
set_option maxHeartbeats 2000000 in
theorem dagMay_any (d:Dag) (h:d.ok):ACalls Tryz.prog 75 [d.av] [] (fun av L=>outM av L d):=by
 have hcl:=certsD_length d.certs
 have hfd:=h.certs.1
 (refine acalls_go ttOk zOk foOk Tryz.func75 rfl Tryz.ntmps75 rfl false rfl ?_);(conv=>whnf)
 refine (is_ok d.nodes).mono ?_
 rintro _ _ ⟨rfl,rfl⟩
 cases hn:isN d.nodes with
 | false =>
   conv=>whnf
   exact outM_no d
 | true =>
   have hnn:=of_decide_eq_true hn
   conv=>whnf
   refine rdw ?_;repeat' ((with_reducible apply tw)<;>intro _)
   ·exact outM_no d
   ·exact outM_no d
   ·exact outM_no d
   ·rename_i h1 h2 h3
    refine loop_go ttOk zOk foOk (σ:=Nat) (mayS d) (fun j=>j≤d.certs.length∧mayD d j) (fun j=>d.certs.length - j) [1,3,30,31,32] ?_ ?_
    ·conv=>whnf
     exact ⟨0,by rw [hcl];rfl,rfl,Nat.zero_le _,by simp,by simp [sortedC],by simp,by simp⟩
    ·rintro j ⟨hj,hinv⟩
     conv=>whnf
     refine rdw ?_;repeat' ((with_reducible apply tw)<;>intro _)
     ·rename_i hjl
      have hjn:j<d.certs.length:=Int.ofNat_lt.1 hjl
      refine Exists.elim (⟨_,List.getElem?_eq_getElem hjn⟩:∃ c,d.certs[j]? = some c) fun c hc => ?_
      have hcm:=List.mem_of_getElem? hc
      have hfl:=ok_fewL (h.certs.2 c hcm)
      have hpl:=nums_length c.pars
      have hmc:=mayCert_ok c hfl d.nodes
      refine ⟨by omega,c.cs,certsD_at hc,?_⟩
      conv=>whnf
      refine rdw ?_;repeat' ((with_reducible apply tw)<;>intro _)
      ((with_reducible refine draw_pl ttOk zOk foOk mixedOk pl75x7 ?_ ?_);(focus kernel_rfl);(conv=>whnf))
      refine rdw ?_;repeat' ((with_reducible apply tw)<;>intro _)
      refine hmc.mono ?_
      rintro _ _ ⟨rfl,rfl⟩
      by_cases hok:okCert d.nodes c
      ·rw [@decide_eq_true _ (Classical.propDecidable _) hok]
       have hrb:=hok.head.round
       have hau:=hok.head.author
       conv=>whnf
       refine rdw ?_;repeat' ((with_reducible apply tw)<;>intro _)
       ·exact outM_no d
       ·rename_i hab
        replace hab:d.low<c.round:=by omega
        refine Exists.elim (mapP_look c.digest (seenP (d.certs.take j))) fun q hq => ?_
        have hq1:=hq.1
        refine hq.2.elim (fun hv=>Exists.elim hv fun v hv=>Exists.elim hv.2 fun i hqe => ?_) fun hn2 => ?_
        ·rw [hqe] at hq1
         have hvp:v>0:=Exists.elim (seen_some hv.1) fun c' k=>by
          have:=(hinv.ok c' k.1).1.head.round
          have:=k.2.2
          omega
         ((with_reducible apply rd_intro);(focus (intro K hK;(conv=>whnf);exact ⟨_,hq1,hK⟩));(conv=>whnf))
         refine rdw ?_;repeat' ((with_reducible apply tw)<;>intro _)
         ·exact outM_no d
         ·exfalso;omega
         ·exfalso;omega
        ·have hfr:=hn2.1
         rw [hn2.2] at hq1
         ((with_reducible apply rd_intro);(focus (intro K hK;(conv=>whnf);exact ⟨_,hq1,hK⟩));(conv=>whnf))
         refine rdw ?_;repeat' ((with_reducible apply tw)<;>intro _)
         ·rename_i hj0
          refine Exists.elim (⟨_,List.getElem?_eq_getElem (show j - 1<d.certs.length by omega)⟩:∃ c,d.certs[j - 1]? = some c) fun c0 hc0 => ?_
          have hc0m:c0∈d.certs.take j:=List.mem_take_iff_getElem.2 ⟨j - 1,by omega,(List.getElem?_eq_some_iff.1 hc0).2⟩
          have hok0:=(hinv.ok c0 hc0m).1
          have hrb0:=hok0.head.round
          have hau0:=hok0.head.author
          have hft:isF c.round∧isF c.author:=⟨⟨by omega,by omega⟩,⟨by omega,by omega⟩⟩
          have hft0:isF c0.round∧isF c0.author:=⟨⟨by omega,by omega⟩,⟨by omega,by omega⟩⟩
          have hpl1:=placeLess_ok hft0.1 hft0.2 hft.1 hft.2
          ((with_reducible apply rd_intro);(focus (intro K hK;(conv=>whnf);exact ⟨by omega,c0.cs,(by rw [show ((j:Int) - 1).toNat=j - 1 by omega];exact certsD_at hc0),hK⟩));(conv=>whnf))
          refine rdw ?_;repeat' ((with_reducible apply tw)<;>intro _)
          refine (dagPlace_ok c0).mono ?_
          rintro _ _ ⟨rfl,rfl⟩
          conv=>whnf
          refine rdw ?_;repeat' ((with_reducible apply tw)<;>intro _)
          refine (dagPlace_ok c).mono ?_
          rintro _ _ ⟨rfl,rfl⟩
          conv=>whnf
          refine rdw ?_;repeat' ((with_reducible apply tw)<;>intro _)
          refine hpl1.mono ?_
          rintro _ _ ⟨rfl,rfl⟩
          by_cases hb:c0.before c.round c.author=true
          ·rw [show decide (c0.round<c.round∨c0.round=c.round∧c0.author<c.author)=true from hb]
           have h4:∀ c0,0<j→d.certs[j - 1]? = some c0→c0.before c.round c.author=true:=by
            intro c1 _ hc1
            rw [hc0] at hc1;cases hc1;exact hb
           conv=>whnf
           refine rdw ?_;repeat' ((with_reducible apply tw)<;>intro _)
           refine loop_go ttOk zOk foOk (σ:=Nat) (mayI d j c) (fun m=>m≤c.pars.length∧(c.round>d.low+1→∀ x∈c.pars.take m,∃ c'∈d.certs.take j,c'.digest=x∧c'.round=c.round - 1)) (fun m=>c.pars.length - m) [1,3,5,30,31,32,76,77,78] ?_ ?_
           ·conv=>whnf
            exact ⟨0,by rw [hpl];rfl,rfl,Nat.zero_le _,by simp⟩
           ·rintro m ⟨hm,hall⟩
            conv=>whnf
            refine rdw ?_;repeat' ((with_reducible apply tw)<;>intro _)
            ·rename_i hml
             have hmn:m<c.pars.length:=Int.ofNat_lt.1 hml
             have hpf:=hfl.pars
             unfold few at hpf
             refine Exists.elim (⟨_,List.getElem?_eq_getElem hmn⟩:∃ x,c.pars[m]? = some x) fun x hx => ?_
             refine ⟨by omega,[.int .i64 x],nums_at hx,?_⟩
             conv=>whnf
             refine rdw ?_;repeat' ((with_reducible apply tw)<;>intro _)
             ·rename_i hrl
              refine Exists.elim (mapP_look x (seenP (d.certs.take j))) fun q hq => ?_
              have hq1:=hq.1
              refine hq.2.elim (fun hv=>Exists.elim hv fun v hv=>Exists.elim hv.2 fun i hqe => ?_) fun hn => ?_
              ·rw [hqe] at hq1
               refine ⟨_,hq1,?_⟩
               conv=>whnf
               refine rdw ?_;repeat' ((with_reducible apply tw)<;>intro _)
               ·exact outM_no d
               ·rename_i hve
                refine ⟨m+1,rfl,rfl,⟨by omega,fun hr y hy => ?_⟩,by omega⟩
                rw [take_snoc hx] at hy
                rcases List.mem_append.1 hy with hy|hy
                ·exact hall hr y hy
                ·simp at hy
                 obtain ⟨c',k1,k2,k3⟩:=seen_some hv.1
                 exact ⟨c',k1,by rw [k2,hy],by rw [k3];exact hve⟩
              ·rw [hn.2] at hq1
               refine ⟨_,hq1,?_⟩
               conv=>whnf
               refine rdw ?_;repeat' ((with_reducible apply tw)<;>intro _)
               ·exact outM_no d
               ·rename_i hve
                exfalso
                omega
             ·rename_i hrl
              exact ⟨m+1,rfl,rfl,⟨by omega,fun hr=>absurd hr hrl⟩,by omega⟩
            ·rename_i hml
             rw [List.take_of_length_le (by omega)] at hall
             refine Exists.elim (mapP_new (v:=c.round) hfr) fun q hq => ?_
             refine ⟨q,hq.1,?_⟩
             have hnew:mputAt (mapP (seenP (d.certs.take j))) q (.one (.int .i64 c.digest)) (.v (.one (.int .i64 c.round)))=mapP (seenP (d.certs.take (j+1))):=by
              rw [hq.2,List.take_add_one,hc];simp [seenP]
             rw [hnew]
             conv=>whnf
             refine rdw ?_;repeat' ((with_reducible apply tw)<;>intro _)
             exact ⟨j+1,rfl,rfl,⟨by omega,hinv.next hc hok hab hall h4 (seen_none hfr)⟩,by omega⟩
          ·rw [show decide (c0.round<c.round∨c0.round=c.round∧c0.author<c.author)=false from by simpa [Cert.before] using hb]
           conv=>whnf
           refine rdw ?_;repeat' ((with_reducible apply tw)<;>intro _)
           exact outM_no d
         ·rename_i hj0
          have h4:∀ c0,0<j→d.certs[j - 1]? = some c0→c0.before c.round c.author=true:=by
           intro c1 h _
           omega
          refine loop_go ttOk zOk foOk (σ:=Nat) (mayI d j c) (fun m=>m≤c.pars.length∧(c.round>d.low+1→∀ x∈c.pars.take m,∃ c'∈d.certs.take j,c'.digest=x∧c'.round=c.round - 1)) (fun m=>c.pars.length - m) [1,3,5,30,31,32,76,77,78] ?_ ?_
          ·conv=>whnf
           exact ⟨0,by rw [hpl];rfl,rfl,Nat.zero_le _,by simp⟩
          ·rintro m ⟨hm,hall⟩
           conv=>whnf
           refine rdw ?_;repeat' ((with_reducible apply tw)<;>intro _)
           ·rename_i hml
            have hmn:m<c.pars.length:=Int.ofNat_lt.1 hml
            have hpf:=hfl.pars
            unfold few at hpf
            refine Exists.elim (⟨_,List.getElem?_eq_getElem hmn⟩:∃ x,c.pars[m]? = some x) fun x hx => ?_
            refine ⟨by omega,[.int .i64 x],nums_at hx,?_⟩
            conv=>whnf
            refine rdw ?_;repeat' ((with_reducible apply tw)<;>intro _)
            ·rename_i hrl
             refine Exists.elim (mapP_look x (seenP (d.certs.take j))) fun q hq => ?_
             have hq1:=hq.1
             refine hq.2.elim (fun hv=>Exists.elim hv fun v hv=>Exists.elim hv.2 fun i hqe => ?_) fun hn => ?_
             ·rw [hqe] at hq1
              refine ⟨_,hq1,?_⟩
              conv=>whnf
              refine rdw ?_;repeat' ((with_reducible apply tw)<;>intro _)
              ·exact outM_no d
              ·rename_i hve
               refine ⟨m+1,rfl,rfl,⟨by omega,fun hr y hy => ?_⟩,by omega⟩
               rw [take_snoc hx] at hy
               rcases List.mem_append.1 hy with hy|hy
               ·exact hall hr y hy
               ·simp at hy
                obtain ⟨c',k1,k2,k3⟩:=seen_some hv.1
                exact ⟨c',k1,by rw [k2,hy],by rw [k3];exact hve⟩
             ·rw [hn.2] at hq1
              refine ⟨_,hq1,?_⟩
              conv=>whnf
              refine rdw ?_;repeat' ((with_reducible apply tw)<;>intro _)
              ·exact outM_no d
              ·rename_i hve
               exfalso
               omega
            ·rename_i hrl
             exact ⟨m+1,rfl,rfl,⟨by omega,fun hr=>absurd hr hrl⟩,by omega⟩
           ·rename_i hml
            rw [List.take_of_length_le (by omega)] at hall
            refine Exists.elim (mapP_new (v:=c.round) hfr) fun q hq => ?_
            refine ⟨q,hq.1,?_⟩
            have hnew:mputAt (mapP (seenP (d.certs.take j))) q (.one (.int .i64 c.digest)) (.v (.one (.int .i64 c.round)))=mapP (seenP (d.certs.take (j+1))):=by
             rw [hq.2,List.take_add_one,hc];simp [seenP]
            rw [hnew]
            conv=>whnf
            refine rdw ?_;repeat' ((with_reducible apply tw)<;>intro _)
            exact ⟨j+1,rfl,rfl,⟨by omega,hinv.next hc hok hab hall h4 (seen_none hfr)⟩,by omega⟩
      ·rw [@decide_eq_false _ (Classical.propDecidable _) hok]
       conv=>whnf
       refine rdw ?_;repeat' ((with_reducible apply tw)<;>intro _)
       exact outM_no d
     ·rename_i hjl
      have:j=d.certs.length:=by omega
      subst this
      exact ⟨⟨_,rfl,fun _=>hinv.valid hn ⟨by omega,by omega⟩ (by omega)⟩,rfl⟩
theorem dagMay_full (d:Dag) (h:d.ok):ACalls Tryz.prog 75 [d.av] [] (fun av L=>av = .d (.bool (isV d))∧L=[]):=by
 by_cases hv:Valid d
 ·rw [isV_yes hv];exact dagMay_ok d hv
 ·rw [isV_no hv]
  refine (dagMay_any d h).mono ?_
  rintro _ _ ⟨⟨b,rfl,hb⟩,rfl⟩
  cases b with
  | true=>exact absurd (hb rfl) hv
  | false=>exact ⟨rfl,rfl⟩
theorem Valid.lacks {d:Dag} (h:Valid d) {c:Cert} (hc:c∈d.certs):lacksI d c=[]:=by
 unfold lacksI
 split
 ·rfl
 ·rename_i hr
  refine List.filter_eq_nil_iff.2 fun x hx => ?_
  obtain ⟨c',k1,k2,k3⟩:=h.here c hc (by omega) x hx
  unfold lackB
  rw [← k2,certOf_mem h.dig k1]
  simp [k3]
theorem before_take3 {d:Dag} (h:Valid d) {j:Nat} {c:Cert} (hc:d.certs[j]? = some c):(∀ y∈d.certs.take j,y.before c.round c.author=true)∧(∀ y∈d.certs.take j,y.digest≠c.digest):=by
 obtain ⟨hj,rfl⟩:=List.getElem?_eq_some_iff.1 hc
 refine ⟨fun y hy => ?_,fun y hy e => ?_⟩
 ·obtain ⟨i,hi,rfl⟩:=List.mem_take_iff_getElem.1 hy
  exact List.pairwise_iff_getElem.1 h.sorted i j (by omega) hj (by omega)
 ·obtain ⟨i,hi,rfl⟩:=List.mem_take_iff_getElem.1 hy
  have:=List.pairwise_iff_getElem.1 h.dig i j (by simp;omega) (by simp;omega) (by omega)
  simp at this
  exact this e
set_option maxHeartbeats 2000000 in
theorem rMayDag_true (d:Dag) (h:Valid d):ACalls Tryz.prog 33 [d.av] [] (fun av L=>av = .d (.bool true)∧L=[]):=by
 have hcl:=certsD_length d.certs
 have hlow:=h.low
 have hlen:=h.len
 have hnn:=of_decide_eq_true h.nodes
 have hfd:few d.certs:=by unfold few;omega
 (refine acalls_go ttOk zOk foOk Tryz.func33 rfl Tryz.ntmps33 rfl false rfl ?_);(conv=>whnf)
 refine (rMay_ok d.nodes).mono ?_
 rintro _ _ ⟨rfl,rfl⟩
 rw [h.nodes]
 conv=>whnf
 refine rdw ?_;repeat' ((with_reducible apply tw)<;>intro _)
 ·exfalso;omega
 ·exfalso;omega
 ·exfalso;omega
 ·refine loop_go ttOk zOk foOk (σ:=Nat) (fun j=>([(1,.ptr 0 0),(3,.d (.int .i64 j))],[.cells d.cells])) (fun j=>j≤d.certs.length) (fun j=>d.certs.length - j) [1,3] ?_ ?_
  ·conv=>whnf
   exact ⟨0,rfl,rfl,Nat.zero_le _⟩
  ·intro j hj
   conv=>whnf
   refine rdw ?_;repeat' ((with_reducible apply tw)<;>intro _)
   ·rename_i hjl
    have hjn:j<d.certs.length:=by omega
    refine Exists.elim (⟨_,List.getElem?_eq_getElem hjn⟩:∃ c,d.certs[j]? = some c) fun c hc => ?_
    have hcm:=List.mem_of_getElem? hc
    have hcok:=h.certs c hcm
    have hlo:=h.above c hcm
    refine ⟨by omega,c.cs,certsD_at hc,?_⟩
    conv=>whnf
    refine rdw ?_;repeat' ((with_reducible apply tw)<;>intro _)
    refine (rCert_ok c (h.fewL hcm) d.nodes).mono ?_
    rintro _ _ ⟨rfl,rfl⟩
    rw [@decide_eq_true _ (Classical.propDecidable _) hcok]
    conv=>whnf
    refine rdw ?_;repeat' ((with_reducible apply tw)<;>intro _)
    ·exfalso;omega
    ·rename_i hlow hj0
     have hj0':0<j:=by omega
     refine Exists.elim (⟨_,List.getElem?_eq_getElem (show j - 1<d.certs.length by omega)⟩:∃ c,d.certs[j - 1]? = some c) fun c0 hc0 => ?_
     have hb:c0.before c.round c.author=true:=(before_take3 h hc).1 c0 (List.mem_take_iff_getElem.2 ⟨j - 1,by omega,(List.getElem?_eq_some_iff.1 hc0).2⟩)
     refine ⟨by omega,c0.cs,(by rw [show ((j:Int) - 1).toNat=j - 1 by omega];exact certsD_at hc0),?_⟩
     conv=>whnf
     refine rdw ?_;repeat' ((with_reducible apply tw)<;>intro _)
     refine (rBefore_ok c0.round c0.author c.round c.author).mono ?_
     rintro _ _ ⟨rfl,rfl⟩
     rw [show decide (c0.round<c.round∨c0.round=c.round∧c0.author<c.author)=true from hb]
     conv=>whnf
     refine loop_go ttOk zOk foOk (σ:=Nat) (fun k=>([(1,.ptr 0 0),(3,.d (.int .i64 j)),(4,.ptr 1 0),(6,.d (.int .i64 k))],[.cells d.cells,.cells c.cells])) (fun k=>k≤j) (fun k=>j - k) [1,3,4,6] ?_ ?_
     ·conv=>whnf
      exact ⟨0,rfl,rfl,by omega⟩
     ·intro k hkj
      conv=>whnf
      refine rdw ?_;repeat' ((with_reducible apply tw)<;>intro _)
      ·rename_i hkl
       have hkn:k<j:=Int.ofNat_lt.1 hkl
       refine Exists.elim (⟨_,List.getElem?_eq_getElem (by omega)⟩:∃ c,d.certs[k]? = some c) fun c1 hc1 => ?_
       have hne:c1.digest≠c.digest:=(before_take3 h hc).2 c1 (List.mem_take_iff_getElem.2 ⟨k,by omega,(List.getElem?_eq_some_iff.1 hc1).2⟩)
       ((with_reducible refine draw_pl ttOk zOk foOk mixedOk pl33x16 ?_ ?_);(focus kernel_rfl);(conv=>whnf))
       refine rdw ?_;repeat' ((with_reducible apply tw)<;>intro _)
       ((with_reducible apply rd_intro);(focus (intro K hK;(conv=>whnf);exact ⟨by omega,c1.cs,certsD_at hc1,hK⟩));(conv=>whnf))
       refine rdw ?_;repeat' ((with_reducible apply tw)<;>intro _)
       ·rename_i he;exact absurd he hne
       ·exact ⟨k+1,rfl,rfl,by omega,by omega⟩
      ·rename_i hkl
       have hkj:k=j:=by omega
       subst hkj
       refine (rLacks_ok d hfd c (by have:=hcok.head.pars.1;omega) hcok.head.round).mono ?_
       rintro _ _ ⟨rfl,rfl⟩
       rw [h.lacks hcm]
       conv=>whnf
       refine rdw ?_;repeat' ((with_reducible apply tw)<;>intro _)
       exact ⟨k+1,rfl,rfl,by omega,by omega⟩
    ·rename_i hlow hj0
     refine loop_go ttOk zOk foOk (σ:=Nat) (fun k=>([(1,.ptr 0 0),(3,.d (.int .i64 j)),(4,.ptr 1 0),(6,.d (.int .i64 k))],[.cells d.cells,.cells c.cells])) (fun k=>k≤j) (fun k=>j - k) [1,3,4,6] ?_ ?_
     ·conv=>whnf
      exact ⟨0,rfl,rfl,by omega⟩
     ·intro k hkj
      conv=>whnf
      refine rdw ?_;repeat' ((with_reducible apply tw)<;>intro _)
      ·rename_i hkl
       have hkn:k<j:=Int.ofNat_lt.1 hkl
       refine Exists.elim (⟨_,List.getElem?_eq_getElem (by omega)⟩:∃ c,d.certs[k]? = some c) fun c1 hc1 => ?_
       have hne:c1.digest≠c.digest:=(before_take3 h hc).2 c1 (List.mem_take_iff_getElem.2 ⟨k,by omega,(List.getElem?_eq_some_iff.1 hc1).2⟩)
       ((with_reducible refine draw_pl ttOk zOk foOk mixedOk pl33x16 ?_ ?_);(focus kernel_rfl);(conv=>whnf))
       refine rdw ?_;repeat' ((with_reducible apply tw)<;>intro _)
       ((with_reducible apply rd_intro);(focus (intro K hK;(conv=>whnf);exact ⟨by omega,c1.cs,certsD_at hc1,hK⟩));(conv=>whnf))
       refine rdw ?_;repeat' ((with_reducible apply tw)<;>intro _)
       ·rename_i he;exact absurd he hne
       ·exact ⟨k+1,rfl,rfl,by omega,by omega⟩
      ·rename_i hkl
       have hkj:k=j:=by omega
       subst hkj
       refine (rLacks_ok d hfd c (by have:=hcok.head.pars.1;omega) hcok.head.round).mono ?_
       rintro _ _ ⟨rfl,rfl⟩
       rw [h.lacks hcm]
       conv=>whnf
       refine rdw ?_;repeat' ((with_reducible apply tw)<;>intro _)
       exact ⟨k+1,rfl,rfl,by omega,by omega⟩
   ·exact ⟨rfl,rfl⟩
theorem rMayDag_full (d:Dag) (h:d.ok):ACalls Tryz.prog 33 [d.av] [] (fun av L=>av = .d (.bool (isV d))∧L=[]):=by
 by_cases hv:Valid d
 ·rw [isV_yes hv];exact rMayDag_true d hv
 ·rw [isV_no hv]
  refine (rMayDag_ok d h).mono ?_
  rintro _ _ ⟨⟨b,rfl,hb⟩,rfl⟩
  cases b with
  | true=>exact absurd (hb rfl) hv
  | false=>exact ⟨rfl,rfl⟩
end Go.Proofs.YtolkmjfkkkiboaaGreat
