/- AuditDags: contracts. -/
import Derived.Test.YtodimgkpjnpbiaaGreatAuditDagsCodE
set_option linter.unusedVariables false
set_option linter.unusedSimpArgs false
namespace Go.Proofs.YtodimgkpjnpbiaaGreat
open Go.Ab Go.RowKit Go.MapKept
attribute [local irreducible] ACalls AW ADraw Into fltB fnear
set_option maxRecDepth 100000
theorem lackB_eq {d:Dag} (h:Valid d) (r x:Int):lackB d r x = !(ofR d.certs (r - 1)).any fun y=>y.digest == x:=by
 unfold lackB
 cases hc:certOf d x with
 | none =>
   have:((ofR d.certs (r - 1)).any fun y=>y.digest == x)=false:=by
    rw [List.any_eq_false]
    intro y hy e
    have hy':=(List.mem_filter.1 hy).1
    unfold certOf at hc
    cases hg:getC d.certs x with
    | none =>
      unfold getC at hg
      rw [List.findIdx?_eq_none_iff] at hg
      have:=hg y hy'
      simp at this e
      exact this e
    | some i =>
      rw [hg] at hc
      have hlt:i<d.certs.length:=by
       unfold getC at hg
       exact (List.findIdx?_eq_some_iff_getElem.1 hg).1
      simp only [Option.bind_some] at hc
      rw [List.getElem?_eq_getElem hlt] at hc
      cases hc
   rw [this];rfl
 | some c =>
   obtain ⟨i,hg,hi⟩:∃ i,getC d.certs x=some i∧d.certs[i]? = some c:=by
    unfold certOf at hc
    cases hg:getC d.certs x with
    | none=>rw [hg] at hc;cases hc
    | some i=>rw [hg] at hc;exact ⟨i,rfl,hc⟩
   have hcx:c.digest=x:=by
    unfold getC at hg
    obtain ⟨h1,h2,_⟩:=List.findIdx?_eq_some_iff_getElem.1 hg
    rw [List.getElem?_eq_getElem h1] at hi
    cases hi
    simpa using h2
   by_cases hr:c.round=r - 1
   ·have:((ofR d.certs (r - 1)).any fun y=>y.digest == x)=true:=by
     rw [List.any_eq_true]
     exact ⟨c,List.mem_filter.2 ⟨List.mem_of_getElem? hi,by simpa using hr⟩,by simpa using hcx⟩
    rw [this];simp [hr]
   ·have:((ofR d.certs (r - 1)).any fun y=>y.digest == x)=false:=by
     rw [List.any_eq_false]
     intro y hy e
     obtain ⟨hy1,hy2⟩:=List.mem_filter.1 hy
     have e2:y.digest=x:=by simpa using e
     have:y=c:=by
      obtain ⟨j,hj⟩:=List.getElem?_of_mem hy1
      have hnd:=h.dig
      have e1:(d.certs.map (·.digest))[j]? = some x:=by rw [List.getElem?_map,hj];simp [e2]
      have e3:(d.certs.map (·.digest))[i]? = some x:=by rw [List.getElem?_map,hi];simp [hcx]
      have hjl:=(List.getElem?_eq_some_iff.1 e1).1
      have:=(List.getElem?_inj hjl hnd).1 (e1.trans e3.symm)
      subst this
      rw [hj] at hi;exact Option.some.inj hi
     subst this
     exact hr (of_decide_eq_true hy2)
    rw [this];simp [hr]
theorem lacks_lack {d:Dag} (h:Valid d) (c:Cert):lacksI d c=lackI d c:=by
 unfold lacksI lackI
 by_cases hr:c.round - 1≤d.low
 ·rw [if_pos hr,if_pos (by omega)]
 ·rw [if_neg hr,if_neg (by omega)]
  refine List.filter_congr fun x _ => ?_
  exact lackB_eq h c.round x
theorem at_of {d:Dag} (c:Cert):(atX d.certs c.round c.author=none∧atC d.certs c.round c.author=none)∨∃ i y,atX d.certs c.round c.author=some i∧d.certs[i]? = some y∧atC d.certs c.round c.author=some y:=by
 rw [atC_of]
 cases h:atX d.certs c.round c.author with
 | none=>exact .inl ⟨rfl,rfl⟩
 | some i =>
   unfold atX at h
   have hlt:=(List.findIdx?_eq_some_iff_getElem.1 h).1
   exact .inr ⟨i,_,rfl,List.getElem?_eq_getElem hlt,by simp [List.getElem?_eq_getElem hlt]⟩
theorem getC_any {l:List Cert} {x:Int} (h:getC l x=none):(l.any fun y=>y.digest == x)=false:=by
 unfold getC at h
 rw [List.findIdx?_eq_none_iff] at h
 rw [List.any_eq_false]
 intro y hy
 have:=h y hy
 simpa using this
theorem getC_any2 {l:List Cert} {x:Int} {i:Nat} (h:getC l x=some i):(l.any fun y=>y.digest == x)=true:=by
 unfold getC at h
 obtain ⟨h1,h2,_⟩:=List.findIdx?_eq_some_iff_getElem.1 h
 rw [List.any_eq_true]
 exact ⟨l[i],List.getElem_mem h1,by simpa using h2⟩
theorem getC_at {d:Dag} (h:Valid d) {x:Int} {i:Nat} {y:Cert} (hy:d.certs[i]? = some y):(getC d.certs x=some i↔y.digest=x):=by
 have hlt:=(List.getElem?_eq_some_iff.1 hy).1
 constructor
 ·intro hg
  unfold getC at hg
  obtain ⟨h1,h2,_⟩:=List.findIdx?_eq_some_iff_getElem.1 hg
  rw [List.getElem?_eq_getElem h1] at hy
  cases hy
  simpa using h2
 ·intro e
  unfold getC
  rw [List.findIdx?_eq_some_iff_getElem]
  refine ⟨hlt,?_,fun j hj => ?_⟩
  ·rw [List.getElem?_eq_getElem hlt] at hy
   cases hy
   simpa using e
  ·intro e2
   have e3:(d.certs.map (·.digest))[j]? = (d.certs.map (·.digest))[i]? := by
    rw [List.getElem?_map,List.getElem?_map,hy,List.getElem?_eq_getElem (by omega)]
    simp only [Option.map_some]
    rw [e]
    simpa using e2
   have:=(List.getElem?_inj (by simpa using (by omega:j<d.certs.length)) h.dig).1 e3
   omega
theorem rAdd_row (d:Dag) (h:Valid d) (c:Cert) (hct:c.tiny) (hfl:fewL c) (hok:okCert d.nodes c) :
  ACalls Tryz.prog 16 [d.av,c.av] [] (fun av L=>(putE d c≠0∧av = .tup [d.av,.d (.int .i64 (putE d c))]∧L=[])∨(putE d c=0∧av = .tup [.agg [.d (.int .i64 d.nodes),.d (.int .i64 d.low),.arr 0],.d (.int .i64 0)]∧L=[.row 47 6 (certsD (insC d c).certs) false])):=by
 have hcl:=certsD_length d.certs
 have hlen:=h.len
 have hfd:few d.certs:=by unfold few;omega
 have hlk:=rLacks_ok d hfd c (by have:=hct.pars;unfold tiny at this;omega) hok.head.round
 rw [lacks_lack h] at hlk
 (refine acalls_go ttOk zOk foOk Tryz.func16 rfl Tryz.ntmps16 rfl true rfl ?_);(conv=>whnf)
 refine (rCert_ok c hfl d.nodes).mono ?_
 rintro _ _ ⟨rfl,rfl⟩
 rw [@decide_eq_true _ (Classical.propDecidable _) hok]
 conv=>whnf
 refine rdw ?_;repeat' ((with_reducible apply tw)<;>intro _)
 ·rename_i hlow
  have e:putE d c=6:=by rw [putE,if_pos hlow]
  rw [e]
  exact .inl ⟨by decide,rfl,rfl⟩
 ·rename_i hlow
  refine (rAt_ok d hfd c.round c.author).mono ?_
  rintro _ _ ⟨rfl,rfl⟩
  conv=>whnf
  refine (rFind_ok d hfd c.digest).mono ?_
  rintro _ _ ⟨rfl,rfl⟩
  rcases at_of (d:=d) c with ⟨hx,hat⟩|⟨i,y,hx,hy,hat⟩
  ·rw [show atI d.certs c.round c.author = -1 by rw [atI,hx];rfl]
   cases hg:getC d.certs c.digest with
   | none =>
     rw [show getI d.certs c.digest = -1 by rw [getI,hg];rfl]
     conv=>whnf
     refine rdw ?_;repeat' ((with_reducible apply tw)<;>intro _)
     refine hlk.mono ?_
     rintro _ _ ⟨rfl,rfl⟩
     obtain ⟨lk,hlk2⟩:∃ lk,lackI d c=lk:=⟨_,rfl⟩
     rw [hlk2]
     cases lk with
     | cons z r =>
       have e:putE d c=7:=by rw [putE,if_neg hlow,hat];simp [getC_any hg,hlk2]
       conv=>whnf
       refine rdw ?_;repeat' ((with_reducible apply tw)<;>intro _)
       ·rw [e]
        exact .inl ⟨by decide,rfl,rfl⟩
       ·rename_i hx
        exact absurd (by show ((0:Int)<((nums (z :: r)).length:Int));rw [nums_length];simp) hx
     | nil =>
       have e:putE d c=0:=by rw [putE,if_neg hlow,hat];simp [getC_any hg,hlk2]
       conv=>whnf
       refine rdw ?_;repeat' ((with_reducible apply tw)<;>intro _)
       have hle:=pos_le d.certs c.round c.author
       refine loop_go ttOk zOk foOk (σ:=Nat) (fun j=>([(2,.ptr 0 0),(3,.ptr 1 0),(4,.ptr 2 0),(8,.d (.int .i64 j))],[.cells d.cells,.cells c.cells,.cells [.d (.int .i64 0),.d (.int .i64 0),.d .nils]])) (fun j=>j≤pos d.certs c.round c.author) (fun j=>d.certs.length - j) [2,3,4,8] ?_ ?_
       ·conv=>whnf
        exact ⟨0,rfl,rfl,Nat.zero_le _⟩
       ·intro j hj
        conv=>whnf
        ((with_reducible refine draw_pl ttOk zOk foOk mixedOk pl16x14 ?_ ?_);(focus kernel_rfl);(conv=>whnf))
        refine rdw ?_;repeat' ((with_reducible apply tw)<;>intro _)
        ·rename_i hjl
         refine Exists.elim (⟨_,List.getElem?_eq_getElem (by omega)⟩:∃ y,d.certs[j]? = some y) fun y hy => ?_
         have hb:=pos_iff (r:=c.round) (a:=c.author) h.sorted hy
         ((with_reducible apply rd_intro);(focus (intro K hK;(conv=>whnf);exact ⟨by omega,y.cs,certsD_at hy,hK⟩));(conv=>whnf))
         refine rdw ?_;repeat' ((with_reducible apply tw)<;>intro _)
         ((with_reducible apply rd_intro);(focus (intro K hK;(conv=>whnf);exact ⟨by omega,y.cs,certsD_at hy,hK⟩));(conv=>whnf))
         refine rdw ?_;repeat' ((with_reducible apply tw)<;>intro _)
         refine (rBefore_ok y.round y.author c.round c.author).mono ?_
         rintro _ _ ⟨rfl,rfl⟩
         rw [show decide (y.round<c.round∨y.round=c.round∧y.author<c.author)=y.before c.round c.author from rfl]
         cases hbb:y.before c.round c.author with
         | true =>
           conv=>whnf
           refine rdw ?_;repeat' ((with_reducible apply tw)<;>intro _)
           exact ⟨j+1,rfl,rfl,by have:=hb.1 hbb;omega,by omega⟩
         | false =>
           have hje:j=pos d.certs c.round c.author:=by
            rcases Nat.lt_or_ge j (pos d.certs c.round c.author) with h4|h4
            ·rw [hb.2 h4] at hbb;cases hbb
            ·omega
           conv=>whnf
           refine rdw ?_;repeat' ((with_reducible apply tw)<;>intro _)
           subst hje
           clear hj
           obtain ⟨P,hP⟩:∃ P,pos d.certs c.round c.author=P:=⟨_,rfl⟩
           have hins:(insC d c).certs=d.certs.take P++c :: d.certs.drop P:=by rw [← hP];rfl
           rw [hP] at hle
           rw [hP,hins]
           have hcp1:=copyCerts_row (d.certs.take P) (by unfold tiny;simp;omega) (fun c hc=>h.tiny.2 c (List.mem_of_mem_take hc))
           have hcp2:=copyCerts_ok (d.certs.drop P) (by unfold tiny;simp;omega) (fun c hc=>h.tiny.2 c (List.mem_of_mem_drop hc))
           have hs1:List.drop (Int.toNat 0) (List.take ((P:Int)).toNat (certsD d.certs))=certsD (d.certs.take P):=by
            rw [show (Int.toNat 0)=0 from rfl,List.drop_zero,show ((P:Int)).toNat=P from rfl]
            simp [certsD]
           have hs2:List.drop ((P:Int)).toNat (List.take ((certsD d.certs).length:Int).toNat (certsD d.certs))=certsD (d.certs.drop P):=by
            rw [show ((P:Int)).toNat=P from rfl,show ((certsD d.certs).length:Int).toNat=(certsD d.certs).length from rfl,List.take_length]
            simp [certsD]
           have hl1:=certsD_length (d.certs.take P)
           have hl2:=certsD_length (d.certs.drop P)
           have hl3:(d.certs.take P).length≤65536:=Nat.le_trans (List.length_take_le' ..) hlen
           have hl4:(d.certs.drop P).length≤65536:=by rw [List.length_drop];omega
           ((with_reducible refine draw_pl ttOk zOk foOk mixedOk pl16x17 ?_ ?_);(focus kernel_rfl);(conv=>whnf))
           refine rdw ?_;repeat' ((with_reducible apply tw)<;>intro _)
           ((with_reducible apply rd_intro);(focus (intro K hK;(conv=>whnf);exact ⟨by omega,by omega,by omega,hK⟩));(conv=>whnf))
           refine rdw ?_;repeat' ((with_reducible apply tw)<;>intro _)
           rw [hs1]
           refine hcp1.mono ?_
           rintro _ _ ⟨rfl,rfl⟩
           conv=>whnf
           refine rdw ?_;repeat' ((with_reducible apply tw)<;>intro _)
           refine (copyCert_ok c hct).mono ?_
           rintro _ _ ⟨rfl,rfl⟩
           conv=>whnf
           refine rdw ?_;repeat' ((with_reducible apply tw)<;>intro _)
           refine ⟨by simp;omega,?_⟩
           conv=>whnf
           refine rdw ?_;repeat' ((with_reducible apply tw)<;>intro _)
           ((with_reducible refine draw_pl ttOk zOk foOk mixedOk pl16x18 ?_ ?_);(focus kernel_rfl);(conv=>whnf))
           refine rdw ?_;repeat' ((with_reducible apply tw)<;>intro _)
           ((with_reducible apply rd_intro);(focus (intro K hK;(conv=>whnf);exact ⟨by omega,by omega,by omega,hK⟩));(conv=>whnf))
           refine rdw ?_;repeat' ((with_reducible apply tw)<;>intro _)
           rw [hs2]
           refine hcp2.mono ?_
           rintro _ _ ⟨rfl,rfl⟩
           conv=>whnf
           refine rdw ?_;repeat' ((with_reducible apply tw)<;>intro _)
           refine ⟨by simp [certsD];omega,?_⟩
           conv=>whnf
           refine rdw ?_;repeat' ((with_reducible apply tw)<;>intro _)
           refine .inr ⟨e,rfl,?_⟩
           simp [certsD,Cert.cs]
        ·rename_i hjl
         have hje:j=pos d.certs c.round c.author:=by omega
         subst hje
         clear hj
         obtain ⟨P,hP⟩:∃ P,pos d.certs c.round c.author=P:=⟨_,rfl⟩
         have hins:(insC d c).certs=d.certs.take P++c :: d.certs.drop P:=by rw [← hP];rfl
         rw [hP] at hle
         rw [hP,hins]
         have hcp1:=copyCerts_row (d.certs.take P) (by unfold tiny;simp;omega) (fun c hc=>h.tiny.2 c (List.mem_of_mem_take hc))
         have hcp2:=copyCerts_ok (d.certs.drop P) (by unfold tiny;simp;omega) (fun c hc=>h.tiny.2 c (List.mem_of_mem_drop hc))
         have hs1:List.drop (Int.toNat 0) (List.take ((P:Int)).toNat (certsD d.certs))=certsD (d.certs.take P):=by
          rw [show (Int.toNat 0)=0 from rfl,List.drop_zero,show ((P:Int)).toNat=P from rfl]
          simp [certsD]
         have hs2:List.drop ((P:Int)).toNat (List.take ((certsD d.certs).length:Int).toNat (certsD d.certs))=certsD (d.certs.drop P):=by
          rw [show ((P:Int)).toNat=P from rfl,show ((certsD d.certs).length:Int).toNat=(certsD d.certs).length from rfl,List.take_length]
          simp [certsD]
         have hl1:=certsD_length (d.certs.take P)
         have hl2:=certsD_length (d.certs.drop P)
         have hl3:(d.certs.take P).length≤65536:=Nat.le_trans (List.length_take_le' ..) hlen
         have hl4:(d.certs.drop P).length≤65536:=by rw [List.length_drop];omega
         ((with_reducible refine draw_pl ttOk zOk foOk mixedOk pl16x17 ?_ ?_);(focus kernel_rfl);(conv=>whnf))
         refine rdw ?_;repeat' ((with_reducible apply tw)<;>intro _)
         ((with_reducible apply rd_intro);(focus (intro K hK;(conv=>whnf);exact ⟨by omega,by omega,by omega,hK⟩));(conv=>whnf))
         refine rdw ?_;repeat' ((with_reducible apply tw)<;>intro _)
         rw [hs1]
         refine hcp1.mono ?_
         rintro _ _ ⟨rfl,rfl⟩
         conv=>whnf
         refine rdw ?_;repeat' ((with_reducible apply tw)<;>intro _)
         refine (copyCert_ok c hct).mono ?_
         rintro _ _ ⟨rfl,rfl⟩
         conv=>whnf
         refine rdw ?_;repeat' ((with_reducible apply tw)<;>intro _)
         refine ⟨by simp;omega,?_⟩
         conv=>whnf
         refine rdw ?_;repeat' ((with_reducible apply tw)<;>intro _)
         ((with_reducible refine draw_pl ttOk zOk foOk mixedOk pl16x18 ?_ ?_);(focus kernel_rfl);(conv=>whnf))
         refine rdw ?_;repeat' ((with_reducible apply tw)<;>intro _)
         ((with_reducible apply rd_intro);(focus (intro K hK;(conv=>whnf);exact ⟨by omega,by omega,by omega,hK⟩));(conv=>whnf))
         refine rdw ?_;repeat' ((with_reducible apply tw)<;>intro _)
         rw [hs2]
         refine hcp2.mono ?_
         rintro _ _ ⟨rfl,rfl⟩
         conv=>whnf
         refine rdw ?_;repeat' ((with_reducible apply tw)<;>intro _)
         refine ⟨by simp [certsD];omega,?_⟩
         conv=>whnf
         refine rdw ?_;repeat' ((with_reducible apply tw)<;>intro _)
         refine .inr ⟨e,rfl,?_⟩
         simp [certsD,Cert.cs]
   | some k =>
     rw [show getI d.certs c.digest=k by rw [getI,hg];rfl]
     have e:putE d c=5:=by rw [putE,if_neg hlow,hat];simp [getC_any2 hg]
     conv=>whnf
     refine rdw ?_;repeat' ((with_reducible apply tw)<;>intro _)
     rw [e]
     exact .inl ⟨by decide,rfl,rfl⟩
  ·have hgi:=getC_at h (x:=c.digest) hy
   rw [show atI d.certs c.round c.author=i by rw [atI,hx];rfl]
   conv=>whnf
   refine rdw ?_;repeat' ((with_reducible apply tw)<;>intro _)
   ·rename_i hab
    have hab':getC d.certs c.digest=some i:=by
     cases hg:getC d.certs c.digest with
     | none=>rw [getI,hg] at hab;exact absurd hab (by show ¬((i:Int) = -1);omega)
     | some k=>rw [getI,hg] at hab;rw [show i=k from Int.ofNat_inj.1 hab]
    have e:putE d c=4:=by rw [putE,if_neg hlow,hat];simp [hgi.1 hab']
    rw [e]
    exact .inl ⟨by decide,rfl,rfl⟩
   ·rename_i hab
    have hne:y.digest≠c.digest:=fun h5=>hab (by rw [getI,hgi.2 h5];rfl)
    have e:putE d c=5:=by rw [putE,if_neg hlow,hat];simp [hne]
    rw [e]
    exact .inl ⟨by decide,rfl,rfl⟩
theorem rAdd_ok (d:Dag) (h:Valid d) (c:Cert) (hct:c.tiny) (hfl:fewL c) (hok:okCert d.nodes c) :
  ACalls Tryz.prog 16 [d.av,c.av] [] (fun av L=>av = .tup [(putD d c).av,.d (.int .i64 (putE d c))]∧L=[]):=by
 refine acalls_data (rAdd_row d h c hct hfl hok) ?_
 rintro _ _ (⟨h,rfl,rfl⟩|⟨h,rfl,rfl⟩)
 ·rw [putD,if_neg h]
  conv=>whnf
  exact ⟨rfl,rfl⟩
 ·rw [putD,if_pos h,h]
  conv=>whnf
  exact ⟨rfl,rfl⟩
inductive Lft (d:Dag):List Cert→List Cert→Prop where
 | nil:Lft d [] []
 | keep (c:Cert) {l left:List Cert}:Lft d l left→Lft d (c :: l) (c :: left)
 | skip (c:Cert) {l left:List Cert}:c∈d.certs→Lft d l left→Lft d (c :: l) left
theorem Lft.all (d:Dag):∀ l:List Cert,Lft d l l
 | [] => .nil
 | c :: l => .keep c (Lft.all d l)
theorem Lft.mono {d d':Dag} (h:∀ c∈d.certs,c∈d'.certs) {l left:List Cert} (k:Lft d l left):Lft d' l left:=by
 induction k with
 | nil=>exact .nil
 | keep c _ ih=>exact .keep c ih
 | skip c hc _ ih=>exact .skip c (h c hc) ih
theorem mem_putE {d:Dag} {c:Cert} (h:c∈d.certs):putE d c≠0:=fun e=>(putE_ok e).2.2.1 c h rfl
theorem Lft.none {d:Dag} {l left:List Cert} (k:Lft d l left) (h:∀ c∈l,putE d c≠0):∀ c∈left,putE d c≠0:=by
 induction k with
 | nil=>simp
 | keep c _ ih =>
   intro x hx
   rcases List.mem_cons.1 hx with rfl|hx
   ·exact h _ (List.mem_cons_self ..)
   ·exact ih (fun y hy=>h y (List.mem_cons_of_mem _ hy)) x hx
 | skip c hc _ ih=>exact ih (fun y hy=>h y (List.mem_cons_of_mem _ hy))
theorem Lft.first {d:Dag} {l left:List Cert} (k:Lft d l left):∀ {i:Nat} {c:Cert},l[i]? = some c→putE d c=0→(∀ (j:Nat) y,j<i→l[j]? = some y→putE d y≠0) →
  ∃ m,left[m]? = some c∧(∀ (j:Nat) y,j<m→left[j]? = some y→putE d y≠0)∧Lft (insC d c) l (left.take m++left.drop (m+1)):=by
 have hup:∀ (c:Cert),∀ y∈d.certs,y∈(insC d c).certs:=fun c y hy=>mem_insC.2 (.inr hy)
 induction k with
 | nil=>intro i c h;simp at h
 | keep x k ih =>
   intro i c h hp hno
   cases i with
   | zero =>
     simp at h
     subst h
     exact ⟨0,by simp,fun j y hj=>absurd hj (by omega),by simpa using Lft.skip x (mem_insC.2 (.inl rfl)) (k.mono (hup x))⟩
   | succ i =>
     obtain ⟨m,h1,h2,h3⟩:=ih (by simpa using h) hp (fun j y hj hy=>hno (j+1) y (by omega) (by simpa using hy))
     refine ⟨m+1,by simpa using h1,fun j y hj hy => ?_,by simpa using Lft.keep x h3⟩
     cases j with
     | zero=>exact hno 0 y (by omega) (by simpa using hy)
     | succ j=>exact h2 j y (by omega) (by simpa using hy)
 | skip x hx k ih =>
   intro i c h hp hno
   cases i with
   | zero =>
     simp at h
     subst h
     exact absurd hp (mem_putE hx)
   | succ i =>
     obtain ⟨m,h1,h2,h3⟩:=ih (by simpa using h) hp (fun j y hj hy=>hno (j+1) y (by omega) (by simpa using hy))
     exact ⟨m,h1,h2,.skip x (hup c x hx) h3⟩
structure rdInv (n:Int) (fin:Dag) (l:List Cert) (d:Dag) (left:List Cert):Prop where
 inv:bdInv n fin (d,left)
 lft:Lft d l left
 len:d.certs.length+left.length≤l.length
def rdSt (l:List Cert):Bool×Dag→AF×List AB
 | (b,d)=>([(1,.d (.sl 6 (certsD l))),(4,.ptr 0 0),(5,.ptr 1 0),(6,.d (.bool b))],[.cells [.d (.int .i64 0),.d (.int .i64 0),.d .nils],.cells [.d (.int .i64 d.nodes),.d (.int .i64 d.low),.d (cDn d.certs)]])
def rdIn (l:List Cert):Nat×Bool×Dag→AF×List AB
 | (i,b,d)=>([(1,.d (.sl 6 (certsD l))),(4,.ptr 0 0),(5,.ptr 1 0),(6,.d (.bool b)),(7,.d (.int .i64 i))],[.cells [.d (.int .i64 0),.d (.int .i64 0),.d .nils],.cells [.d (.int .i64 d.nodes),.d (.int .i64 d.low),.d (cDn d.certs)]])
structure rdGood (n:Int) (fin:Dag) (l:List Cert) (s:Bool×Dag):Prop where
 inv:∃ left,rdInv n fin l s.2 left
 fin:s.1=false→fin=s.2
structure rdGoodI (n:Int) (fin:Dag) (l:List Cert) (d:Dag) (s:Nat×Bool×Dag):Prop where
 le:s.1≤l.length
 no:s.2.1=false→s.2.2=d∧∀ (j:Nat) y,j<s.1→l[j]? = some y→putE d y≠0
 yes:s.2.1=true→(∃ left,rdInv n fin l s.2.2 left)∧s.2.2.certs.length=d.certs.length+1
theorem add_dn (d:Dag) (h:Valid d) (c:Cert) (hct:c.tiny) (hfl:fewL c) (hok:okCert d.nodes c) :
  ACalls Tryz.prog 16 [.agg [.d (.int .i64 d.nodes),.d (.int .i64 d.low),.d (cDn d.certs)],c.av] [] (fun av L=>av = .tup [(putD d c).av,.d (.int .i64 (putE d c))]∧L=[]) :=
 acalls_args (cDn_args d.certs) (rAdd_ok d h c hct hfl hok)
set_option maxHeartbeats 8000000 in
theorem rDag_row (n:Int) (hn:isN n=true) (l:List Cert) (hl:l.length≤60000) (hok:∀ c∈l,okCert n c∧c.tiny∧fewL c) (fin:Dag) (hfin:fin=buildF l.length ⟨n,0,[]⟩ l) :
  ACalls Tryz.prog 6 [.d (.int .i64 n),.d (.sl 6 (certsD l))] [] (bdPost fin):=by
 have hcl:=certsD_length l
 have hnn:=of_decide_eq_true hn
 (refine acalls_go ttOk zOk foOk Tryz.func6 rfl Tryz.ntmps6 rfl false rfl ?_);(conv=>whnf)
 refine loop_go ttOk zOk foOk (σ:=Bool×Dag) (rdSt l) (rdGood n fin l) (fun s=>l.length - s.2.certs.length+(if s.1 then 1 else 0)) [1,4,5,6] ?_ ?_
 ·conv=>whnf
  exact ⟨(true,⟨n,0,[]⟩),rfl,rfl,⟨l,⟨zero_valid hn,rfl,fun c hc=>⟨(hok c hc).1,(hok c hc).2.1⟩,by simpa using hl,hfin.symm⟩,Lft.all _ _,by simp⟩,fun h=>by cases h⟩
 ·rintro ⟨b,d⟩ hg0
  have hg:rdGood n fin l (b,d):=hg0
  clear hg0
  cases b with
  | false =>
    conv=>whnf
    refine rdw ?_;repeat' ((with_reducible apply tw)<;>intro _)
    obtain rfl:fin=d:=hg.fin rfl
    exact ⟨rfl,rfl⟩
  | true =>
    obtain ⟨left,hinv⟩:=hg.inv
    have hil:d.certs.length+left.length≤l.length:=hinv.len
    conv=>whnf
    refine rdw ?_;repeat' ((with_reducible apply tw)<;>intro _)
    have hll:l.length - d.certs.length+1≥1:=by omega
    refine loop_go ttOk zOk foOk (σ:=Nat×Bool×Dag) (rdIn l) (rdGoodI n fin l d) (fun s=>l.length - s.1) [1,4,5,6,7] ?_ ?_
    ·conv=>whnf
     exact ⟨(0,false,d),rfl,rfl,⟨Nat.zero_le _,fun _=>⟨rfl,fun j y h=>absurd h (by omega)⟩,fun h=>by cases h⟩⟩
    ·rintro ⟨i,b2,d2⟩ hin0
     have hin:rdGoodI n fin l d (i,b2,d2):=hin0
     clear hin0
     have hi:i≤l.length:=hin.le
     cases b2 with
     | true =>
       obtain ⟨hex,hlen2⟩:=hin.yes rfl
       have hlen3:d2.certs.length=d.certs.length+1:=hlen2
       conv=>whnf
       rw [hcl]
       refine rdw ?_;repeat' ((with_reducible apply tw)<;>intro _)
       all_goals exact ⟨(true,d2),rfl,rfl,⟨hex,fun h=>by cases h⟩,by show l.length - d2.certs.length+1<l.length - d.certs.length+1;obtain ⟨lf,hlf⟩:=hex;have:d2.certs.length+lf.length≤l.length:=hlf.len;omega⟩
     | false =>
       obtain ⟨he,hno⟩:=hin.no rfl
       obtain rfl:d2=d:=he
       conv=>whnf
       rw [hcl]
       refine rdw ?_;repeat' ((with_reducible apply tw)<;>intro _)
       ·rename_i hil2
        replace hil2:(i:Int)<l.length:=hil2
        refine Exists.elim (⟨_,List.getElem?_eq_getElem (by omega)⟩:∃ c,l[i]? = some c) fun c hc => ?_
        have hcm:=hok c (List.mem_of_getElem? hc)
        have hadd:=add_dn d2 hinv.inv.val c hcm.2.1 hcm.2.2 (by rw [show d2.nodes=n from hinv.inv.nodes];exact hcm.1)
        ((with_reducible refine draw_pl ttOk zOk foOk mixedOk pl6x8 ?_ ?_);(focus kernel_rfl);(conv=>whnf))
        refine rdw ?_;repeat' ((with_reducible apply tw)<;>intro _)
        ((with_reducible apply rd_intro);(focus (intro K hK;(conv=>whnf);exact ⟨by omega,c.cs,certsD_at hc,hK⟩));(conv=>whnf))
        refine rdw ?_;repeat' ((with_reducible apply tw)<;>intro _)
        by_cases hp:putE d2 c=0
        ·rw [hp,putD,if_pos hp] at hadd
         obtain ⟨m,hm1,hm2,hm3⟩:=hinv.lft.first hc hp hno
         have hnx:=hinv.inv.next hm1 hp hm2
         have hln:=insC_len d2 c
         have hlf:(insC d2 c).certs.length+(left.take m++left.drop (m+1)).length≤l.length:=by
          have:(left.take m++left.drop (m+1)).length<left.length:=hnx.2
          omega
         have hcd:=cDn_ins d2 c
         obtain ⟨x,hx⟩:∃ x,insC d2 c=x:=⟨_,rfl⟩
         rw [hx] at hnx hcd hm3 hln hlf hadd
         ((with_reducible apply rd_intro);(focus (intro K hK;(conv=>whnf);refine (hadd).mono ?_;rintro _ _ ⟨rfl,rfl⟩;(conv=>whnf);exact hK));(conv=>whnf))
         refine rdw ?_;repeat' ((with_reducible apply tw)<;>intro _)
         ((with_reducible apply gd_and);(focus ((conv=>whnf);intro K hK;(conv=>whnf);refine (hadd).mono ?_;rintro _ _ ⟨rfl,rfl⟩;(conv=>whnf);exact hK));(conv=>whnf))
         refine rdw ?_;repeat' ((with_reducible apply tw)<;>intro _)
         ((with_reducible apply gd_and);(focus ((conv=>whnf);intro K hK;(conv=>whnf);exact ⟨by omega,c.cs,certsD_at hc,hK⟩));(conv=>whnf))
         refine rdw ?_;repeat' ((with_reducible apply tw)<;>intro _)
         refine ⟨(i+1,true,x),rfl,?_,⟨by show i+1≤l.length;omega,fun h=>(by cases h),fun _=>⟨⟨_,hnx.1,hm3,hlf⟩,hln⟩⟩,by show l.length - (i+1)<l.length - i;omega⟩
         rw [rdIn,hcd]
        ·obtain ⟨pe,hpe⟩:∃ pe,putE d2 c=pe:=⟨_,rfl⟩
         rw [hpe] at hp hadd
         rw [putD,hpe,if_neg hp] at hadd
         ((with_reducible apply rd_intro);(focus (intro K hK;(conv=>whnf);refine (hadd).mono ?_;rintro _ _ ⟨rfl,rfl⟩;(conv=>whnf);exact hK));(conv=>whnf))
         refine rdw ?_;repeat' ((with_reducible apply tw)<;>intro _)
         ((with_reducible apply gd_and);(focus ((conv=>whnf);intro K hK;(conv=>whnf);refine (hadd).mono ?_;rintro _ _ ⟨rfl,rfl⟩;(conv=>whnf);exact hK));(conv=>whnf))
         refine rdw ?_;repeat' ((with_reducible apply tw)<;>intro _)
         ((with_reducible apply gd_and);(focus ((conv=>whnf);intro K hK;(conv=>whnf);exact ⟨by omega,c.cs,certsD_at hc,hK⟩));(conv=>whnf))
         refine rdw ?_;repeat' ((with_reducible apply tw)<;>intro _)
         ·rename_i h0
          exact absurd h0 hp
         ·refine ⟨(i+1,false,d2),rfl,rfl,⟨by show i+1≤l.length;omega,fun _=>⟨rfl,fun j y hj hy => ?_⟩,fun h=>by cases h⟩,by show l.length - (i+1)<l.length - i;omega⟩
          replace hj:j<i+1:=hj
          rcases Nat.lt_or_ge j i with h4|h4
          ·exact hno j y h4 hy
          ·obtain rfl:j=i:=by omega
           rw [hc] at hy;cases hy;rw [hpe];exact hp
       ·rename_i hil2
        replace hil2:¬(i:Int)<l.length:=hil2
        refine ⟨(false,d2),rfl,rfl,⟨⟨left,hinv⟩,fun _=>hinv.inv.stop fun j c hj hc => ?_⟩,by show l.length - d2.certs.length+0<l.length - d2.certs.length+1;omega⟩
        exact hinv.lft.none (fun y hy=>by
         obtain ⟨k,hk⟩:=List.getElem?_of_mem hy
         exact hno k y (by show k<i;have:=(List.getElem?_eq_some_iff.1 hk).1;omega) hk) c (List.mem_of_getElem? hc)
theorem rDag_ok (n:Int) (hn:isN n=true) (l:List Cert) (hl:l.length≤60000) (hok:∀ c∈l,okCert n c∧c.tiny∧fewL c) :
  ACalls Tryz.prog 6 [.d (.int .i64 n),.d (.sl 6 (certsD l))] [] (fun av L=>av=(buildD n l).av∧L=[]):=by
 refine acalls_post3 (rDag_row n hn l hl hok (buildD n l) rfl) ?_
 rintro _ _ ⟨rfl,rfl⟩
 exact ⟨_,⟨rfl,rfl⟩,cDn_post _⟩
def Cert.light (c:Cert):Prop:=c.bats.length≤3000∧c.pars.length≤3000∧c.sigs.length≤3000
theorem certsW3_ok (l:List Cert) (hl:few l) (h:∀ c∈l,c.ok):ACalls Tryz.prog 14 [.d (.sl 6 (certsD l))] [] (fun av L=>(∃ n:Int,av = .d (.int .i64 n)∧(n≤3000→∀ c∈l,c.light))∧L=[]):=by
 have hcl:=certsD_length l
 unfold few at hl
 (refine acalls_go ttOk zOk foOk Tryz.func14 rfl Tryz.ntmps14 rfl false rfl ?_);(conv=>whnf)
 refine loop_go2 ttOk zOk foOk (σ:=Int) (ρ:=Nat) (fun w j=>([(0,.d (.sl 6 (certsD l))),(3,.d (.int .i64 w)),(4,.d (.int .i64 j))],[])) (fun w j=>j≤l.length∧(0≤w∧w≤1000000000000000)∧(w≤3000→∀ c∈l.take j,c.light)) (fun _ j=>l.length - j) [0,3,4] ?_ ?_
 ·conv=>whnf
  exact ⟨l.length,0,by rw [hcl];rfl,rfl,by omega,⟨by omega,by omega⟩,by simp⟩
 ·rintro w j ⟨hj,⟨hw0,hw1⟩,hall⟩
  conv=>whnf
  rw [hcl]
  refine rdz ?_;repeat' ((with_reducible apply tw)<;>intro _)
  ·rename_i hjl hwl
   refine Exists.elim (⟨_,List.getElem?_eq_getElem (by omega)⟩:∃ c,l[j]? = some c) fun c hc => ?_
   have hk:=h c (List.mem_of_getElem? hc)
   have h1:=hk.bats.1
   have h2:=hk.pars.1
   have h3:=hk.sigs.1
   unfold few at h1 h2 h3
   refine ⟨by omega,c.cs,certsD_at hc,?_⟩
   conv=>whnf
   refine (certW_ok c hk).mono ?_
   rintro _ _ ⟨rfl,rfl⟩
   conv=>whnf
   refine rdz ?_;repeat' ((with_reducible apply tw)<;>intro _)
   refine ⟨_,j+1,rfl,rfl,⟨by omega,⟨by omega,by omega⟩,fun hw y hy => ?_⟩,by omega⟩
   rw [take_snoc' hc] at hy
   rcases List.mem_append.1 hy with hy|hy
   ·exact hall (by omega) y hy
   ·simp at hy;rw [hy];exact ⟨by omega,by omega,by omega⟩
  ·exact ⟨⟨_,rfl,fun hw=>by omega⟩,rfl⟩
  ·rw [List.take_of_length_le (by omega)] at hall
   exact ⟨⟨_,rfl,hall⟩,rfl⟩
theorem rMay25_ok (n:Int) (l:List Cert) (hl:l.length≤60000) (hf:∀ c∈l,fewL c):ACalls Tryz.prog 15 [.d (.int .i64 n),.d (.sl 6 (certsD l))] [] (fun av L=>av = .d (.bool (okAll n l))∧L=[]):=by
 have hcl:=certsD_length l
 (refine acalls_go ttOk zOk foOk Tryz.func15 rfl Tryz.ntmps15 rfl false rfl ?_);(conv=>whnf)
 refine (rMay_ok n).mono ?_
 rintro _ _ ⟨rfl,rfl⟩
 cases hn:isN n with
 | false =>
   conv=>whnf
   refine rdz ?_;repeat' ((with_reducible apply tw)<;>intro _)
   exact ⟨by rw [okAll,hn];rfl,rfl⟩
 | true =>
   conv=>whnf
   refine rdz ?_;repeat' ((with_reducible apply tw)<;>intro _)
   refine loop_go ttOk zOk foOk (σ:=Nat) (fun i=>([(0,.d (.int .i64 n)),(1,.d (.sl 6 (certsD l))),(5,.d (.int .i64 i))],[])) (fun i=>i≤l.length∧∀ c∈l.take i,okC n c=true) (fun i=>l.length - i) [0,1,5] ?_ ?_
   ·conv=>whnf
    exact ⟨0,rfl,rfl,Nat.zero_le _,by simp⟩
   ·rintro i ⟨hi,hall⟩
    conv=>whnf
    rw [hcl]
    refine rdz ?_;repeat' ((with_reducible apply tw)<;>intro _)
    ·rename_i hil
     refine Exists.elim (⟨_,List.getElem?_eq_getElem (by omega)⟩:∃ c,l[i]? = some c) fun c hc => ?_
     refine ⟨by omega,c.cs,certsD_at hc,?_⟩
     conv=>whnf
     refine rdz ?_;repeat' ((with_reducible apply tw)<;>intro _)
     refine (rCert_ok c (hf c (List.mem_of_getElem? hc)) n).mono ?_
     rintro _ _ ⟨rfl,rfl⟩
     rw [show (@decide (okCert n c) (Classical.propDecidable _))=okC n c from rfl]
     cases hb:okC n c with
     | true =>
       conv=>whnf
       refine rdz ?_;repeat' ((with_reducible apply tw)<;>intro _)
       refine ⟨i+1,rfl,rfl,⟨by omega,fun y hy => ?_⟩,by omega⟩
       rw [List.take_add_one,hc] at hy
       rcases List.mem_append.1 hy with h|h
       ·exact hall y h
       ·simp at h;rw [h];exact hb
     | false =>
       conv=>whnf
       refine rdz ?_;repeat' ((with_reducible apply tw)<;>intro _)
       refine ⟨?_,rfl⟩
       have:okAll n l=false:=by
        rw [okAll,hn]
        simp only [Bool.true_and,List.all_eq_false]
        exact ⟨c,List.mem_of_getElem? hc,by simp [hb]⟩
       rw [this];rfl
    ·rename_i hil
     have:okAll n l=true:=by
      rw [okAll,hn,List.take_of_length_le (by omega)] at *
      simp only [Bool.true_and,List.all_eq_true]
      exact hall
     rw [this]
     exact ⟨rfl,rfl⟩
structure AskA where
 n:Int
 l:List Cert
 outs:List Int
def AskA.cells (p:AskA):List AV:=[.d (.int .i64 p.n),.d (.sl 6 (certsD p.l)),.d (.sl 1 (nums p.outs))]
def AskA.av (p:AskA):AV := .agg p.cells
structure AskA.ok (p:AskA):Prop where
 n:i64 p.n
 l:few p.l∧∀ c∈p.l,c.ok
 outs:few p.outs∧∀ x∈p.outs,i64 x
structure AskA.light (p:AskA):Prop where
 len:p.l.length≤60
 light:∀ c∈p.l,c.light
 outs:p.outs.length≤200
theorem heavy25_ok (p:AskA) (h:p.ok):ACalls Tryz.prog 4 [p.av] [] (fun av L=>(∃ b,av = .d (.bool b)∧(b=false→p.light))∧L=[]):=by
 have hcl:=certsD_length p.l
 have hol:=nums_length p.outs
 (refine acalls_go ttOk zOk foOk Tryz.func4 rfl Tryz.ntmps4 rfl false rfl ?_);(conv=>whnf)
 rw [hcl]
 refine rdz ?_;repeat' ((with_reducible apply tw)<;>intro _)
 ·exact ⟨⟨_,rfl,fun e=>by cases e⟩,rfl⟩
 ·rename_i h1
  refine (certsW3_ok p.l h.l.1 h.l.2).mono ?_
  rintro _ _ ⟨⟨w,rfl,hw⟩,rfl⟩
  conv=>whnf
  refine rdz ?_;repeat' ((with_reducible apply tw)<;>intro _)
  ·exact ⟨⟨_,rfl,fun e=>by cases e⟩,rfl⟩
  ·rename_i h2
   refine ⟨⟨_,rfl,fun e=>⟨by omega,hw (by omega),?_⟩⟩,rfl⟩
   have:=of_decide_eq_false e
   omega
theorem Cert.light.all {c:Cert} (h:c.light):fewL c∧c.tiny:=by
 obtain ⟨h1,h2,h3⟩:=h
 exact ⟨⟨by unfold few;omega,by unfold few;omega,by unfold few;omega⟩,⟨by show c.bats.length≤_;omega,by show c.pars.length≤_;omega,by show c.sigs.length≤_;omega⟩⟩
theorem AskA.light.all {p:AskA} (h:p.light):∀ c∈p.l,fewL c∧c.tiny:=fun c hc=>(h.light c hc).all
theorem form25_ok (p:AskA) (h:p.light):ACalls Tryz.prog 5 [p.av] [] (fun av L=>av = .d (.int .i64 (ordE p.n p.l))∧L=[]):=by
 have hlen:=h.len
 have hm:=rMay25_ok p.n p.l (by omega) fun c hc=>(h.all c hc).1
 rw [ordE]
 (refine acalls_go ttOk zOk foOk Tryz.func5 rfl Tryz.ntmps5 rfl false rfl ?_);(conv=>whnf)
 refine hm.mono ?_
 rintro _ _ ⟨rfl,rfl⟩
 cases okAll p.n p.l with
 | true =>
   conv=>whnf
   exact ⟨rfl,rfl⟩
 | false =>
   conv=>whnf
   exact ⟨rfl,rfl⟩
theorem num25_ok (n:Int):ACalls Tryz.prog 9 [.d (.int .i64 n)] [] (fun av L=>av = .d (.int .i64 n)∧L=[]):=by
 (refine acalls_go ttOk zOk foOk Tryz.func9 rfl Tryz.ntmps9 rfl false rfl ?_);(conv=>whnf)
 exact ⟨rfl,rfl⟩
theorem ownCerts_row (l:List Cert) (hl:tiny l) (h:∀ c∈l,c.tiny):ACalls Tryz.prog 37 [.d (.sl 6 (certsD l))] [] (fun av L=>av = .arr 0∧L=[.row 47 6 (certsD l) false]):=by
 have hx:=certsD_length l
 unfold tiny at hl
 (refine acalls_go ttOk zOk foOk Tryz.func37 rfl Tryz.ntmps37 rfl true rfl ?_);(conv=>whnf)
 refine loop_go ttOk zOk foOk (σ:=Nat) (fun k=>([(5,.d (.sl 6 (certsD l))),(6,.d (.int .i64 l.length)),(7,.d (.int .i64 k)),(2,.arr 0)],[.row 47 6 (certsD (l.take k)) false])) (fun k=>k≤l.length) (fun k=>l.length - k) [5,6,7,2] ?_ ?_
 ·conv=>whnf
  exact ⟨0,by rw [hx];rfl,rfl,by omega⟩
 ·intro k hk
  conv=>whnf
  refine rdz ?_;repeat' ((with_reducible apply tw)<;>intro _)
  ·rename_i h2
   refine Exists.elim (⟨_,List.getElem?_eq_getElem (by omega)⟩:∃ a,l[k]? = some a) fun a ha => ?_
   have hkn:=certsD_length (l.take k)
   refine ⟨by omega,a.cs,certsD_at ha,?_⟩
   conv=>whnf
   refine rdz ?_;repeat' ((with_reducible apply tw)<;>intro _)
   refine (ownCert_ok a (h a (List.mem_of_getElem? ha))).mono ?_
   rintro _ _ ⟨rfl,rfl⟩
   conv=>whnf
   refine rdz ?_;repeat' ((with_reducible apply tw)<;>intro _)
   refine ⟨by simp [hkn];omega,?_⟩
   conv=>whnf
   refine rdz ?_;repeat' ((with_reducible apply tw)<;>intro _)
   refine ⟨k+1,rfl,?_,by omega,by omega⟩
   rw [List.take_add_one,ha]
   simp [certsD,Cert.cs]
  ·rename_i h2
   rw [List.take_of_length_le (by omega)]
   exact ⟨rfl,rfl⟩
theorem dagOwn_row (d:Dag) (hl:tiny d.certs) (h:∀ c∈d.certs,c.tiny):ACalls Tryz.prog 19 [d.av] [] (fun av L=>av = .agg [.d (.int .i64 d.nodes),.d (.int .i64 d.low),.arr 0]∧L=[.row 47 6 (certsD d.certs) false]):=by
 have h1:=ownCerts_row d.certs hl h
 (refine acalls_go ttOk zOk foOk Tryz.func19 rfl Tryz.ntmps19 rfl true rfl ?_);(conv=>whnf)
 refine h1.mono ?_
 rintro _ _ ⟨rfl,rfl⟩
 conv=>whnf
 refine rdz ?_;repeat' ((with_reducible apply tw)<;>intro _)
 exact ⟨rfl,rfl⟩
theorem dagOwn_ok (d:Dag) (hl:tiny d.certs) (h:∀ c∈d.certs,c.tiny):ACalls Tryz.prog 19 [d.av] [] (fun av L=>av=d.av∧L=[]):=by
 refine acalls_data (dagOwn_row d hl h) ?_
 rintro _ _ ⟨rfl,rfl⟩
 conv=>whnf
 exact ⟨rfl,rfl⟩
noncomputable def adagAV (n:Int) (l:List Cert):AV:=if okAll n l=true then .tup [(buildD n l).av,.d (.int .i64 0)] else .tup [.agg [.d (.int .i64 0),.d (.int .i64 0),.d .nils],.d (.int .i64 1)]
theorem auditDag_ok (n:Int) (l:List Cert) (hl:l.length≤60000) (hf:∀ c∈l,fewL c∧c.tiny):ACalls Tryz.prog 8 [.d (.int .i64 n),.d (.sl 6 (certsD l))] [] (fun av L=>av=adagAV n l∧L=[]):=by
 have hmay:=auditMay_ok n l (by unfold few;omega) (fun c hc=>(hf c hc).1)
 rw [show (isN n&&l.all fun c=>okC n c)=okAll n l from rfl] at hmay
 (refine acalls_go ttOk zOk foOk Tryz.func8 rfl Tryz.ntmps8 rfl false rfl ?_);(conv=>whnf)
 refine hmay.mono ?_
 rintro _ _ ⟨rfl,rfl⟩
 rw [adagAV]
 cases hb:okAll n l with
 | false =>
   conv=>whnf
   refine rdz ?_;repeat' ((with_reducible apply tw)<;>intro _)
   exact ⟨rfl,rfl⟩
 | true =>
   obtain ⟨h1,h2⟩:=okAll_iff.1 hb
   have hval:=(buildD_valid h1 hl h2).1
   have hto:=dagOwn_ok (buildD n l) hval.tiny.1 hval.tiny.2
   conv=>whnf
   refine rdz ?_;repeat' ((with_reducible apply tw)<;>intro _)
   refine (build_ok n h1 l hl fun c hc=>⟨h2 c hc,(hf c hc).2⟩).mono ?_
   rintro _ _ ⟨rfl,rfl⟩
   obtain ⟨d,hd⟩:∃ d,buildD n l=d:=⟨_,rfl⟩
   rw [hd] at hto ⊢
   conv=>whnf
   refine hto.mono ?_
   rintro _ _ ⟨rfl,rfl⟩
   conv=>whnf
   refine rdz ?_;repeat' ((with_reducible apply tw)<;>intro _)
   exact ⟨rfl,rfl⟩
def cw:Cert:=⟨1,1,[],[],3,[1]⟩
theorem cw_ok:okCert 1 cw:=by
 refine ⟨⟨by decide,by decide,by decide,⟨by decide,List.Pairwise.nil,by simp [cw]⟩,⟨by decide,List.Pairwise.nil,by simp [cw]⟩,fun _=>rfl,fun h=>absurd rfl h⟩,by decide,⟨List.pairwise_singleton _ _,by simp [cw]⟩,by decide⟩
theorem cw_all:okAll 1 [cw]=true:=okAll_iff.2 ⟨by decide,fun c hc=>by rw [List.mem_singleton.1 hc];exact cw_ok⟩
theorem cw_build:buildD 1 [cw]=⟨1,0,[cw]⟩:=by rfl
theorem few_nil {α:Type}:few ([]:List α):=Nat.zero_le _
theorem cw_few:fewL cw∧cw.tiny:=⟨⟨few_nil,few_nil,by show 1≤_;decide⟩,⟨Nat.zero_le _,Nat.zero_le _,by show 1≤_;decide⟩⟩
theorem wakes25_ok:ACalls Tryz.prog 13 [] [] (fun av L=>av = .d (.bool true)∧L=[]):=by
 have h1:=follows_audit 4 [] (by decide) (by simp) [] few_nil
 rw [show folB 4 [] []=true by simp [folB,okAll,begins,isN],show ordE 4 []=0 by simp [ordE,okAll,isN]] at h1
 have h2:=auditDag_ok 1 [cw] (by decide) (fun c hc=>by rw [List.mem_singleton.1 hc];exact cw_few)
 rw [adagAV,if_pos cw_all,cw_build] at h2
 (refine acalls_go ttOk zOk foOk Tryz.func13 rfl Tryz.ntmps13 rfl false rfl ?_);(conv=>whnf)
 refine h1.mono ?_
 rintro _ _ ⟨rfl,rfl⟩
 conv=>whnf
 refine rdz ?_;repeat' ((with_reducible apply tw)<;>intro _)
 (refine Or.inl ?_;(conv=>whnf))
 refine h2.mono ?_
 rintro _ _ ⟨rfl,rfl⟩
 conv=>whnf
 refine rdz ?_;repeat' ((with_reducible apply tw)<;>intro _)
 refine (num25_ok 0).mono ?_
 rintro _ _ ⟨rfl,rfl⟩
 conv=>whnf
 refine rdz ?_;repeat' ((with_reducible apply tw)<;>intro _)
 refine (num25_ok 0).mono ?_
 rintro _ _ ⟨rfl,rfl⟩
 conv=>whnf
 refine rdz ?_;repeat' ((with_reducible apply tw)<;>intro _)
 exact ⟨rfl,rfl⟩
end Go.Proofs.YtodimgkpjnpbiaaGreat
namespace Go.Proofs.YtodimgkpjnpbiaaGreat
open Go.Ab Go.RowKit
theorem askA_nums {xs:List (List DV)} (h:∀ x∈xs,∃ n,x=[DV.int .i64 n]∧(Lit.int .i64 n).wf=true):∃ l:List Int,xs=nums l∧∀ n∈l,i64 n :=
 map_of (f:=fun n:Int=>[.int .i64 n]) fun x hx=>by
  obtain ⟨n,h1,h2⟩:=h x hx
  have hb : -9223372036854775808≤n∧n≤9223372036854775807:=by simpa [Lit.wf,IntKind.min,IntKind.max,IntKind.signed,IntKind.bits] using h2
  exact ⟨n,h1,hb.1,by omega⟩
theorem askA_i64 {n:Int} (h2:(Lit.int .i64 n).wf=true):i64 n:=by
 have hb : -9223372036854775808≤n∧n≤9223372036854775807:=by simpa [Lit.wf,IntKind.min,IntKind.max,IntKind.signed,IntKind.bits] using h2
 exact ⟨hb.1,by omega⟩
theorem askA_row {a:List DV} (h:∃ xs,a=[DV.sl 1 xs]∧xs.length * 8≤140737488355328∧∀ x∈xs,∃ n,x=[DV.int .i64 n]∧(Lit.int .i64 n).wf=true):∃ l:List Int,a=[.sl 1 (nums l)]∧few l∧∀ n∈l,i64 n:=by
 obtain ⟨xs,rfl,h1,h2⟩:=h
 obtain ⟨l,rfl,hl⟩:=askA_nums h2
 rw [nums_length] at h1
 exact ⟨l,rfl,by unfold few;omega,hl⟩
theorem askA_cert {ds:List DV} (h:DTy tt 4 47 ds):∃ c:Cert,ds=c.cs∧c.ok:=by
 replace h:DTyF (DTy tt 3) [45,3,23] ds:=h
 obtain ⟨a1,b1,rfl,h1,a2,b2,rfl,h2,a3,b3,rfl,h3,rfl⟩:=h
 replace h1:DTyF (DTy tt 2) [3,3,23,23] a1:=h1
 obtain ⟨a4,b4,rfl,h4,a5,b5,rfl,h5,a6,b6,rfl,h6,a7,b7,rfl,h7,rfl⟩:=h1
 replace h4:∃ x,a4=[.int .i64 x]∧(Lit.int .i64 x).wf=true:=h4
 replace h5:∃ x,a5=[.int .i64 x]∧(Lit.int .i64 x).wf=true:=h5
 replace h2:∃ x,a2=[.int .i64 x]∧(Lit.int .i64 x).wf=true:=h2
 obtain ⟨l6,rfl,f6,e6⟩:=askA_row h6
 obtain ⟨l7,rfl,f7,e7⟩:=askA_row h7
 obtain ⟨l3,rfl,f3,e3⟩:=askA_row h3
 obtain ⟨x4,rfl,w4⟩:=h4
 obtain ⟨x5,rfl,w5⟩:=h5
 obtain ⟨x2,rfl,w2⟩:=h2
 exact ⟨⟨x4,x5,l6,l7,x2,l3⟩,rfl,askA_i64 w4,askA_i64 w5,⟨f6,e6⟩,⟨f7,e7⟩,askA_i64 w2,⟨f3,e3⟩⟩
theorem askA_of {ds:List DV} (h:DTy tt 6 25 ds):∃ p:AskA,argS ds=p.av∧p.ok:=by
 replace h:DTyF (DTy tt 5) [3,22,23] ds:=h
 obtain ⟨a1,b1,rfl,h1,a2,b2,rfl,h2,a3,b3,rfl,h3,rfl⟩:=h
 replace h1:∃ x,a1=[.int .i64 x]∧(Lit.int .i64 x).wf=true:=h1
 replace h2:∃ xs,a2=[.sl 6 xs]∧xs.length * 96≤140737488355328∧∀ x∈xs,DTy tt 4 47 x:=h2
 obtain ⟨x1,rfl,w1⟩:=h1
 obtain ⟨x2,rfl,w2,e2⟩:=h2
 obtain ⟨l,rfl,hl⟩:=map_of (f:=Cert.cs) fun x hx=>askA_cert (e2 x hx)
 obtain ⟨l3,rfl,f3,e3⟩:=askA_row h3
 simp only [List.length_map] at w2
 exact ⟨⟨x1,l,l3⟩,rfl,askA_i64 w1,⟨by show l.length≤_;omega,hl⟩,⟨f3,e3⟩⟩
end Go.Proofs.YtodimgkpjnpbiaaGreat
namespace Go.Proofs.YtodimgkpjnpbiaaGreat
open Go.Ab Go.RowKit Go.MapKept
attribute [local irreducible] ACalls AW ADraw Into fltB fnear
set_option maxRecDepth 100000
def Cert.cso (c:Cert):List DV:=[.int .i64 c.author,.int .i64 c.round,.slo 1 (nums c.bats),.slo 1 (nums c.pars),.int .i64 c.digest,.slo 1 (nums c.sigs)]
def certsDo (l:List Cert):List (List DV):=l.map Cert.cso
theorem certsDo_length (l:List Cert):(certsDo l).length=l.length:=List.length_map ..
theorem certsDo_at {l:List Cert} {k:Nat} {a:Cert} (h:l[k]? = some a):(certsDo l)[k]? = some a.cso:=by simp [certsDo,h]
def Cert.havo (c:Cert):AV := .agg [.d (.int .i64 c.author),.d (.int .i64 c.round),.d (.slo 1 (nums c.bats)),.d (.slo 1 (nums c.pars))]
def Cert.avo (c:Cert):AV := .agg (c.cso.map AV.d)
theorem dn_int (n:Int):DnD (.int .i64 n) (.int .i64 n) := .flat (flat_int _ _)
theorem dnE_nums (l:List Int):DnE (nums l) (nums l):=DnE.map (f:=fun x=>[.int .i64 x]) (fun _ => .cons (dn_int _) .nil) l
theorem dn_nums (l:List Int):DnD (.sl 1 (nums l)) (.slo 1 (nums l)) := .sl (dnE_nums l)
theorem dns_cert (c:Cert):Dns c.cs c.cso := .cons (dn_int _) (.cons (dn_int _) (.cons (dn_nums _) (.cons (dn_nums _) (.cons (dn_int _) (.cons (dn_nums _) .nil)))))
theorem dn_certs (l:List Cert):DnD (.sl 6 (certsD l)) (.slo 6 (certsDo l)) := .sl (DnE.map dns_cert l)
theorem up_nums (l:List Int):UpD (.slo 1 (nums l)) (.sl 1 (nums l)) := .slo (.refl _)
theorem ups_cert (c:Cert):Ups c.cso c.cs := .cons (.refl _) (.cons (.refl _) (.cons (up_nums _) (.cons (up_nums _) (.cons (.refl _) (.cons (up_nums _) .nil)))))
theorem up_certs (l:List Cert):UpD (.slo 6 (certsDo l)) (.sl 6 (certsD l)) := .slo (UpE.map ups_cert l)
theorem l1_up {L:List AB} {y y':DV} (h:UpD y y'):lend1 L (.d y) (.d y') := .inr (.inr (.inr (.inr (.inl ⟨_,_,rfl,rfl,h⟩))))
theorem lendS_c {L:List AB} {a b:AV} {r r':List AV} (h:lend1 L a b) (k:lendS L r r'):lendS L (a :: r) (b :: r'):=⟨_,_,rfl,h,k⟩
theorem lendS_n {L:List AB}:lendS L [] []:=rfl
theorem l1_int {L:List AB} (n:Int):lend1 L (.d (.int .i64 n)) (.d (.int .i64 n)) := .inl ⟨_,rfl,rfl⟩
theorem lo_int {L:List AB} (n:Int):lendO1 L (.d (.int .i64 n)) (.d (.int .i64 n)) := .inl ⟨_,_,rfl,rfl,dn_int n⟩
theorem lo_dn {L:List AB} {y y':DV} (h:DnD y y'):lendO1 L (.d y) (.d y') := .inl ⟨_,_,rfl,rfl,h⟩
theorem cloneIO_row (l:List Int) (hl:l.length≤1099511627776):ACalls Tryz.prog 69 [.d (.slo 1 (nums l))] [] (fun av L=>av = .arr 0∧L=[.row 3 1 (nums l) false]):=by
 have hll:=nums_length l
 (refine acalls_go ttOk zOk foOk Tryz.func69 rfl Tryz.ntmps69 rfl true rfl ?_);(conv=>whnf)
 intro b hb
 conv=>whnf
 refine rdw ?_;repeat' ((with_reducible apply tw)<;>intro _)
 ·rename_i h
  have:l=[]:=by simpa [nums] using hb h
  subst this
  exact ⟨rfl,rfl⟩
 ·rename_i h
  refine ⟨by rw [hll];show (0+l.length) * 8≤_;omega,?_⟩
  conv=>whnf
  exact ⟨rfl,rfl⟩
theorem ownO_row (c:Cert) (h:c.tiny):ACalls Tryz.prog 68 [c.havo] [] (fun av L=>av = .agg [.d (.int .i64 c.author),.d (.int .i64 c.round),.arr 0,.arr 1]∧L=[.row 3 1 (nums c.bats) false,.row 3 1 (nums c.pars) false]):=by
 (refine acalls_go ttOk zOk foOk Tryz.func68 rfl Tryz.ntmps68 rfl true rfl ?_);(conv=>whnf)
 ((with_reducible refine draw_pl ttOk zOk foOk mixedOk pl68x1 ?_ ?_);(focus kernel_rfl);(conv=>whnf))
 refine rdw ?_;repeat' ((with_reducible apply tw)<;>intro _)
 refine (cloneIO_row c.bats h.bats).mono ?_
 rintro _ _ ⟨rfl,rfl⟩
 conv=>whnf
 refine rdw ?_;repeat' ((with_reducible apply tw)<;>intro _)
 refine (cloneIO_row c.pars h.pars).mono ?_
 rintro _ _ ⟨rfl,rfl⟩
 conv=>whnf
 refine rdw ?_;repeat' ((with_reducible apply tw)<;>intro _)
 exact ⟨rfl,rfl⟩
theorem ownCertO_ok (c:Cert) (h:c.tiny):ACalls Tryz.prog 58 [c.avo] [] (fun av L=>av=c.av∧L=[]):=by
 have h1:ACalls Tryz.prog 58 [c.avo] [] (fun av L=>av = .agg [.d (.int .i64 c.author),.d (.int .i64 c.round),.arr 0,.arr 1,.d (.int .i64 c.digest),.arr 2]∧L=[.row 3 1 (nums c.bats) false,.row 3 1 (nums c.pars) false,.row 3 1 (nums c.sigs) false]):=by
  (refine acalls_go ttOk zOk foOk Tryz.func58 rfl Tryz.ntmps58 rfl true rfl ?_);(conv=>whnf)
  ((with_reducible refine draw_pl ttOk zOk foOk mixedOk pl58x1 ?_ ?_);(focus kernel_rfl);(conv=>whnf))
  refine rdw ?_;repeat' ((with_reducible apply tw)<;>intro _)
  refine (ownO_row c h).mono ?_
  rintro _ _ ⟨rfl,rfl⟩
  conv=>whnf
  refine rdw ?_;repeat' ((with_reducible apply tw)<;>intro _)
  refine (cloneIO_row c.sigs h.sigs).mono ?_
  rintro _ _ ⟨rfl,rfl⟩
  conv=>whnf
  refine rdw ?_;repeat' ((with_reducible apply tw)<;>intro _)
  exact ⟨rfl,rfl⟩
 refine acalls_data h1 ?_
 rintro _ _ ⟨rfl,rfl⟩
 conv=>whnf
 exact ⟨rfl,rfl⟩
theorem cloneCO_ok (l:List Cert) (hl:l.length≤1099511627776):ACalls Tryz.prog 38 [.d (.slo 6 (certsDo l))] [] (fun av L=>av = .arr 0∧L=[.row 47 6 (certsDo l) false]):=by
 have hll:=certsDo_length l
 (refine acalls_go ttOk zOk foOk Tryz.func38 rfl Tryz.ntmps38 rfl true rfl ?_);(conv=>whnf)
 intro b hb
 conv=>whnf
 refine rdw ?_;repeat' ((with_reducible apply tw)<;>intro _)
 ·rename_i h
  have:l=[]:=by simpa [certsDo] using hb h
  subst this
  exact ⟨rfl,rfl⟩
 ·rename_i h
  refine ⟨by rw [hll];show (0+l.length) * 96≤_;omega,?_⟩
  conv=>whnf
  exact ⟨rfl,rfl⟩
theorem dagPlaceO_ok (c:Cert):ACalls Tryz.prog 60 [c.avo] [] (fun av L=>av = .d (plb c.round c.author)∧L=[]):=by
 (refine acalls_go ttOk zOk foOk Tryz.func60 rfl Tryz.ntmps60 rfl false rfl ?_);(conv=>whnf)
 refine (placeOf_ok c.round c.author).mono ?_
 rintro _ _ ⟨rfl,rfl⟩
 conv=>whnf
 exact ⟨rfl,rfl⟩
theorem lackO_ok (d:Dag) (hd:d.fit) (c:Cert) (hc:tiny c.pars) (hr:isF c.round) (hr1:1≤c.round) (hlow:0≤d.low∧d.low≤1099511627776):ACalls Tryz.prog 62 [d.av,c.havo] [] (fun av L=>av = .d (.sl 1 (nums (lackI d c)))∧L=[]):=by
 have hpl:=nums_length c.pars
 have hfl:few (ofR d.certs (c.round - 1)):=by
  have:=hd.few
  unfold few at this ⊢
  exact Nat.le_trans (List.length_filter_le ..) this
 unfold tiny at hc
 unfold isF at hr
 (refine acalls_go ttOk zOk foOk Tryz.func62 rfl Tryz.ntmps62 rfl false rfl ?_);(conv=>whnf)
 refine rdw ?_;repeat' ((with_reducible apply tw)<;>intro _)
 ·rename_i h
  rw [lackI,if_pos h]
  exact ⟨rfl,rfl⟩
 ·rename_i h
  rw [lackI,if_neg h]
  refine (dagOf_ok d hd (c.round - 1) (by unfold isF;omega)).mono ?_
  rintro _ _ ⟨rfl,rfl⟩
  obtain ⟨A,hA⟩:∃ A,ofR d.certs (c.round - 1)=A:=⟨_,rfl⟩
  rw [hA] at hfl ⊢
  conv=>whnf
  refine loop_go ttOk zOk foOk (σ:=Nat) (fun j=>([(5,.d (.sl 6 (certsD A))),(20,.d (.slo 1 (nums c.pars))),(21,.d (.int .i64 c.pars.length)),(22,.d (.int .i64 j)),(4,.arr 0)],[.row 3 1 (nums ((c.pars.take j).filter fun x => !A.any fun y=>y.digest == x)) false])) (fun j=>j≤c.pars.length) (fun j=>c.pars.length - j) [5,20,21,22,4] ?_ ?_
  ·conv=>whnf
   exact ⟨0,by rw [hpl];rfl,rfl,Nat.zero_le _⟩
  ·intro j hj
   have hfn:(nums ((c.pars.take j).filter fun x => !A.any fun y=>y.digest == x)).length≤c.pars.length:=by rw [nums_length];exact Nat.le_trans (List.length_filter_le ..) (List.length_take_le' ..)
   conv=>whnf
   refine rdw ?_;repeat' ((with_reducible apply tw)<;>intro _)
   ·rename_i hjl
    refine Exists.elim (⟨_,List.getElem?_eq_getElem (by omega)⟩:∃ x,c.pars[j]? = some x) fun x hx => ?_
    refine ⟨by omega,[.int .i64 x],nums_at hx,?_⟩
    conv=>whnf
    refine (has_ok A hfl x).mono ?_
    rintro _ _ ⟨rfl,rfl⟩
    have hsn:∀ b,(A.any fun y=>y.digest == x)=b→(c.pars.take (j+1)).filter (fun x => !A.any fun y=>y.digest == x)=(c.pars.take j).filter (fun x => !A.any fun y=>y.digest == x)++(if b then [] else [x]):=by
     intro b hb
     rw [List.take_add_one,hx,List.filter_append]
     cases b<;>simp [List.filter_cons,hb]
    obtain ⟨b,hb⟩:∃ b,(A.any fun y=>y.digest == x)=b:=⟨_,rfl⟩
    rw [hb]
    replace hsn:=hsn b hb
    cases b with
    | true =>
      conv=>whnf
      refine rdw ?_;repeat' ((with_reducible apply tw)<;>intro _)
      exact ⟨j+1,rfl,by rw [hsn];simp,by omega,by omega⟩
    | false =>
      conv=>whnf
      refine rdw ?_;repeat' ((with_reducible apply tw)<;>intro _)
      refine ⟨by simp;omega,?_⟩
      conv=>whnf
      refine rdw ?_;repeat' ((with_reducible apply tw)<;>intro _)
      refine ⟨j+1,rfl,?_,by omega,by omega⟩
      rw [hsn,← nums_apps]
      rfl
   ·rename_i hjl
    obtain rfl:j=c.pars.length:=by omega
    rw [List.take_length]
    exact ⟨rfl,rfl⟩
set_option maxHeartbeats 1000000 in
theorem put_dagO_row (d:Dag) (hd:d.fit) (hl:d.certs.length≤4294967296) (hlow:0≤d.low∧d.low≤1099511627776) (c:Cert) (hc:c.tiny) (hr:isF c.round) (hr1:1≤c.round) (ha:isF c.author) :
  ACalls Tryz.prog 39 [d.av,c.avo] [] (fun av L=>(putE d c≠0∧av = .tup [d.av,.d (.int .i64 (putE d c))]∧L=[])∨(putE d c=0∧av = .tup [.agg [.d (.int .i64 d.nodes),.d (.int .i64 d.low),.arr 0],.d (.int .i64 0)]∧L=[.row 47 6 (certsD (insC d c).certs) false])):=by
 have hcl:=certsD_length d.certs
 have hlk:=lackO_ok d hd c hc.pars hr hr1 hlow
 have hfew:=hd.few
 have hps:=pos_le d.certs c.round c.author
 (refine acalls_go ttOk zOk foOk Tryz.func39 rfl Tryz.ntmps39 rfl true rfl ?_);(conv=>whnf)
 ((with_reducible refine draw_pl ttOk zOk foOk mixedOk pl39x1 ?_ ?_);(focus kernel_rfl);(conv=>whnf))
 refine rdw ?_;repeat' ((with_reducible apply tw)<;>intro _)
 refine (dagPlaceO_ok c).mono ?_
 rintro _ _ ⟨rfl,rfl⟩
 conv=>whnf
 refine rdw ?_;repeat' ((with_reducible apply tw)<;>intro _)
 refine (find_ok d.certs c.round c.author hd.few hd.sorted hd.fit hr ha).mono ?_
 rintro _ _ ⟨rfl,rfl⟩
 cases hat:atC d.certs c.round c.author with
 | none =>
   conv=>whnf
   refine rdw ?_;repeat' ((with_reducible apply tw)<;>intro _)
   ·rename_i h
    have e:putE d c=6:=by rw [putE,if_pos h]
    rw [e]
    exact .inl ⟨by decide,rfl,rfl⟩
   ·rename_i h
    ((with_reducible refine draw_pl ttOk zOk foOk mixedOk pl39x4 ?_ ?_);(focus kernel_rfl);(conv=>whnf))
    refine rdw ?_;repeat' ((with_reducible apply tw)<;>intro _)
    refine (has_ok d.certs hd.few c.digest).mono ?_
    rintro _ _ ⟨rfl,rfl⟩
    cases hany:d.certs.any (fun y=>y.digest == c.digest) with
    | true =>
      have e:putE d c=5:=by rw [putE,if_neg h,hat];simp [hany]
      conv=>whnf
      refine rdw ?_;repeat' ((with_reducible apply tw)<;>intro _)
      rw [e]
      exact .inl ⟨by decide,rfl,rfl⟩
    | false =>
      conv=>whnf
      refine rdw ?_;repeat' ((with_reducible apply tw)<;>intro _)
      refine hlk.mono ?_
      rintro _ _ ⟨rfl,rfl⟩
      obtain ⟨lk,hlk2⟩:∃ lk,lackI d c=lk:=⟨_,rfl⟩
      rw [hlk2]
      cases lk with
      | cons x r =>
        have e:putE d c=7:=by rw [putE,if_neg h,hat];simp [hany,hlk2]
        conv=>whnf
        refine rdw ?_;repeat' ((with_reducible apply tw)<;>intro _)
        ·rw [e]
         exact .inl ⟨by decide,rfl,rfl⟩
        ·rename_i hx
         exact absurd (by show ((0:Int)<((nums (x :: r)).length:Int));rw [nums_length];simp) hx
      | nil =>
        have e:putE d c=0:=by rw [putE,if_neg h,hat];simp [hany,hlk2]
        conv=>whnf
        refine rdw ?_;repeat' ((with_reducible apply tw)<;>intro _)
        ((with_reducible refine draw_pl ttOk zOk foOk mixedOk pl39x10 ?_ ?_);(focus kernel_rfl);(conv=>whnf))
        refine rdw ?_;repeat' ((with_reducible apply tw)<;>intro _)
        refine (cloneC_ok d.certs (by omega)).mono ?_
        rintro _ _ ⟨rfl,rfl⟩
        conv=>whnf
        refine rdw ?_;repeat' ((with_reducible apply tw)<;>intro _)
        refine (ownCertO_ok c hc).mono ?_
        rintro _ _ ⟨rfl,rfl⟩
        conv=>whnf
        refine rdw ?_;repeat' ((with_reducible apply tw)<;>intro _)
        (refine Or.inr ?_;(conv=>whnf))
        refine (insertC_ok d.certs c _ hps hl).mono ?_
        rintro _ _ ⟨rfl,rfl⟩
        conv=>whnf
        refine rdw ?_;repeat' ((with_reducible apply tw)<;>intro _)
        exact .inr ⟨e,rfl,rfl⟩
 | some y =>
   have hpy:d.certs[pos d.certs c.round c.author]? = some y:=by
    rw [atC_pos hd.sorted] at hat
    exact (Option.filter_eq_some_iff.1 hat).1
   have hlt:=(List.getElem?_eq_some_iff.1 hpy).1
   conv=>whnf
   refine rdw ?_;repeat' ((with_reducible apply tw)<;>intro _)
   ·rename_i h
    have e:putE d c=6:=by rw [putE,if_pos h]
    rw [e]
    exact .inl ⟨by decide,rfl,rfl⟩
   ·rename_i h
    ((with_reducible refine draw_pl ttOk zOk foOk mixedOk pl39x4 ?_ ?_);(focus kernel_rfl);(conv=>whnf))
    refine rdw ?_;repeat' ((with_reducible apply tw)<;>intro _)
    ((with_reducible apply rd_intro);(focus (intro K hK;(conv=>whnf);exact ⟨by omega,y.cs,certsD_at hpy,hK⟩));(conv=>whnf))
    refine rdw ?_;repeat' ((with_reducible apply tw)<;>intro _)
    ·rename_i h2
     have e:putE d c=4:=by rw [putE,if_neg h,hat];simp [h2]
     rw [e]
     exact .inl ⟨by decide,rfl,rfl⟩
    ·rename_i h2
     have e:putE d c=5:=by rw [putE,if_neg h,hat];simp [h2]
     rw [e]
     exact .inl ⟨by decide,rfl,rfl⟩
theorem put_dagO (d:Dag) (hd:d.fit) (hl:d.certs.length≤4294967296) (hlow:0≤d.low∧d.low≤1099511627776) (c:Cert) (hc:c.tiny) (hr:isF c.round) (hr1:1≤c.round) (ha:isF c.author) :
  ACalls Tryz.prog 39 [d.av,c.avo] [] (fun av L=>av = .tup [(putD d c).av,.d (.int .i64 (putE d c))]∧L=[]):=by
 refine acalls_data (put_dagO_row d hd hl hlow c hc hr hr1 ha) ?_
 rintro _ _ (⟨h,rfl,rfl⟩|⟨h,rfl,rfl⟩)
 ·rw [putD,if_neg h]
  conv=>whnf
  exact ⟨rfl,rfl⟩
 ·rw [putD,if_pos h,h]
  conv=>whnf
  exact ⟨rfl,rfl⟩
end Go.Proofs.YtodimgkpjnpbiaaGreat
open Go Go.Claim Go.Proofs
namespace Go.Proofs.YtodimgkpjnpbiaaGreat
open Go.Ab Go.RowKit Go.MapKept
attribute [local irreducible] ACalls AW ADraw Into fltB fnear
set_option maxRecDepth 100000
theorem infoInt:(Tryz.prog.info? 3).map (fun i=>(i.zero,i.size,i.bytes))=some (some (.int .i64 0),1,8):=by kernel_rfl
theorem int_triv {k:Nat} {u:Value} {sh:Sh} (h:([Value.int .i64 5]:List Value)[k]? = some u) (hs:(gsh 1)[k]? = some sh):Triv sh u:=by
 cases k with
 | zero =>
   simp at h
   subst h
   have:sh = .int:=by simpa [gsh] using hs.symm
   subst this
   exact ⟨5,rfl⟩
 | succ k=>simp at h
set_option maxRecDepth 100000 in
theorem numbers_sp (lo n k:Nat) (w:World) (v:Value) (hv:SL lo n w (k+1) 1 v) (hbl:∀ b,lo≤b→b<lo+n→b<w.heap.size) :
  Calls Tryz.prog 44 #[v] w fun e w'=>e = .returned (.tuple #[])∧Spoil lo n w w':=by
 obtain ⟨p,len,cap,rfl,k1,⟨k2,k3⟩,k4⟩:=id hv
 go_enter Tryz.func44,Tryz.ntmps44
 go_wp2
 go_loopw [2] (fun i wr=>∃ j:Nat,j≤len∧i = .int .i64 j∧Spoil lo n w wr)
  (fun i _=>len - (intOf i).toNat)
 case atStart=>exact ⟨0,Nat.zero_le _,rfl,Spoil.refl _ _ _⟩
 case round =>
  obtain ⟨j,hj,rfl,hS⟩:=hrel
  have hv2:=hS.sl _ _ _ hv
  have hbl2:∀ b,lo≤b→b<lo+n→b<wr.heap.size:=fun b h1 h2=>Nat.lt_of_lt_of_le (hbl b h1 h2) hS.size
  by_cases hj2:j<len
  ·rcases k4 with rfl|⟨⟨b,off,sp⟩,rfl,rfl,_⟩
   ·omega
   obtain ⟨p',len',cap',e1,_,_,k5⟩:=hv2
   cases e1
   rcases k5 with h0|⟨q,e2,_,q3,q4,⟨cur,e',mk,q5,q6,q7,q8,q9⟩,q10⟩
   ·omega
   cases e2
   obtain ⟨u,u1,x,rfl⟩:=q10 j 0 .int hj2 rfl
   simp only [Nat.mul_one,Nat.add_zero] at u1 q5 q9 q3 q4
   have hlt:off+j<cur.size:=by omega
   have hfz:wr.frozen? { block:=b,off:=off+j }=false:=by
    have hq6:=q6 _ hlt
    unfold World.frozen?
    rw [q5]
    show (decide (mk.1≤off+j)&&decide (off+j<mk.2))=false
    by_cases hp:mk.1≤off+j
    ·rw [decide_eq_false (p:=off+j<mk.2) fun h=>hq6 ⟨hp,h⟩,Bool.and_false]
    ·rw [decide_eq_false hp,Bool.false_and]
   go_wp2
   refine ⟨⟨j+1,by omega,by go_num,hS.trans (Spoil.cell q3 q4 q5 fun sh hs => ?_)⟩,by simp [intOf];omega⟩
   rw [q7,Nat.mod_one] at hs
   have:sh = .int:=by simpa [gsh] using hs.symm
   subst this
   exact ⟨-99,rfl⟩
  ·obtain rfl:j=len:=by omega
   obtain ⟨i0,hi,hz0,hz1,hz2⟩:=info_parts infoInt
   go_wp2_with (at_builtin;refine wpList_append_spoil _ rfl (.tmp 12) (.tmp 13) 23 rfl 3 i0 (.int .i64 0) 1 8 Tryz.underlying23 hi hz0 hz1 hz2 rfl (by decide) (lo:=lo) (n:=n) (k:=k) (v := .slice p j cap) ?sl rfl ⟨wr.heap.size,0,none⟩ 1 [.int .i64 5] rfl rfl ?c1 ?c2 (fun j u sh h hs=>int_triv h hs) (by decide) ?bl ?go)
   case sl=>exact (Spoil.keeps hbl2 (Keeps.alloc wr _)).sl _ _ _ hv2
   case c1=>intro j u hj;match j,hj with|0,hj=>simp at hj;subst hj;simp [Addr.add]
   case c2=>intro u hu;simp at hu;subst hu;rfl
   case bl=>exact fun b h1 h2=>Nat.lt_of_lt_of_le (hbl2 b h1 h2) (Keeps.alloc wr _).size
   case go =>
    intro v' w' hS2 _
    go_wp2
    go_end0
    exact ⟨rfl,(hS.trans (Spoil.keeps hbl2 (Keeps.alloc wr _))).trans hS2⟩
theorem sl_slice {lo n:Nat} {w:World} {k m:Nat} {v:Value} (h:SL lo n w (k+1) m v):∃ p l c,v = .slice p l c:=by
 obtain ⟨p,l,c,e,_⟩:=h
 exact ⟨p,l,c,e⟩
theorem isle_out {lo n:Nat} {w:World} (hbl:∀ b,lo≤b→b<lo+n→b<w.heap.size) {b:Nat} (h:w.heap.size≤b):¬(lo≤b∧b<lo+n):=fun k=>Nat.lt_irrefl _ (Nat.lt_of_lt_of_le (hbl b k.1 k.2) h)
theorem Spoil.cellOf {lo n:Nat} {w w':World} (h:Spoil lo n w w') {a:Addr} {u:Value} (hn:¬(lo≤a.block∧a.block<lo+n)) (hc:w.cell? a=some u):w'.cell? a=some u:=by
 rw [World.cell?_of_block (w:=w) (h.block a.block (cell?_lt hc) hn)]
 exact hc
set_option maxHeartbeats 400000 in
set_option maxRecDepth 100000 in
theorem header_sp (lo n k:Nat) (w:World) (au ro:Int) (v1 v2:Value) (h1:SL lo n w (k+1) 1 v1) (h2:SL lo n w (k+1) 1 v2) (hbl:∀ b,lo≤b→b<lo+n→b<w.heap.size) :
  Calls Tryz.prog 43 #[.agg #[.int .i64 au,.int .i64 ro,v1,v2]] w fun e w'=>e = .returned (.tuple #[])∧Spoil lo n w w':=by
 obtain ⟨p1,l1,c1,rfl⟩:=sl_slice h1
 obtain ⟨p2,l2,c2,rfl⟩:=sl_slice h2
 have hA:=Spoil.keeps hbl (Keeps.alloc w (.cells #[.int .i64 au,.int .i64 ro,.slice p1 l1 c1,.slice p2 l2 c2] 45))
 have hblA:∀ b,lo≤b→b<lo+n→b<(w.alloc (.cells #[.int .i64 au,.int .i64 ro,.slice p1 l1 c1,.slice p2 l2 c2] 45)).heap.size:=fun b g1 g2=>Nat.lt_of_lt_of_le (hbl b g1 g2) hA.size
 have hc2:(w.alloc (.cells #[.int .i64 au,.int .i64 ro,.slice p1 l1 c1,.slice p2 l2 c2] 45)).cell? ⟨w.heap.size,3,none⟩=some (.slice p2 l2 c2):=by
  rw [cell_of_row _ _ 3 _ _ _ (heap_alloc_new w _)];rfl
 have hout:¬(lo≤w.heap.size∧w.heap.size<lo+n):=isle_out hbl (Nat.le_refl _)
 go_enter Tryz.func43,Tryz.ntmps43
 go_wp2_with (go_at_call 44;(with_reducible refine (numbers_sp lo n k _ (.slice p1 l1 c1) (hA.sl _ _ _ h1) hblA).mono ?_);rintro e w1 ⟨rfl,hS1⟩;have hc3:=Spoil.cellOf (a:=⟨w.heap.size,3,none⟩) hS1 hout hc2)
 go_wp2_with (go_at_call 44;(with_reducible refine (numbers_sp lo n k _ (.slice p2 l2 c2) (hS1.sl _ _ _ (hA.sl _ _ _ h2)) (fun b g1 g2=>Nat.lt_of_lt_of_le (hblA b g1 g2) hS1.size)).mono ?_);rintro e w2 ⟨rfl,hS2⟩)
 go_end0
 exact ⟨rfl,hA.trans (hS1.trans hS2)⟩
set_option maxHeartbeats 400000 in
set_option maxRecDepth 100000 in
theorem cert_sp (lo n k:Nat) (w:World) (au ro di:Int) (v1 v2 v3:Value) (h1:SL lo n w (k+1) 1 v1) (h2:SL lo n w (k+1) 1 v2) (h3:SL lo n w (k+1) 1 v3) (hbl:∀ b,lo≤b→b<lo+n→b<w.heap.size) :
  Calls Tryz.prog 22 #[.agg #[.int .i64 au,.int .i64 ro,v1,v2,.int .i64 di,v3]] w fun e w'=>e = .returned (.tuple #[])∧Spoil lo n w w':=by
 obtain ⟨p1,l1,c1,rfl⟩:=sl_slice h1
 obtain ⟨p2,l2,c2,rfl⟩:=sl_slice h2
 obtain ⟨p3,l3,c3,rfl⟩:=sl_slice h3
 have hA:=Spoil.keeps hbl (Keeps.alloc w (.cells #[.int .i64 au,.int .i64 ro,.slice p1 l1 c1,.slice p2 l2 c2,.int .i64 di,.slice p3 l3 c3] 47))
 have hblA:∀ b,lo≤b→b<lo+n→b<(w.alloc (.cells #[.int .i64 au,.int .i64 ro,.slice p1 l1 c1,.slice p2 l2 c2,.int .i64 di,.slice p3 l3 c3] 47)).heap.size:=fun b g1 g2=>Nat.lt_of_lt_of_le (hbl b g1 g2) hA.size
 have hc2:(w.alloc (.cells #[.int .i64 au,.int .i64 ro,.slice p1 l1 c1,.slice p2 l2 c2,.int .i64 di,.slice p3 l3 c3] 47)).cell? ⟨w.heap.size,5,none⟩=some (.slice p3 l3 c3):=by
  rw [cell_of_row _ _ 5 _ _ _ (heap_alloc_new w _)];rfl
 have hout:¬(lo≤w.heap.size∧w.heap.size<lo+n):=isle_out hbl (Nat.le_refl _)
 go_enter Tryz.func22,Tryz.ntmps22
 go_wp2_with (go_at_call 43;(with_reducible refine (header_sp lo n k _ au ro (.slice p1 l1 c1) (.slice p2 l2 c2) (hA.sl _ _ _ h1) (hA.sl _ _ _ h2) hblA).mono ?_);rintro e w1 ⟨rfl,hS1⟩;have hc3:=Spoil.cellOf (a:=⟨w.heap.size,5,none⟩) hS1 hout hc2)
 go_wp2_with (go_at_call 44;(with_reducible refine (numbers_sp lo n k _ (.slice p3 l3 c3) (hS1.sl _ _ _ (hA.sl _ _ _ h3)) (fun b g1 g2=>Nat.lt_of_lt_of_le (hblA b g1 g2) hS1.size)).mono ?_);rintro e w2 ⟨rfl,hS2⟩)
 go_end0
 exact ⟨rfl,hA.trans (hS1.trans hS2)⟩
theorem unfroz_at {w:World} {b o:Nat} {cur:Array Value} {e:TypeId} {mk:Nat×Nat} (h:w.heap[b]? = some (.cells cur e mk)) (hu:unfroz mk cur.size) (ho:o<cur.size):w.frozen? ⟨b,o,none⟩=false:=by
 have hq6:=hu o ho
 unfold World.frozen?
 rw [h]
 show (decide (mk.1≤o)&&decide (o<mk.2))=false
 by_cases hp:mk.1≤o
 ·rw [decide_eq_false (p:=o<mk.2) fun h=>hq6 ⟨hp,h⟩,Bool.and_false]
 ·rw [decide_eq_false hp,Bool.false_and]
def TrivL (l:List Sh) (us:List Value):Prop:=∀ (i:Nat) (u:Value) (sh:Sh),us[i]? = some u→l[i]? = some sh→Triv sh u
theorem tl_n:TrivL [] []:=fun i u sh h=>by simp at h
theorem tl_c {sh:Sh} {u:Value} {l:List Sh} {us:List Value} (h:Triv sh u) (k:TrivL l us):TrivL (sh :: l) (u :: us):=fun i v sv h1 h2=>by
 cases i with
 | zero=>simp at h1 h2;subst h1;subst h2;exact h
 | succ i=>exact k i v sv (by simpa using h1) (by simpa using h2)
theorem Spoil.elem {lo n:Nat} {w:World} {b off j m:Nat} {cur:Array Value} {e:TypeId} {mk:Nat×Nat} (q3:lo≤b) (q4:b<lo+n) (q5:w.heap[b]? = some (.cells cur e mk)) (q7:gsz e=m) (q8:off % m=0) (us:List Value) (hl:us.length≤m) (ht:TrivL (gsh m) us) :
  Spoil lo n w (w.setCells b (off+j * m) us) :=
 Spoil.cells q3 q4 us _ w cur q5 fun i u hi sh hs=>ht i u sh hi (by
  have him:i<m:=Nat.lt_of_lt_of_le (List.getElem?_eq_some_iff.1 hi).1 hl
  have:(off+j * m+i) % m=i:=by
   rw [Nat.add_right_comm,Nat.add_mul_mod_self_right,Nat.add_mod,q8,Nat.zero_add,Nat.mod_mod,Nat.mod_eq_of_lt him]
  rwa [q7,this] at hs)
theorem alloc_row (w:World) (cur:Array Value) (e:TypeId) (j:Nat):(w.alloc (.cells cur e)).cell? ((⟨w.heap.size,0,none⟩:Addr).add j)=cur[j]? := by
 rw [add_lit _ rfl,Nat.zero_add,cell_of_row _ _ _ _ _ _ (heap_alloc_new w _)]
theorem elem6 {lo n k:Nat} {w:World} {b off len cap j:Nat} (h:SL lo n w (k+1) 6 (.slice (some ⟨b,off,none⟩) len cap)) (hj:j<len) :
  ∃ (z0:Int) (z1:Int) (u2:Value) (u3:Value) (z4:Int) (u5:Value) (cur:Array Value) (e:TypeId) (mk:Nat×Nat),w.cell? ⟨b,off+j * 6,none⟩=some (.int .i64 z0)∧w.cell? ⟨b,off+j * 6+1,none⟩=some (.int .i64 z1)∧w.cell? ⟨b,off+j * 6+2,none⟩=some (u2)∧w.cell? ⟨b,off+j * 6+3,none⟩=some (u3)∧w.cell? ⟨b,off+j * 6+4,none⟩=some (.int .i64 z4)∧w.cell? ⟨b,off+j * 6+5,none⟩=some (u5)∧w.frozen? ⟨b,off+j * 6,none⟩=false∧w.frozen? ⟨b,off+j * 6+1,none⟩=false∧w.frozen? ⟨b,off+j * 6+2,none⟩=false∧w.frozen? ⟨b,off+j * 6+3,none⟩=false∧w.frozen? ⟨b,off+j * 6+4,none⟩=false∧w.frozen? ⟨b,off+j * 6+5,none⟩=false∧SL lo n w k 1 u2∧SL lo n w k 1 u3∧SL lo n w k 1 u5∧lo≤b∧b<lo+n∧w.heap[b]? = some (.cells cur e mk)∧gsz e=6∧off % 6=0:=by
 obtain ⟨p',len',cap',e1,k1,_,k5⟩:=h
 cases e1
 rcases k5 with h0|⟨q,e2,_,q3,q4,⟨cur,e',mk,q5,q6,q7,q8,q9⟩,q10⟩
 ·omega
 cases e2
 have hlt:off+j * 6+5<cur.size:=by
  have:(j+1) * 6≤cap * 6:=Nat.mul_le_mul_right _ (by omega)
  simp only at q9
  omega
 obtain ⟨u0,c0,z0,rfl⟩:=q10 j 0 .int hj rfl
 obtain ⟨u1,c1,z1,rfl⟩:=q10 j 1 .int hj rfl
 obtain ⟨u2,c2,s2⟩:=q10 j 2 (.sl 1) hj rfl
 obtain ⟨u3,c3,s3⟩:=q10 j 3 (.sl 1) hj rfl
 obtain ⟨u4,c4,z4,rfl⟩:=q10 j 4 .int hj rfl
 obtain ⟨u5,c5,s5⟩:=q10 j 5 (.sl 1) hj rfl
 exact ⟨z0,z1,u2,u3,z4,u5,cur,e',mk,c0,c1,c2,c3,c4,c5,unfroz_at q5 q6 (by omega),unfroz_at q5 q6 (by omega),unfroz_at q5 q6 (by omega),unfroz_at q5 q6 (by omega),unfroz_at q5 q6 (by omega),unfroz_at q5 q6 (by omega),s2,s3,s5,q3,q4,q5,q7,q8⟩
theorem info6:(Tryz.prog.info? 47).map (fun i=>(i.zero,i.size,i.bytes))=some (some (.agg #[.int .i64 0,.int .i64 0,.slice none 0 0,.slice none 0 0,.int .i64 0,.slice none 0 0]),6,96):=by kernel_rfl
set_option maxHeartbeats 2000000 in
set_option maxRecDepth 100000 in
theorem certs_sp (lo n k:Nat) (w:World) (v:Value) (hv:SL lo n w (k+2) 6 v) (hbl:∀ b,lo≤b→b<lo+n→b<w.heap.size) :
  Calls Tryz.prog 12 #[v] w fun e w'=>e = .returned (.tuple #[])∧Spoil lo n w w':=by
 obtain ⟨p,len,cap,rfl,k1,⟨k2,k3⟩,k4⟩:=id hv
 go_enter Tryz.func12,Tryz.ntmps12
 go_wp2
 go_loopw [2] (fun i wr=>∃ j:Nat,j≤len∧i = .int .i64 j∧Spoil lo n w wr)
  (fun i _=>len - (intOf i).toNat)
 case atStart=>exact ⟨0,Nat.zero_le _,rfl,Spoil.refl _ _ _⟩
 case round =>
  obtain ⟨j,hj,rfl,hS⟩:=hrel
  have hv2:=hS.sl _ _ _ hv
  have hbl2:∀ b,lo≤b→b<lo+n→b<wr.heap.size:=fun b h1 h2=>Nat.lt_of_lt_of_le (hbl b h1 h2) hS.size
  by_cases hj2:j<len
  ·rcases k4 with rfl|⟨⟨b,off,sp⟩,rfl,rfl,_⟩
   ·omega
   clear hv
   obtain ⟨z0,z1,u2,u3,z4,u5,cur,e',mk,c0,c1,c2,c3,c4,c5,f0,f1,f2,f3,f4,f5,s2,s3,s5,q3,q4,q5,q7,q8⟩:=elem6 hv2 hj2
   clear q3 q4 q5 q7 q8 f0 f1 f2 f3 f4 f5
   go_wp2_with (go_at_call 22;(with_reducible refine (cert_sp lo n k _ z0 z1 z4 u2 u3 u5 s2 s3 s5 hbl2).mono ?_);rintro e w1 ⟨rfl,hS1⟩;obtain ⟨zb0,zb1,ub2,ub3,zb4,ub5,cur,e',mk,cb0,cb1,cb2,cb3,cb4,cb5,fb0,fb1,fb2,fb3,fb4,fb5,sb2,sb3,sb5,q3,q4,q5,q7,q8⟩:=elem6 (hS1.sl _ _ _ hv2) hj2)
   exact ⟨⟨j+1,by omega,by go_num,(hS.trans hS1).trans (Spoil.elem q3 q4 q5 q7 q8 [.int .i64 0,.int .i64 0,.slice none 0 0,.slice none 0 0,.int .i64 (-9),.slice none 0 0] (by decide) (tl_c ⟨_,rfl⟩ (tl_c ⟨_,rfl⟩ (tl_c rfl (tl_c rfl (tl_c ⟨_,rfl⟩ (tl_c rfl tl_n)))))))⟩,by simp [intOf];omega⟩
  ·obtain rfl:j=len:=by omega
   obtain ⟨i0,hi,hz0,hz1,hz2⟩:=info_parts info6
   go_wp2_with (at_builtin;refine wpList_append_spoil _ rfl (.tmp 18) (.tmp 20) 22 rfl 47 i0 (.agg #[.int .i64 0,.int .i64 0,.slice none 0 0,.slice none 0 0,.int .i64 0,.slice none 0 0]) 6 96 Tryz.underlying22 hi hz0 hz1 hz2 rfl (by decide) (lo:=lo) (n:=n) (k:=k+1) (v := .slice p j cap) ?sl rfl ⟨wr.heap.size,0,none⟩ 1 [.int .i64 0,.int .i64 0,.slice none 0 0,.slice none 0 0,.int .i64 0,.slice none 0 0] rfl rfl ?c1 ?c2 (tl_c ⟨_,rfl⟩ (tl_c ⟨_,rfl⟩ (tl_c rfl (tl_c rfl (tl_c ⟨_,rfl⟩ (tl_c rfl tl_n))))):TrivL (gsh 6) _) (by decide) ?bl ?go)
   case sl=>exact (Spoil.keeps hbl2 (Keeps.alloc wr _)).sl _ _ _ hv2
   case c1=>intro j u hj;rw [alloc_row];simpa using hj
   case c2=>intro u hu;simp at hu;rcases hu with rfl|rfl|rfl|rfl|rfl|rfl<;>rfl
   case bl=>exact fun b h1 h2=>Nat.lt_of_lt_of_le (hbl2 b h1 h2) (Keeps.alloc wr _).size
   case go =>
    intro v' w' hS2 _
    go_wp2
    go_end0
    exact ⟨rfl,(hS.trans (Spoil.keeps hbl2 (Keeps.alloc wr _))).trans hS2⟩
end Go.Proofs.YtodimgkpjnpbiaaGreat
namespace Go.Ab
open Go.RowKit
end Go.Ab
