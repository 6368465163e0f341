/- PrimaryStrange: contracts. -/
import Derived.Test.YtolkmjfkkkiboaaGreatPrimaryStrangeCodF
set_option linter.unusedVariables false
set_option linter.unusedSimpArgs false
namespace Go.Proofs.YtolkmjfkkkiboaaGreat
open Go.Ab Go.RowKit Go.MapKept
attribute [local irreducible] ACalls AW ADraw Into fltB fnear
set_option maxRecDepth 100000
theorem Valid.tiny {d:Dag} (h:Valid d):Go.Proofs.YtolkmjfkkkiboaaGreat.tiny d.certs∧∀ c∈d.certs,c.tiny:=by
 have hn:=of_decide_eq_true h.nodes
 refine ⟨by have:=h.len;unfold Go.Proofs.YtolkmjfkkkiboaaGreat.tiny;omega,fun c hc => ?_⟩
 have h1:=h.certs c hc
 refine ⟨?_,?_,?_⟩
 ·have:=h1.head.bats.1;unfold Go.Proofs.YtolkmjfkkkiboaaGreat.tiny;omega
 ·have:=h1.head.pars.1;unfold Go.Proofs.YtolkmjfkkkiboaaGreat.tiny;omega
 ·have:=rise_len2 (show riseB c.sigs 1 65536 from ⟨h1.sigs.1,fun x hx=>by have:=h1.sigs.2 x hx;omega⟩)
  unfold Go.Proofs.YtolkmjfkkkiboaaGreat.tiny;omega
theorem copyCerts_row (l:List Cert) (hl:tiny l) (h:∀ c∈l,c.tiny):ACalls Tryz.prog 29 [.d (.sl 6 (certsD l))] [] (fun av L=>av = .arr 0∧L=[.row 47 6 (certsD l) false]):=by
 have hx:=certsD_length l
 unfold tiny at hl
 (refine acalls_go ttOk zOk foOk Tryz.func29 rfl Tryz.ntmps29 rfl true rfl ?_);(conv=>whnf)
 refine loop_go ttOk zOk foOk (σ:=Nat) (fun k=>([(0,.d (.sl 6 (certsD l))),(3,.arr 0),(4,.d (.int .i64 k))],[.row 47 6 (certsD (l.take k)) false])) (fun k=>k≤l.length) (fun k=>l.length - k) [0,3,4] ?_ ?_
 ·conv=>whnf
  exact ⟨0,rfl,rfl,by omega⟩
 ·intro k hk
  conv=>whnf
  rw [hx]
  refine rdw ?_;repeat' ((with_reducible apply tw)<;>intro _)
  ·rename_i h2
   refine Exists.elim (⟨_,List.getElem?_eq_getElem (by omega)⟩:∃ a,l[k]? = some a) fun a ha => ?_
   have hkn:=certsD_length (l.take k)
   refine ⟨by omega,a.cs,certsD_at ha,?_⟩
   conv=>whnf
   refine rdw ?_;repeat' ((with_reducible apply tw)<;>intro _)
   refine (copyCert_ok a (h a (List.mem_of_getElem? ha))).mono ?_
   rintro _ _ ⟨rfl,rfl⟩
   conv=>whnf
   refine rdw ?_;repeat' ((with_reducible apply tw)<;>intro _)
   refine ⟨by simp [hkn];omega,?_⟩
   conv=>whnf
   refine rdw ?_;repeat' ((with_reducible apply tw)<;>intro _)
   refine ⟨k+1,rfl,?_,by omega,by omega⟩
   rw [List.take_add_one,ha]
   simp [certsD,Cert.cs]
  ·rename_i h2
   rw [List.take_of_length_le (by omega)]
   exact ⟨rfl,rfl⟩
theorem rising_ext:∀ {a b:List Int},risingI a→risingI b→(∀ x,x∈a↔x∈b)→a=b:=by
 intro a b ha hb h
 have hp:a.Perm b:=(List.perm_ext_iff_of_nodup (rising_nodup ha) (rising_nodup hb)).2 h
 exact hp.eq_of_pairwise (fun x y _ _ h1 h2=>by omega) ha hb
theorem lackB_eq {d:Dag} (h:Valid d) (r x:Int):lackB d r x = !(ofR d.certs (r - 1)).any fun y=>y.digest == x:=by
 unfold lackB
 cases hc:certOf d x with
 | none =>
   have:((ofR d.certs (r - 1)).any fun y=>y.digest == x)=false:=by
    rw [List.any_eq_false]
    intro y hy e
    have hy':=(List.mem_filter.1 hy).1
    unfold certOf at hc
    cases hg:getC d.certs x with
    | none =>
      unfold getC at hg
      rw [List.findIdx?_eq_none_iff] at hg
      have:=hg y hy'
      simp at this e
      exact this e
    | some i =>
      rw [hg] at hc
      have hlt:i<d.certs.length:=by
       unfold getC at hg
       exact (List.findIdx?_eq_some_iff_getElem.1 hg).1
      simp only [Option.bind_some] at hc
      rw [List.getElem?_eq_getElem hlt] at hc
      cases hc
   rw [this];rfl
 | some c =>
   obtain ⟨i,hg,hi⟩:∃ i,getC d.certs x=some i∧d.certs[i]? = some c:=by
    unfold certOf at hc
    cases hg:getC d.certs x with
    | none=>rw [hg] at hc;cases hc
    | some i=>rw [hg] at hc;exact ⟨i,rfl,hc⟩
   have hcx:c.digest=x:=by
    unfold getC at hg
    obtain ⟨h1,h2,_⟩:=List.findIdx?_eq_some_iff_getElem.1 hg
    rw [List.getElem?_eq_getElem h1] at hi
    cases hi
    simpa using h2
   by_cases hr:c.round=r - 1
   ·have:((ofR d.certs (r - 1)).any fun y=>y.digest == x)=true:=by
     rw [List.any_eq_true]
     exact ⟨c,List.mem_filter.2 ⟨List.mem_of_getElem? hi,by simpa using hr⟩,by simpa using hcx⟩
    rw [this];simp [hr]
   ·have:((ofR d.certs (r - 1)).any fun y=>y.digest == x)=false:=by
     rw [List.any_eq_false]
     intro y hy e
     obtain ⟨hy1,hy2⟩:=List.mem_filter.1 hy
     have e2:y.digest=x:=by simpa using e
     have:y=c:=by
      obtain ⟨j,hj⟩:=List.getElem?_of_mem hy1
      have hnd:=h.dig
      have e1:(d.certs.map (·.digest))[j]? = some x:=by rw [List.getElem?_map,hj];simp [e2]
      have e3:(d.certs.map (·.digest))[i]? = some x:=by rw [List.getElem?_map,hi];simp [hcx]
      have hjl:=(List.getElem?_eq_some_iff.1 e1).1
      have:=(List.getElem?_inj hjl hnd).1 (e1.trans e3.symm)
      subst this
      rw [hj] at hi;exact Option.some.inj hi
     subst this
     exact hr (of_decide_eq_true hy2)
    rw [this];simp [hr]
theorem lacks_lack {d:Dag} (h:Valid d) (c:Cert):lacksI d c=lackI d c:=by
 unfold lacksI lackI
 by_cases hr:c.round - 1≤d.low
 ·rw [if_pos hr,if_pos (by omega)]
 ·rw [if_neg hr,if_neg (by omega)]
  refine List.filter_congr fun x _ => ?_
  exact lackB_eq h c.round x
theorem at_of {d:Dag} (c:Cert):(atX d.certs c.round c.author=none∧atC d.certs c.round c.author=none)∨∃ i y,atX d.certs c.round c.author=some i∧d.certs[i]? = some y∧atC d.certs c.round c.author=some y:=by
 rw [atC_of]
 cases h:atX d.certs c.round c.author with
 | none=>exact .inl ⟨rfl,rfl⟩
 | some i =>
   unfold atX at h
   have hlt:=(List.findIdx?_eq_some_iff_getElem.1 h).1
   exact .inr ⟨i,_,rfl,List.getElem?_eq_getElem hlt,by simp [List.getElem?_eq_getElem hlt]⟩
theorem getC_any {l:List Cert} {x:Int} (h:getC l x=none):(l.any fun y=>y.digest == x)=false:=by
 unfold getC at h
 rw [List.findIdx?_eq_none_iff] at h
 rw [List.any_eq_false]
 intro y hy
 have:=h y hy
 simpa using this
theorem getC_any2 {l:List Cert} {x:Int} {i:Nat} (h:getC l x=some i):(l.any fun y=>y.digest == x)=true:=by
 unfold getC at h
 obtain ⟨h1,h2,_⟩:=List.findIdx?_eq_some_iff_getElem.1 h
 rw [List.any_eq_true]
 exact ⟨l[i],List.getElem_mem h1,by simpa using h2⟩
theorem getC_at {d:Dag} (h:Valid d) {x:Int} {i:Nat} {y:Cert} (hy:d.certs[i]? = some y):(getC d.certs x=some i↔y.digest=x):=by
 have hlt:=(List.getElem?_eq_some_iff.1 hy).1
 constructor
 ·intro hg
  unfold getC at hg
  obtain ⟨h1,h2,_⟩:=List.findIdx?_eq_some_iff_getElem.1 hg
  rw [List.getElem?_eq_getElem h1] at hy
  cases hy
  simpa using h2
 ·intro e
  unfold getC
  rw [List.findIdx?_eq_some_iff_getElem]
  refine ⟨hlt,?_,fun j hj => ?_⟩
  ·rw [List.getElem?_eq_getElem hlt] at hy
   cases hy
   simpa using e
  ·intro e2
   have e3:(d.certs.map (·.digest))[j]? = (d.certs.map (·.digest))[i]? := by
    rw [List.getElem?_map,List.getElem?_map,hy,List.getElem?_eq_getElem (by omega)]
    simp only [Option.map_some]
    rw [e]
    simpa using e2
   have:=(List.getElem?_inj (by simpa using (by omega:j<d.certs.length)) h.dig).1 e3
   omega
theorem rAdd_row (d:Dag) (h:Valid d) (c:Cert) (hct:c.tiny) (hfl:fewL c) (hok:okCert d.nodes c) :
  ACalls Tryz.prog 153 [d.av,c.av] [] (fun av L=>(putE d c≠0∧av = .tup [d.av,.d (.int .i64 (putE d c))]∧L=[])∨(putE d c=0∧av = .tup [.agg [.d (.int .i64 d.nodes),.d (.int .i64 d.low),.arr 0],.d (.int .i64 0)]∧L=[.row 47 6 (certsD (insC d c).certs) false])):=by
 have hcl:=certsD_length d.certs
 have hlen:=h.len
 have hfd:few d.certs:=by unfold few;omega
 have hlk:=rLacks_ok d hfd c (by have:=hct.pars;unfold tiny at this;omega) hok.head.round
 rw [lacks_lack h] at hlk
 (refine acalls_go ttOk zOk foOk Tryz.func153 rfl Tryz.ntmps153 rfl true rfl ?_);(conv=>whnf)
 refine (rCert_ok c hfl d.nodes).mono ?_
 rintro _ _ ⟨rfl,rfl⟩
 rw [@decide_eq_true _ (Classical.propDecidable _) hok]
 conv=>whnf
 refine rdw ?_;repeat' ((with_reducible apply tw)<;>intro _)
 ·rename_i hlow
  have e:putE d c=6:=by rw [putE,if_pos hlow]
  rw [e]
  exact .inl ⟨by decide,rfl,rfl⟩
 ·rename_i hlow
  refine (rAt_ok d hfd c.round c.author).mono ?_
  rintro _ _ ⟨rfl,rfl⟩
  conv=>whnf
  refine (rFind_ok d hfd c.digest).mono ?_
  rintro _ _ ⟨rfl,rfl⟩
  rcases at_of (d:=d) c with ⟨hx,hat⟩|⟨i,y,hx,hy,hat⟩
  ·rw [show atI d.certs c.round c.author = -1 by rw [atI,hx];rfl]
   cases hg:getC d.certs c.digest with
   | none =>
     rw [show getI d.certs c.digest = -1 by rw [getI,hg];rfl]
     conv=>whnf
     refine rdw ?_;repeat' ((with_reducible apply tw)<;>intro _)
     refine hlk.mono ?_
     rintro _ _ ⟨rfl,rfl⟩
     obtain ⟨lk,hlk2⟩:∃ lk,lackI d c=lk:=⟨_,rfl⟩
     rw [hlk2]
     cases lk with
     | cons z r =>
       have e:putE d c=7:=by rw [putE,if_neg hlow,hat];simp [getC_any hg,hlk2]
       conv=>whnf
       refine rdw ?_;repeat' ((with_reducible apply tw)<;>intro _)
       ·rw [e]
        exact .inl ⟨by decide,rfl,rfl⟩
       ·rename_i hx
        exact absurd (by show ((0:Int)<((nums (z :: r)).length:Int));rw [nums_length];simp) hx
     | nil =>
       have e:putE d c=0:=by rw [putE,if_neg hlow,hat];simp [getC_any hg,hlk2]
       conv=>whnf
       refine rdw ?_;repeat' ((with_reducible apply tw)<;>intro _)
       have hle:=pos_le d.certs c.round c.author
       refine loop_go ttOk zOk foOk (σ:=Nat) (fun j=>([(2,.ptr 0 0),(3,.ptr 1 0),(4,.ptr 2 0),(8,.d (.int .i64 j))],[.cells d.cells,.cells c.cells,.cells [.d (.int .i64 0),.d (.int .i64 0),.d .nils]])) (fun j=>j≤pos d.certs c.round c.author) (fun j=>d.certs.length - j) [2,3,4,8] ?_ ?_
       ·conv=>whnf
        exact ⟨0,rfl,rfl,Nat.zero_le _⟩
       ·intro j hj
        conv=>whnf
        ((with_reducible refine draw_pl ttOk zOk foOk mixedOk pl153x14 ?_ ?_);(focus kernel_rfl);(conv=>whnf))
        refine rdw ?_;repeat' ((with_reducible apply tw)<;>intro _)
        ·rename_i hjl
         refine Exists.elim (⟨_,List.getElem?_eq_getElem (by omega)⟩:∃ y,d.certs[j]? = some y) fun y hy => ?_
         have hb:=pos_iff (r:=c.round) (a:=c.author) h.sorted hy
         ((with_reducible apply rd_intro);(focus (intro K hK;(conv=>whnf);exact ⟨by omega,y.cs,certsD_at hy,hK⟩));(conv=>whnf))
         refine rdw ?_;repeat' ((with_reducible apply tw)<;>intro _)
         ((with_reducible apply rd_intro);(focus (intro K hK;(conv=>whnf);exact ⟨by omega,y.cs,certsD_at hy,hK⟩));(conv=>whnf))
         refine rdw ?_;repeat' ((with_reducible apply tw)<;>intro _)
         refine (rBefore_ok y.round y.author c.round c.author).mono ?_
         rintro _ _ ⟨rfl,rfl⟩
         rw [show decide (y.round<c.round∨y.round=c.round∧y.author<c.author)=y.before c.round c.author from rfl]
         cases hbb:y.before c.round c.author with
         | true =>
           conv=>whnf
           refine rdw ?_;repeat' ((with_reducible apply tw)<;>intro _)
           exact ⟨j+1,rfl,rfl,by have:=hb.1 hbb;omega,by omega⟩
         | false =>
           have hje:j=pos d.certs c.round c.author:=by
            rcases Nat.lt_or_ge j (pos d.certs c.round c.author) with h4|h4
            ·rw [hb.2 h4] at hbb;cases hbb
            ·omega
           conv=>whnf
           refine rdw ?_;repeat' ((with_reducible apply tw)<;>intro _)
           subst hje
           clear hj
           obtain ⟨P,hP⟩:∃ P,pos d.certs c.round c.author=P:=⟨_,rfl⟩
           have hins:(insC d c).certs=d.certs.take P++c :: d.certs.drop P:=by rw [← hP];rfl
           rw [hP] at hle
           rw [hP,hins]
           have hcp1:=copyCerts_row (d.certs.take P) (by unfold tiny;simp;omega) (fun c hc=>h.tiny.2 c (List.mem_of_mem_take hc))
           have hcp2:=copyCerts_ok (d.certs.drop P) (by unfold tiny;simp;omega) (fun c hc=>h.tiny.2 c (List.mem_of_mem_drop hc))
           have hs1:List.drop (Int.toNat 0) (List.take ((P:Int)).toNat (certsD d.certs))=certsD (d.certs.take P):=by
            rw [show (Int.toNat 0)=0 from rfl,List.drop_zero,show ((P:Int)).toNat=P from rfl]
            simp [certsD]
           have hs2:List.drop ((P:Int)).toNat (List.take ((certsD d.certs).length:Int).toNat (certsD d.certs))=certsD (d.certs.drop P):=by
            rw [show ((P:Int)).toNat=P from rfl,show ((certsD d.certs).length:Int).toNat=(certsD d.certs).length from rfl,List.take_length]
            simp [certsD]
           have hl1:=certsD_length (d.certs.take P)
           have hl2:=certsD_length (d.certs.drop P)
           have hl3:(d.certs.take P).length≤65536:=Nat.le_trans (List.length_take_le' ..) hlen
           have hl4:(d.certs.drop P).length≤65536:=by rw [List.length_drop];omega
           ((with_reducible refine draw_pl ttOk zOk foOk mixedOk pl153x17 ?_ ?_);(focus kernel_rfl);(conv=>whnf))
           refine rdw ?_;repeat' ((with_reducible apply tw)<;>intro _)
           ((with_reducible apply rd_intro);(focus (intro K hK;(conv=>whnf);exact ⟨by omega,by omega,by omega,hK⟩));(conv=>whnf))
           refine rdw ?_;repeat' ((with_reducible apply tw)<;>intro _)
           rw [hs1]
           refine hcp1.mono ?_
           rintro _ _ ⟨rfl,rfl⟩
           conv=>whnf
           refine rdw ?_;repeat' ((with_reducible apply tw)<;>intro _)
           refine (copyCert_ok c hct).mono ?_
           rintro _ _ ⟨rfl,rfl⟩
           conv=>whnf
           refine rdw ?_;repeat' ((with_reducible apply tw)<;>intro _)
           refine ⟨by simp;omega,?_⟩
           conv=>whnf
           refine rdw ?_;repeat' ((with_reducible apply tw)<;>intro _)
           ((with_reducible refine draw_pl ttOk zOk foOk mixedOk pl153x18 ?_ ?_);(focus kernel_rfl);(conv=>whnf))
           refine rdw ?_;repeat' ((with_reducible apply tw)<;>intro _)
           ((with_reducible apply rd_intro);(focus (intro K hK;(conv=>whnf);exact ⟨by omega,by omega,by omega,hK⟩));(conv=>whnf))
           refine rdw ?_;repeat' ((with_reducible apply tw)<;>intro _)
           rw [hs2]
           refine hcp2.mono ?_
           rintro _ _ ⟨rfl,rfl⟩
           conv=>whnf
           refine rdw ?_;repeat' ((with_reducible apply tw)<;>intro _)
           refine ⟨by simp [certsD];omega,?_⟩
           conv=>whnf
           refine rdw ?_;repeat' ((with_reducible apply tw)<;>intro _)
           refine .inr ⟨e,rfl,?_⟩
           simp [certsD,Cert.cs]
        ·rename_i hjl
         have hje:j=pos d.certs c.round c.author:=by omega
         subst hje
         clear hj
         obtain ⟨P,hP⟩:∃ P,pos d.certs c.round c.author=P:=⟨_,rfl⟩
         have hins:(insC d c).certs=d.certs.take P++c :: d.certs.drop P:=by rw [← hP];rfl
         rw [hP] at hle
         rw [hP,hins]
         have hcp1:=copyCerts_row (d.certs.take P) (by unfold tiny;simp;omega) (fun c hc=>h.tiny.2 c (List.mem_of_mem_take hc))
         have hcp2:=copyCerts_ok (d.certs.drop P) (by unfold tiny;simp;omega) (fun c hc=>h.tiny.2 c (List.mem_of_mem_drop hc))
         have hs1:List.drop (Int.toNat 0) (List.take ((P:Int)).toNat (certsD d.certs))=certsD (d.certs.take P):=by
          rw [show (Int.toNat 0)=0 from rfl,List.drop_zero,show ((P:Int)).toNat=P from rfl]
          simp [certsD]
         have hs2:List.drop ((P:Int)).toNat (List.take ((certsD d.certs).length:Int).toNat (certsD d.certs))=certsD (d.certs.drop P):=by
          rw [show ((P:Int)).toNat=P from rfl,show ((certsD d.certs).length:Int).toNat=(certsD d.certs).length from rfl,List.take_length]
          simp [certsD]
         have hl1:=certsD_length (d.certs.take P)
         have hl2:=certsD_length (d.certs.drop P)
         have hl3:(d.certs.take P).length≤65536:=Nat.le_trans (List.length_take_le' ..) hlen
         have hl4:(d.certs.drop P).length≤65536:=by rw [List.length_drop];omega
         ((with_reducible refine draw_pl ttOk zOk foOk mixedOk pl153x17 ?_ ?_);(focus kernel_rfl);(conv=>whnf))
         refine rdw ?_;repeat' ((with_reducible apply tw)<;>intro _)
         ((with_reducible apply rd_intro);(focus (intro K hK;(conv=>whnf);exact ⟨by omega,by omega,by omega,hK⟩));(conv=>whnf))
         refine rdw ?_;repeat' ((with_reducible apply tw)<;>intro _)
         rw [hs1]
         refine hcp1.mono ?_
         rintro _ _ ⟨rfl,rfl⟩
         conv=>whnf
         refine rdw ?_;repeat' ((with_reducible apply tw)<;>intro _)
         refine (copyCert_ok c hct).mono ?_
         rintro _ _ ⟨rfl,rfl⟩
         conv=>whnf
         refine rdw ?_;repeat' ((with_reducible apply tw)<;>intro _)
         refine ⟨by simp;omega,?_⟩
         conv=>whnf
         refine rdw ?_;repeat' ((with_reducible apply tw)<;>intro _)
         ((with_reducible refine draw_pl ttOk zOk foOk mixedOk pl153x18 ?_ ?_);(focus kernel_rfl);(conv=>whnf))
         refine rdw ?_;repeat' ((with_reducible apply tw)<;>intro _)
         ((with_reducible apply rd_intro);(focus (intro K hK;(conv=>whnf);exact ⟨by omega,by omega,by omega,hK⟩));(conv=>whnf))
         refine rdw ?_;repeat' ((with_reducible apply tw)<;>intro _)
         rw [hs2]
         refine hcp2.mono ?_
         rintro _ _ ⟨rfl,rfl⟩
         conv=>whnf
         refine rdw ?_;repeat' ((with_reducible apply tw)<;>intro _)
         refine ⟨by simp [certsD];omega,?_⟩
         conv=>whnf
         refine rdw ?_;repeat' ((with_reducible apply tw)<;>intro _)
         refine .inr ⟨e,rfl,?_⟩
         simp [certsD,Cert.cs]
   | some k =>
     rw [show getI d.certs c.digest=k by rw [getI,hg];rfl]
     have e:putE d c=5:=by rw [putE,if_neg hlow,hat];simp [getC_any2 hg]
     conv=>whnf
     refine rdw ?_;repeat' ((with_reducible apply tw)<;>intro _)
     rw [e]
     exact .inl ⟨by decide,rfl,rfl⟩
  ·have hgi:=getC_at h (x:=c.digest) hy
   rw [show atI d.certs c.round c.author=i by rw [atI,hx];rfl]
   conv=>whnf
   refine rdw ?_;repeat' ((with_reducible apply tw)<;>intro _)
   ·rename_i hab
    have hab':getC d.certs c.digest=some i:=by
     cases hg:getC d.certs c.digest with
     | none=>rw [getI,hg] at hab;exact absurd hab (by show ¬((i:Int) = -1);omega)
     | some k=>rw [getI,hg] at hab;rw [show i=k from Int.ofNat_inj.1 hab]
    have e:putE d c=4:=by rw [putE,if_neg hlow,hat];simp [hgi.1 hab']
    rw [e]
    exact .inl ⟨by decide,rfl,rfl⟩
   ·rename_i hab
    have hne:y.digest≠c.digest:=fun h5=>hab (by rw [getI,hgi.2 h5];rfl)
    have e:putE d c=5:=by rw [putE,if_neg hlow,hat];simp [hne]
    rw [e]
    exact .inl ⟨by decide,rfl,rfl⟩
theorem rAdd_ok (d:Dag) (h:Valid d) (c:Cert) (hct:c.tiny) (hfl:fewL c) (hok:okCert d.nodes c) :
  ACalls Tryz.prog 153 [d.av,c.av] [] (fun av L=>av = .tup [(putD d c).av,.d (.int .i64 (putE d c))]∧L=[]):=by
 refine acalls_data (rAdd_row d h c hct hfl hok) ?_
 rintro _ _ (⟨h,rfl,rfl⟩|⟨h,rfl,rfl⟩)
 ·rw [putD,if_neg h]
  conv=>whnf
  exact ⟨rfl,rfl⟩
 ·rw [putD,if_pos h,h]
  conv=>whnf
  exact ⟨rfl,rfl⟩
def Cert.light (c:Cert):Prop:=c.bats.length≤3000∧c.pars.length≤3000∧c.sigs.length≤3000
theorem certsW3_ok (l:List Cert) (hl:few l) (h:∀ c∈l,c.ok):ACalls Tryz.prog 22 [.d (.sl 6 (certsD l))] [] (fun av L=>(∃ n:Int,av = .d (.int .i64 n)∧(n≤3000→∀ c∈l,c.light))∧L=[]):=by
 have hcl:=certsD_length l
 unfold few at hl
 (refine acalls_go ttOk zOk foOk Tryz.func22 rfl Tryz.ntmps22 rfl false rfl ?_);(conv=>whnf)
 refine loop_go2 ttOk zOk foOk (σ:=Int) (ρ:=Nat) (fun w j=>([(0,.d (.sl 6 (certsD l))),(3,.d (.int .i64 w)),(4,.d (.int .i64 j))],[])) (fun w j=>j≤l.length∧(0≤w∧w≤1000000000000000)∧(w≤3000→∀ c∈l.take j,c.light)) (fun _ j=>l.length - j) [0,3,4] ?_ ?_
 ·conv=>whnf
  exact ⟨l.length,0,by rw [hcl];rfl,rfl,by omega,⟨by omega,by omega⟩,by simp⟩
 ·rintro w j ⟨hj,⟨hw0,hw1⟩,hall⟩
  conv=>whnf
  rw [hcl]
  refine rdz ?_;repeat' ((with_reducible apply tw)<;>intro _)
  ·rename_i hjl hwl
   refine Exists.elim (⟨_,List.getElem?_eq_getElem (by omega)⟩:∃ c,l[j]? = some c) fun c hc => ?_
   have hk:=h c (List.mem_of_getElem? hc)
   have h1:=hk.bats.1
   have h2:=hk.pars.1
   have h3:=hk.sigs.1
   unfold few at h1 h2 h3
   refine ⟨by omega,c.cs,certsD_at hc,?_⟩
   conv=>whnf
   refine (certW_ok c hk).mono ?_
   rintro _ _ ⟨rfl,rfl⟩
   conv=>whnf
   refine rdz ?_;repeat' ((with_reducible apply tw)<;>intro _)
   refine ⟨_,j+1,rfl,rfl,⟨by omega,⟨by omega,by omega⟩,fun hw y hy => ?_⟩,by omega⟩
   rw [take_snoc' hc] at hy
   rcases List.mem_append.1 hy with hy|hy
   ·exact hall (by omega) y hy
   ·simp at hy;rw [hy];exact ⟨by omega,by omega,by omega⟩
  ·exact ⟨⟨_,rfl,fun hw=>by omega⟩,rfl⟩
  ·rw [List.take_of_length_le (by omega)] at hall
   exact ⟨⟨_,rfl,hall⟩,rfl⟩
theorem heavyD3_ok (d:Dag) (h:d.ok):ACalls Tryz.prog 21 [d.av] [] (fun av L=>(∃ b,av = .d (.bool b)∧(b=false→d.certs.length≤80∧∀ c∈d.certs,c.light))∧L=[]):=by
 have hcl:=certsD_length d.certs
 (refine acalls_go ttOk zOk foOk Tryz.func21 rfl Tryz.ntmps21 rfl false rfl ?_);(conv=>whnf)
 rw [hcl]
 refine rdz ?_;repeat' ((with_reducible apply tw)<;>intro _)
 ·exact ⟨⟨_,rfl,by intro h;cases h⟩,rfl⟩
 ·rename_i h80
  refine (certsW3_ok d.certs h.certs.1 h.certs.2).mono ?_
  rintro _ _ ⟨⟨n,rfl,hn⟩,rfl⟩
  conv=>whnf
  exact ⟨⟨_,rfl,fun h3=>⟨by omega,hn (by have:=of_decide_eq_false h3;omega)⟩⟩,rfl⟩
theorem rNum_ok (n:Int):ACalls Tryz.prog 31 [.d (.int .i64 n)] [] (fun av L=>av = .d (.bool (decide (0≤n∧n≤1099511627776)))∧L=[]):=by
 (refine acalls_go ttOk zOk foOk Tryz.func31 rfl Tryz.ntmps31 rfl false rfl ?_);(conv=>whnf)
 refine rdz ?_;repeat' ((with_reducible apply tw)<;>intro _)
 ·rename_i h1
  exact ⟨boolEq (by simp;omega),rfl⟩
 ·rename_i h1
  exact ⟨by rw [decide_eq_false (by omega)];rfl,rfl⟩
theorem Cert.light.all {c:Cert} (h:c.light):fewL c∧c.tiny:=by
 obtain ⟨h1,h2,h3⟩:=h
 exact ⟨⟨by unfold few;omega,by unfold few;omega,by unfold few;omega⟩,⟨by show c.bats.length≤_;omega,by show c.pars.length≤_;omega,by show c.sigs.length≤_;omega⟩⟩
theorem ownCerts_row (l:List Cert) (hl:tiny l) (h:∀ c∈l,c.tiny):ACalls Tryz.prog 149 [.d (.sl 6 (certsD l))] [] (fun av L=>av = .arr 0∧L=[.row 47 6 (certsD l) false]):=by
 have hx:=certsD_length l
 unfold tiny at hl
 (refine acalls_go ttOk zOk foOk Tryz.func149 rfl Tryz.ntmps149 rfl true rfl ?_);(conv=>whnf)
 refine loop_go ttOk zOk foOk (σ:=Nat) (fun k=>([(5,.d (.sl 6 (certsD l))),(6,.d (.int .i64 l.length)),(7,.d (.int .i64 k)),(2,.arr 0)],[.row 47 6 (certsD (l.take k)) false])) (fun k=>k≤l.length) (fun k=>l.length - k) [5,6,7,2] ?_ ?_
 ·conv=>whnf
  exact ⟨0,by rw [hx];rfl,rfl,by omega⟩
 ·intro k hk
  conv=>whnf
  refine rdz ?_;repeat' ((with_reducible apply tw)<;>intro _)
  ·rename_i h2
   refine Exists.elim (⟨_,List.getElem?_eq_getElem (by omega)⟩:∃ a,l[k]? = some a) fun a ha => ?_
   have hkn:=certsD_length (l.take k)
   refine ⟨by omega,a.cs,certsD_at ha,?_⟩
   conv=>whnf
   refine rdz ?_;repeat' ((with_reducible apply tw)<;>intro _)
   refine (ownCert_ok a (h a (List.mem_of_getElem? ha))).mono ?_
   rintro _ _ ⟨rfl,rfl⟩
   conv=>whnf
   refine rdz ?_;repeat' ((with_reducible apply tw)<;>intro _)
   refine ⟨by simp [hkn];omega,?_⟩
   conv=>whnf
   refine rdz ?_;repeat' ((with_reducible apply tw)<;>intro _)
   refine ⟨k+1,rfl,?_,by omega,by omega⟩
   rw [List.take_add_one,ha]
   simp [certsD,Cert.cs]
  ·rename_i h2
   rw [List.take_of_length_le (by omega)]
   exact ⟨rfl,rfl⟩
theorem dagOwn_row (d:Dag) (hl:tiny d.certs) (h:∀ c∈d.certs,c.tiny):ACalls Tryz.prog 148 [d.av] [] (fun av L=>av = .agg [.d (.int .i64 d.nodes),.d (.int .i64 d.low),.arr 0]∧L=[.row 47 6 (certsD d.certs) false]):=by
 have h1:=ownCerts_row d.certs hl h
 (refine acalls_go ttOk zOk foOk Tryz.func148 rfl Tryz.ntmps148 rfl true rfl ?_);(conv=>whnf)
 refine h1.mono ?_
 rintro _ _ ⟨rfl,rfl⟩
 conv=>whnf
 refine rdz ?_;repeat' ((with_reducible apply tw)<;>intro _)
 exact ⟨rfl,rfl⟩
theorem dagOwn_ok (d:Dag) (hl:tiny d.certs) (h:∀ c∈d.certs,c.tiny):ACalls Tryz.prog 148 [d.av] [] (fun av L=>av=d.av∧L=[]):=by
 refine acalls_data (dagOwn_row d hl h) ?_
 rintro _ _ ⟨rfl,rfl⟩
 conv=>whnf
 exact ⟨rfl,rfl⟩
theorem few_nil {α:Type}:few ([]:List α):=Nat.zero_le _
theorem cloneV_row (l:List Vote) (hl:l.length≤1099511627776):ACalls Tryz.prog 147 [.d (.sl 3 (votesD l))] [] (fun av L=>av = .arr 0∧L=[.row 106 3 (votesD l) false]):=by
 have hll:=votesD_length l
 (refine acalls_go ttOk zOk foOk Tryz.func147 rfl Tryz.ntmps147 rfl true rfl ?_);(conv=>whnf)
 intro b hb
 conv=>whnf
 refine rdw ?_;repeat' ((with_reducible apply tw)<;>intro _)
 ·rename_i h
  have:l=[]:=by simpa [votesD] using hb h
  subst this
  exact ⟨rfl,rfl⟩
 ·rename_i h
  refine ⟨by rw [hll];show (0+l.length) * 24≤_;omega,?_⟩
  conv=>whnf
  exact ⟨rfl,rfl⟩
theorem cloneV_ok (l:List Vote) (hl:l.length≤1099511627776):ACalls Tryz.prog 147 [.d (.sl 3 (votesD l))] [] (fun av L=>av = .d (.sl 3 (votesD l))∧L=[]):=by
 refine acalls_data (cloneV_row l hl) ?_
 rintro _ _ ⟨rfl,rfl⟩
 conv=>whnf
 exact ⟨rfl,rfl⟩
theorem ownCerts_ok (l:List Cert) (hl:tiny l) (h:∀ c∈l,c.tiny):ACalls Tryz.prog 149 [.d (.sl 6 (certsD l))] [] (fun av L=>av = .d (.sl 6 (certsD l))∧L=[]):=by
 refine acalls_data (ownCerts_row l hl h) ?_
 rintro _ _ ⟨rfl,rfl⟩
 conv=>whnf
 exact ⟨rfl,rfl⟩
structure Prim.tiny (p:Prim):Prop where
 mine:p.mine.tiny
 acks:p.acks.length≤1099511627776
 votes:p.votes.length≤1099511627776
 dag:Go.Proofs.YtolkmjfkkkiboaaGreat.tiny p.dag.certs∧∀ c∈p.dag.certs,c.tiny
 late:Go.Proofs.YtolkmjfkkkiboaaGreat.tiny p.late∧∀ c∈p.late,c.tiny
theorem primOwn_ok (p:Prim) (h:p.tiny):ACalls Tryz.prog 94 [p.av] [] (fun av L=>av=p.av∧L=[]):=by
 (refine acalls_go ttOk zOk foOk Tryz.func94 rfl Tryz.ntmps94 rfl false rfl ?_);(conv=>whnf)
 ((with_reducible refine draw_pl ttOk zOk foOk mixedOk pl94x1 ?_ ?_);(focus kernel_rfl);(conv=>whnf))
 refine rdw ?_;repeat' ((with_reducible apply tw)<;>intro _)
 refine (own_ok p.mine h.mine).mono ?_
 rintro _ _ ⟨rfl,rfl⟩
 conv=>whnf
 refine rdw ?_;repeat' ((with_reducible apply tw)<;>intro _)
 refine (cloneI_ok p.acks h.acks).mono ?_
 rintro _ _ ⟨rfl,rfl⟩
 conv=>whnf
 refine rdw ?_;repeat' ((with_reducible apply tw)<;>intro _)
 refine (cloneV_ok p.votes h.votes).mono ?_
 rintro _ _ ⟨rfl,rfl⟩
 conv=>whnf
 refine rdw ?_;repeat' ((with_reducible apply tw)<;>intro _)
 ((with_reducible refine draw_pl ttOk zOk foOk mixedOk pl94x2 ?_ ?_);(focus kernel_rfl);(conv=>whnf))
 refine rdw ?_;repeat' ((with_reducible apply tw)<;>intro _)
 refine (dagOwn_ok p.dag h.dag.1 h.dag.2).mono ?_
 rintro _ _ ⟨rfl,rfl⟩
 conv=>whnf
 refine rdw ?_;repeat' ((with_reducible apply tw)<;>intro _)
 refine (ownCerts_ok p.late h.late.1 h.late.2).mono ?_
 rintro _ _ ⟨rfl,rfl⟩
 conv=>whnf
 refine rdw ?_;repeat' ((with_reducible apply tw)<;>intro _)
 exact ⟨rfl,rfl⟩
def certP (p:Prim):Cert:=⟨p.mine.author,p.mine.round,p.mine.bats,p.mine.pars,p.dig,p.acks⟩
def clearP (p:Prim):Prim:={ p with mine:=cz0,dig:=0,acks:=[] }
def doneP (p:Prim):Bool := !(decide (p.dig=0)||decide ((p.acks.length:Int)<quo p.nodes))
def certdP (p:Prim):Prim:=if doneP p then inP (clearP p) (certP p) else p
def certMsg (c:Cert):Msg:=⟨6,0,0,0,0,0,[],cz0,c,[]⟩
set_option maxHeartbeats 4000000 in
theorem certified_ok (p:Prim) (out:List Msg) (ho:out.length≤100000) (hn:isN p.nodes=true) (hd:doneP p=true→okCert p.dag.nodes (certP p)∧(certP p).tiny∧Fine p.dag p.late∧p.dag.certs.length+p.late.length<60000∧risingC p.late):ACalls Tryz.prog 146 [.ptr 0 0] (p.st out) (fun av L=>av = .tup []∧∃ j,L=(certdP p).sj j (out++if doneP p then tellO (clearP p) (certMsg (certP p)) [] p.nodes.toNat else [])):=by
 (refine acalls_go ttOk zOk foOk Tryz.func146 rfl Tryz.ntmps146 rfl false rfl ?_);(conv=>whnf)
 ((with_reducible refine draw_pl ttOk zOk foOk mixedOk pl146x0 ?_ ?_);(focus kernel_rfl);(conv=>whnf))
 refine rdw ?_;repeat' ((with_reducible apply tw)<;>intro _)
 ·rename_i h0
  have hd:doneP p=false:=by simp [doneP,h0]
  refine ⟨rfl,false,?_⟩
  rw [certdP,hd]
  simp only [Bool.false_eq_true,if_false,List.append_nil]
  rfl
 ·rename_i h0
  have hnn:=of_decide_eq_true hn
  refine (q_ok p.nodes ⟨by omega,by omega⟩).mono ?_
  rintro _ _ ⟨rfl,rfl⟩
  conv=>whnf
  refine rdw ?_;repeat' ((with_reducible apply tw)<;>intro _)
  ·rename_i hq
   replace hq:((nums p.acks).length:Int)<quo p.nodes:=hq
   rw [nums_length] at hq
   have hd:doneP p=false:=by simp [doneP,h0,hq]
   refine ⟨rfl,false,?_⟩
   rw [certdP,hd]
   simp only [Bool.false_eq_true,if_false,List.append_nil]
   rfl
  ·rename_i hq
   replace hq:¬((nums p.acks).length:Int)<quo p.nodes:=hq
   rw [nums_length] at hq
   have hdn:doneP p=true:=by simp [doneP,h0];omega
   obtain ⟨hok,hct,hf,hroom,hris⟩:=hd hdn
   have htl:=tellO_len (clearP p) (certMsg (certP p)) [] p.nodes.toNat
   have htell:=tell_ok (clearP p) (by show 0≤p.nodes∧p.nodes≤16;omega) out (by omega) (certMsg (certP p)) cz0_tiny hct [] few_nil
   have hin:=stepIn_ok (clearP p) (out++tellO (clearP p) (certMsg (certP p)) [] p.nodes.toNat) (by rw [List.length_append];omega) (certP p) hok hct hf hroom hris 0
   rw [certdP,if_pos hdn,if_pos hdn]
   rw [inO,if_neg (fun h=>by have:=h.2;omega),List.append_nil] at hin
   ((with_reducible refine draw_pl ttOk zOk foOk mixedOk pl146x1 ?_ ?_);(focus kernel_rfl);(conv=>whnf))
   refine rdw ?_;repeat' ((with_reducible apply tw)<;>intro _)
   refine (acalls_nilsL [(0,7,1),(0,8,1),(0,10,1)] rfl (acalls_nw htell (.cons (.refl _) (.cons (.agg ?_) (.cons (.refl _) .nil))))).mono ?_
   ·repeat (first|exact .nil|refine .cons (.refl _) ?_|refine .cons (.nils _ (by decide)) ?_)
   ·rintro _ _ ⟨rfl,j,rfl⟩
    cases j
    all_goals
     conv=>whnf
     refine rdw ?_;repeat' ((with_reducible apply tw)<;>intro _)
     refine hin.mono ?_
     rintro _ _ ⟨rfl,j,rfl⟩
     cases j
     all_goals
      conv=>whnf
      refine rdw ?_;repeat' ((with_reducible apply tw)<;>intro _)
      first
       | exact ⟨rfl,false,rfl⟩
       | exact ⟨rfl,true,rfl⟩
set_option maxHeartbeats 4000000 in
theorem lateMay_true (n:Int) (l:List Cert) (hl:l.length≤256) (hs:risingC l) (hok:∀ c∈l,okCert n c∧fewL c):ACalls Tryz.prog 76 [.d (.sl 6 (certsD l)),.d (.int .i64 n)] [] (fun av L=>av = .d (.bool true)∧L=[]):=by
 have hcl:=certsD_length l
 (refine acalls_go ttOk zOk foOk Tryz.func76 rfl Tryz.ntmps76 rfl false rfl ?_);(conv=>whnf)
 refine loop_go ttOk zOk foOk (σ:=Nat) (fun j=>([(0,.d (.sl 6 (certsD l))),(1,.d (.int .i64 n)),(7,.d (.sl 6 (certsD l))),(8,.d (.int .i64 l.length)),(9,.d (.int .i64 j))],[])) (fun j=>j≤l.length) (fun j=>l.length - j) [0,1,7,8,9] ?_ ?_
 ·conv=>whnf
  exact ⟨0,by rw [hcl];rfl,rfl,Nat.zero_le _⟩
 ·intro j hj
  conv=>whnf
  refine rdw ?_;repeat' ((with_reducible apply tw)<;>intro _)
  ·rename_i hjl
   refine Exists.elim (⟨_,List.getElem?_eq_getElem (by omega)⟩:∃ c,l[j]? = some c) fun c hc => ?_
   obtain ⟨h1,h2⟩:=hok c (List.mem_of_getElem? hc)
   have hm:ACalls Tryz.prog 130 [c.av,.d (.int .i64 n)] [] (fun av L=>av = .d (.bool true)∧L=[]):=(mayCert_ok c h2 n).mono (by rintro _ _ ⟨rfl,rfl⟩;exact ⟨by simp [h1],rfl⟩)
   refine ⟨by omega,c.cs,certsD_at hc,?_⟩
   conv=>whnf
   refine rdw ?_;repeat' ((with_reducible apply tw)<;>intro _)
   ((with_reducible refine draw_pl ttOk zOk foOk mixedOk pl76x4 ?_ ?_);(focus kernel_rfl);(conv=>whnf))
   refine rdw ?_;repeat' ((with_reducible apply tw)<;>intro _)
   refine hm.mono ?_
   rintro _ _ ⟨rfl,rfl⟩
   conv=>whnf
   refine rdw ?_;repeat' ((with_reducible apply tw)<;>intro _)
   ·rename_i hj0
    replace hj0:(j:Int)>0:=hj0
    refine Exists.elim (⟨_,List.getElem?_eq_getElem (by omega)⟩:∃ b,l[j - 1]? = some b) fun b hb => ?_
    have hbc:b.digest<c.digest:=by
     have:=List.pairwise_iff_getElem.1 hs (j - 1) j (by omega) (by omega) (by omega)
     rw [List.getElem?_eq_getElem (by omega)] at hb hc
     cases hb;cases hc;exact this
    ((with_reducible apply rd_intro);(focus (intro K hK;(conv=>whnf);exact ⟨by omega,b.cs,(by rw [show ((j:Int) - 1).toNat=j - 1 by omega];exact certsD_at hb),hK⟩));(conv=>whnf))
    repeat' (first|(first|((with_reducible first|apply rd_intro|apply gd_and);(focus ((conv=>whnf)<;>first|rfl|(intro K hK;(conv=>whnf);first|exact hK|exact z_wrap (by omega) hK)));conv=>whnf)|((with_reducible apply z_wrap);(focus omega);conv=>whnf)|((with_reducible first|apply mt_dec|apply mt_eq|apply mt_ne|apply mt_not|apply mt_any)<;>(intro _;conv=>whnf)))|((with_reducible apply gd_and);(focus ((conv=>whnf);intro K hK;(conv=>whnf);exact ⟨by omega,b.cs,(by rw [show ((j:Int) - 1).toNat=j - 1 by omega];exact certsD_at hb),hK⟩));(conv=>whnf)))
    ·rename_i h
     exact absurd (show b.digest≥c.digest from h) (by omega)
    ·exact ⟨j+1,rfl,rfl,by omega,by omega⟩
   ·exact ⟨j+1,rfl,rfl,by omega,by omega⟩
  ·rename_i hjl
   refine ⟨?_,rfl⟩
   rw [decide_eq_true (show ((certsD l).length:Int)≤256 by omega)]
structure Bare (p:Prim):Prop where
 mine:p.mine.author=0∧p.mine.round=0∧p.mine.bats=[]∧p.mine.pars=[]
 dig:p.dig=0
 acks:p.acks=[]
theorem mine0_ok (p:Prim) (h:Bare p):ACalls Tryz.prog 73 [p.av] [] (fun av L=>av = .d (.bool true)∧L=[]):=by
 obtain ⟨⟨a1,a2,a3,a4⟩,a5,a6⟩:=h
 obtain ⟨id,nodes,round,age,said,⟨ma,mr,mb,mp,md,ms⟩,dig,acks,votes,dag,late⟩:=p
 simp only at a1 a2 a3 a4 a5 a6
 subst a1 a2 a3 a4 a5 a6
 (refine acalls_go ttOk zOk foOk Tryz.func73 rfl Tryz.ntmps73 rfl false rfl ?_);(conv=>whnf)
 refine rdz ?_;repeat' ((with_reducible apply tw)<;>intro _)
 intro z hz
 have hz0:z=0:=by rw [hz];rfl
 subst hz0
 conv=>whnf
 refine rdz ?_;repeat' ((with_reducible apply tw)<;>intro _)
 intro z2 hz2
 have hz0:z2=0:=by rw [hz2];rfl
 subst hz0
 conv=>whnf
 refine rdz ?_;repeat' ((with_reducible apply tw)<;>intro _)
 exact ⟨rfl,rfl⟩
theorem voteMay_nil:ACalls Tryz.prog 74 [.d (.sl 3 [])] [] (fun av L=>av = .d (.bool true)∧L=[]):=by
 (refine acalls_go ttOk zOk foOk Tryz.func74 rfl Tryz.ntmps74 rfl false rfl ?_);(conv=>whnf)
 refine scope_go ttOk zOk foOk (σ:=Unit) (fun _=>([(0,.d (.sl 3 [])),(3,.d (.int .i64 0))],[])) (fun k _=>k=1) (fun _ _=>0) ?_ ?_
 ·rintro k rest hk _ rfl
  have e:=Option.some.inj (show some _=some rest from hk)
  subst e
  clear hk
  conv=>whnf
  refine rdz ?_;repeat' ((with_reducible apply tw)<;>intro _)
  exact ⟨rfl,rfl⟩
 ·intro pass
  conv=>whnf
  refine aw_at (σ:=Unit) (fun _=>([(0,.d (.sl 3 [])),(3,.d (.int .i64 0))],[])) (fun _=>True) [0,3] ?_ ?_
  ·conv=>whnf
   exact ⟨(),rfl,rfl,trivial⟩
  ·intro _ _
   exact pass 1 _ rfl () rfl
structure BareMay (p:Prim):Prop where
 bare:Bare p
 isn:isN p.nodes=true
 id:1≤p.id∧p.id≤p.nodes
 round:1≤p.round∧p.round≤1099511627776
 age:0≤p.age∧p.age≤1099511627776
 said:0≤p.said∧p.said≤p.round
 votes:p.votes=[]
 dag:Valid p.dag
 same:p.dag.nodes=p.nodes
 late:p.late.length≤256∧risingC p.late∧∀ c∈p.late,okCert p.nodes c∧fewL c
end Go.Proofs.YtolkmjfkkkiboaaGreat
