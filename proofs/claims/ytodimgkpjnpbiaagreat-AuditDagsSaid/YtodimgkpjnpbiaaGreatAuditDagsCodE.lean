/- AuditDags: contracts. -/
import Derived.Test.YtodimgkpjnpbiaaGreatAuditDagsCodD
set_option linter.unusedVariables false
set_option linter.unusedSimpArgs false
namespace Go.Proofs.YtodimgkpjnpbiaaGreat
open Go.Ab Go.RowKit
end Go.Proofs.YtodimgkpjnpbiaaGreat
namespace Go.Proofs.YtodimgkpjnpbiaaGreat
open Go.Ab Go.RowKit Go.MapKept
attribute [local irreducible] ACalls AW ADraw Into fltB fnear
set_option maxRecDepth 100000
theorem take_snoc' {α:Type} {l:List α} {j:Nat} {c:α} (hc:l[j]? = some c):l.take (j+1)=l.take j++[c]:=by rw [List.take_add_one,hc];rfl
theorem headW_ok (c:Cert) (h:c.ok):ACalls Tryz.prog 47 [c.hav] [] (fun av L=>av = .d (.int .i64 (1+c.bats.length+c.pars.length))∧L=[]):=by
 have h1:=h.bats.1
 have h2:=h.pars.1
 unfold few at h1 h2
 have e1:=nums_length c.bats
 have e2:=nums_length c.pars
 (refine acalls_go ttOk zOk foOk Tryz.func47 rfl Tryz.ntmps47 rfl false rfl ?_);(conv=>whnf)
 rw [e1]
 refine rdw ?_;repeat' ((with_reducible apply tw)<;>intro _)
 rw [e2]
 refine rdw ?_;repeat' ((with_reducible apply tw)<;>intro _)
 exact ⟨rfl,rfl⟩
theorem certW_ok (c:Cert) (h:c.ok):ACalls Tryz.prog 24 [c.av] [] (fun av L=>av = .d (.int .i64 (1+c.bats.length+c.pars.length+c.sigs.length))∧L=[]):=by
 have h1:=h.bats.1
 have h2:=h.pars.1
 have h3:=h.sigs.1
 unfold few at h1 h2 h3
 have e3:=nums_length c.sigs
 (refine acalls_go ttOk zOk foOk Tryz.func24 rfl Tryz.ntmps24 rfl false rfl ?_);(conv=>whnf)
 ((with_reducible refine draw_pl ttOk zOk foOk mixedOk pl24x1 ?_ ?_);(focus kernel_rfl);(conv=>whnf))
 refine rdw ?_;repeat' ((with_reducible apply tw)<;>intro _)
 refine (headW_ok c h).mono ?_
 rintro _ _ ⟨rfl,rfl⟩
 conv=>whnf
 refine rdw ?_;repeat' ((with_reducible apply tw)<;>intro _)
 rw [e3]
 refine rdw ?_;repeat' ((with_reducible apply tw)<;>intro _)
 exact ⟨rfl,rfl⟩
theorem Valid.tiny {d:Dag} (h:Valid d):Go.Proofs.YtodimgkpjnpbiaaGreat.tiny d.certs∧∀ c∈d.certs,c.tiny:=by
 have hn:=of_decide_eq_true h.nodes
 refine ⟨by have:=h.len;unfold Go.Proofs.YtodimgkpjnpbiaaGreat.tiny;omega,fun c hc => ?_⟩
 have h1:=h.certs c hc
 refine ⟨?_,?_,?_⟩
 ·have:=h1.head.bats.1;unfold Go.Proofs.YtodimgkpjnpbiaaGreat.tiny;omega
 ·have:=h1.head.pars.1;unfold Go.Proofs.YtodimgkpjnpbiaaGreat.tiny;omega
 ·have:=rise_len2 (show riseB c.sigs 1 65536 from ⟨h1.sigs.1,fun x hx=>by have:=h1.sigs.2 x hx;omega⟩)
  unfold Go.Proofs.YtodimgkpjnpbiaaGreat.tiny;omega
theorem copyCerts_row (l:List Cert) (hl:tiny l) (h:∀ c∈l,c.tiny):ACalls Tryz.prog 7 [.d (.sl 6 (certsD l))] [] (fun av L=>av = .arr 0∧L=[.row 47 6 (certsD l) false]):=by
 have hx:=certsD_length l
 unfold tiny at hl
 (refine acalls_go ttOk zOk foOk Tryz.func7 rfl Tryz.ntmps7 rfl true rfl ?_);(conv=>whnf)
 refine loop_go ttOk zOk foOk (σ:=Nat) (fun k=>([(0,.d (.sl 6 (certsD l))),(3,.arr 0),(4,.d (.int .i64 k))],[.row 47 6 (certsD (l.take k)) false])) (fun k=>k≤l.length) (fun k=>l.length - k) [0,3,4] ?_ ?_
 ·conv=>whnf
  exact ⟨0,rfl,rfl,by omega⟩
 ·intro k hk
  conv=>whnf
  rw [hx]
  refine rdw ?_;repeat' ((with_reducible apply tw)<;>intro _)
  ·rename_i h2
   refine Exists.elim (⟨_,List.getElem?_eq_getElem (by omega)⟩:∃ a,l[k]? = some a) fun a ha => ?_
   have hkn:=certsD_length (l.take k)
   refine ⟨by omega,a.cs,certsD_at ha,?_⟩
   conv=>whnf
   refine rdw ?_;repeat' ((with_reducible apply tw)<;>intro _)
   refine (copyCert_ok a (h a (List.mem_of_getElem? ha))).mono ?_
   rintro _ _ ⟨rfl,rfl⟩
   conv=>whnf
   refine rdw ?_;repeat' ((with_reducible apply tw)<;>intro _)
   refine ⟨by simp [hkn];omega,?_⟩
   conv=>whnf
   refine rdw ?_;repeat' ((with_reducible apply tw)<;>intro _)
   refine ⟨k+1,rfl,?_,by omega,by omega⟩
   rw [List.take_add_one,ha]
   simp [certsD,Cert.cs]
  ·rename_i h2
   rw [List.take_of_length_le (by omega)]
   exact ⟨rfl,rfl⟩
end Go.Proofs.YtodimgkpjnpbiaaGreat
