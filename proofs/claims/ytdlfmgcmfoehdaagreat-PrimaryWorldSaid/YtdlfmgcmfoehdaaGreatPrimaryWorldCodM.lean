/- PrimaryWorld: contracts. -/
import Derived.Test.YtdlfmgcmfoehdaaGreatPrimaryWorldCodL
set_option linter.unusedVariables false
set_option linter.unusedSimpArgs false
namespace Go.Proofs.YtdlfmgcmfoehdaaGreat
open Go.Ab Go.RowKit Go.MapKept
attribute [local irreducible] ACalls AW ADraw Into fltB fnear
set_option maxRecDepth 100000
theorem eqHeader_ok (a b : Cert) (ha : few a.bats ∧ few a.pars) : ACalls Tryz.prog 25 [a.hav, b.hav] [] (fun av L => av = .d (.bool (decide (a.author = b.author ∧ a.round = b.round ∧ a.bats = b.bats ∧ a.pars = b.pars))) ∧ L = []) := by
  have h1 := eqNumbers_ok a.bats b.bats ha.1
  have h2 := eqNumbers_ok a.pars b.pars ha.2
  refine acalls_go ttOk zOk foOk Tryz.func25 rfl Tryz.ntmps25 rfl false rfl ?_
  conv => whnf
  refine rdw ?_; repeat' ((with_reducible apply tw) <;> intro _)
  · rename_i k1 k2
    (refine (h1).mono ?_; rintro _ _ ⟨rfl, rfl⟩; (conv => whnf))
    refine rdw ?_; repeat' ((with_reducible apply tw) <;> intro _)
    · rename_i k3
      (refine (h2).mono ?_; rintro _ _ ⟨rfl, rfl⟩; (conv => whnf))
      exact ⟨boolEq (by simp only [decide_eq_true_iff]; exact ⟨fun h => ⟨k1, k2, k3, h⟩, fun h => h.2.2.2⟩), rfl⟩
    · rename_i k3
      exact ⟨by rw [decide_eq_false (fun h => k3 h.2.2.1)]; rfl, rfl⟩
  · rename_i k1 k2
    exact ⟨by rw [decide_eq_false (fun h => k2 h.2.1)]; rfl, rfl⟩
  · rename_i k1
    exact ⟨by rw [decide_eq_false (fun h => k1 h.1)]; rfl, rfl⟩
end Go.Proofs.YtdlfmgcmfoehdaaGreat
