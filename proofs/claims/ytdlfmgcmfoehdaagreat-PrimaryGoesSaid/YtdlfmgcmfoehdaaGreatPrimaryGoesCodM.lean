/- PrimaryGoes: contracts. -/
import Derived.Test.YtdlfmgcmfoehdaaGreatPrimaryGoesCodL
set_option linter.unusedVariables false
set_option linter.unusedSimpArgs false
namespace Go.Proofs.YtdlfmgcmfoehdaaGreat
open Go.Ab Go.RowKit Go.MapKept
attribute [local irreducible] ACalls AW ADraw Into fltB fnear
set_option maxRecDepth 100000
theorem rRound_ok (d : Dag) (hd : few d.certs) (hl : d.certs.length ≤ 1099511627776) (hc : ∀ c ∈ d.certs, c.tiny) (r : Int) : ACalls Tryz.prog 27 [d.av, .d (.int .i64 r)] [] (fun av L => av = .d (.sl 6 (certsD (ofR d.certs r))) ∧ L = []) := by
  have hcl := certsD_length d.certs
  refine acalls_go ttOk zOk foOk Tryz.func27 rfl Tryz.ntmps27 rfl false rfl ?_
  conv => whnf
  refine loop_go ttOk zOk foOk (σ := Nat) (fun j => ([(1, .d (.int .i64 r)), (2, .ptr 0 0), (5, .arr 1), (6, .d (.int .i64 j))], [.cells d.cells, .row 41 6 (certsD (ofR (d.certs.take j) r)) false])) (fun j => j ≤ d.certs.length) (fun j => d.certs.length - j) [1, 2, 5, 6] ?_ ?_
  · conv => whnf
    exact ⟨0, rfl, rfl, Nat.zero_le _⟩
  · intro j hj
    have hlt : (ofR (d.certs.take j) r).length ≤ d.certs.length := Nat.le_trans (List.length_filter_le ..) (List.length_take_le' ..)
    have hxl := certsD_length (ofR (d.certs.take j) r)
    conv => whnf
    refine rdz ?_; repeat' ((with_reducible apply tw) <;> intro _)
    · rename_i h
      replace h : (j : Int) < ((certsD d.certs).length : Int) := h
      refine Exists.elim (⟨_, List.getElem?_eq_getElem (by omega)⟩ : ∃ c, d.certs[j]? = some c) fun a ha => ?_
      have hsn : ofR (d.certs.take (j + 1)) r = ofR (d.certs.take j) r ++ (if a.round = r then [a] else []) := by
        unfold ofR
        rw [List.take_add_one, ha, List.filter_append]
        by_cases h : a.round = r <;> simp [h]
      refine ⟨by omega, a.cs, certsD_at ha, ?_⟩
      conv => whnf
      refine rdz ?_; repeat' ((with_reducible apply tw) <;> intro _)
      · rename_i h1
        replace h1 : a.round = r := h1
        rw [if_pos h1] at hsn
        refine ⟨by omega, a.cs, certsD_at ha, ?_⟩
        conv => whnf
        refine rdz ?_; repeat' ((with_reducible apply tw) <;> intro _)
        (refine (copyCert_ok a (hc a (List.mem_of_getElem? ha))).mono ?_; rintro _ _ ⟨rfl, rfl⟩; (conv => whnf))
        refine rdz ?_; repeat' ((with_reducible apply tw) <;> intro _)
        refine ⟨by show ((certsD (ofR (d.certs.take j) r)).length + 1) * 96 ≤ _; omega, ?_⟩
        conv => whnf
        refine rdz ?_; repeat' ((with_reducible apply tw) <;> intro _)
        refine ⟨j + 1, rfl, ?_, by omega, by omega⟩
        rw [hsn, show certsD (ofR (d.certs.take j) r ++ [a]) = certsD (ofR (d.certs.take j) r) ++ [a.cs] by simp [certsD]]
        rfl
      · rename_i h1
        replace h1 : ¬ a.round = r := h1
        rw [if_neg h1, List.append_nil] at hsn
        exact ⟨j + 1, rfl, by rw [hsn]; rfl, by omega, by omega⟩
    · rename_i h
      replace h : ¬ (j : Int) < ((certsD d.certs).length : Int) := h
      rw [List.take_of_length_le (by omega)]
      exact ⟨rfl, rfl⟩
end Go.Proofs.YtdlfmgcmfoehdaaGreat
