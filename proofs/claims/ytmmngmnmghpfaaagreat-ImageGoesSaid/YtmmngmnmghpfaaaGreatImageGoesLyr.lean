/- ImageGoes: abstract runs. -/
import Derived.Test.YtmmngmnmghpfaaaGreatImageGoesLyl
set_option linter.unusedVariables false
set_option linter.unusedSimpArgs false
namespace Go.Ab
open Go.RowKit
noncomputable def nilRowAt (k p e n : Nat) (L : List AB) : Option (List AB) :=
  match L[k]? with
  | some (.cells cs) => match cs[p]? with
    | some (.d .nils) => match n with
      | 0 => none
      | n + 1 => bif !Nat.beq (gsz e) (n + 1) then none else some ((L ++ [AB.row e (n + 1) [] false]).set k (AB.cells (cs.set p (.arr L.length))))
    | _ => none
  | _ => none
theorem nilRowAt_ok {c : Ctx} (hc : c.wf) {E : Nat → Option Nat} {L L' : List AB} {w : World} (hs : SimH c E L w) {k p e n : Nat} (h : nilRowAt k p e n L = some L') :
    ∃ E', SimH c E' L' w ∧ (rcOf c.M0 E L w).le (rcOf c.M0 E' L' w) := by
  unfold nilRowAt at h
  split at h
  · rename_i cs hk
    split at h
    · rename_i hp
      split at h
      · cases h
      · rename_i n
        cases hg : Nat.beq (gsz e) (n + 1) with
        | false => rw [hg] at h; cases h
        | true =>
        rw [hg] at h
        cases h
        obtain ⟨h1, h2⟩ := hs.nilRow hc e (n + 1) false ⟨Nat.succ_pos n, Nat.eq_of_beq_eq_true hg⟩
        have hlt : k < L.length := (List.getElem?_eq_some_iff.1 hk).1
        have hk1 : (L ++ [AB.row e (n + 1) [] false])[k]? = some (.cells cs) := by rw [List.getElem?_append_left hlt]; exact hk
        obtain ⟨h3, h4⟩ := h1.recell hk1 (cs' := cs.set p (.arr L.length)) fun us hu => VRs_cs.2 (Cs_set (VRs_cs.1 hu) hp fun v hv => by
          simp only [VR, VD] at hv ⊢
          subst hv
          exact ⟨.row e (n + 1) [] false, by simp, by simp [arRel, Eupd]⟩)
        exact ⟨_, h3, h2.trans h4⟩
    · cases h
  · cases h
noncomputable def nilRowsAt : List (Nat × Nat × Nat × Nat) → List AB → Option (List AB)
  | [], L => some L
  | (k, p, e, n) :: r, L => match nilRowAt k p e n L with
    | some L1 => nilRowsAt r L1
    | none => none
theorem nilRowsAt_ok {c : Ctx} (hc : c.wf) {w : World} : ∀ {ps : List (Nat × Nat × Nat × Nat)} {E : Nat → Option Nat} {L L' : List AB}, SimH c E L w → nilRowsAt ps L = some L' →
    ∃ E', SimH c E' L' w ∧ (rcOf c.M0 E L w).le (rcOf c.M0 E' L' w)
  | [], E, L, L', hs, h => by simp only [nilRowsAt, Option.some.injEq] at h; subst h; exact ⟨E, hs, .refl _⟩
  | (k, p, e, n) :: r, E, L, L', hs, h => by
    simp only [nilRowsAt] at h
    split at h
    · rename_i L1 h1
      obtain ⟨E1, s1, l1⟩ := nilRowAt_ok hc hs h1
      obtain ⟨E2, s2, l2⟩ := nilRowsAt_ok hc s1 h
      exact ⟨E2, s2, l1.trans l2⟩
    · cases h
theorem aw_nilrowC {P : Program} {n k0 : Nat} {code : Code} {Q : Exit → AF → List AB → Prop} {F : AF} {L L1 : List AB} (ps : List (Nat × Nat × Nat × Nat)) (hs : nilRowsAt ps L = some L1) (h : AW P n k0 code Q F L1) : AW P n k0 code Q F L := fun c E a w hc hcn hk hsim => by
  obtain ⟨E1, s1, l1⟩ := nilRowsAt_ok hc hsim.h hs
  exact h c E1 a w hc hcn hk ⟨s1, fun s => VR.mono l1 _ _ (hsim.slots s), hsim.nt, hsim.df⟩
end Go.Ab
