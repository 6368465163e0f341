/- ImageGoes: abstract runs. -/
import Derived.Test.YtmmngmnmghpfaaaGreatImageGoesLyt
set_option linter.unusedVariables false
set_option linter.unusedSimpArgs false
namespace Go.Ab
noncomputable section
open Go.RowKit
theorem le_other {M0 : MZ} {E : Nat → Option Nat} {L : List AB} {w w' : World} {row : Option Nat} (hg : w.grownBy w' row) (hrow : ∀ r, row = some r → ∃ o : Obj, w.heap[r]? = some o ∧ o.isCells = false) : (rcOf M0 E L w).le (rcOf M0 E L w') := by
  refine ⟨rdle rfl (fun b cur e m h1 h2 => ⟨cur, m, by rw [grownBy_keeps_cells hg hrow h1 rfl]; exact h1, rfl, h2⟩) fun a u h1 h2 => ⟨cell_kept h1 hg hrow, h2⟩, fun i b h => h, ?_, fun i j o v h => h, fun i x v ⟨ab, h1, h2⟩ => ⟨ab, h1, islRel_mono' (fun b _ cur e m h => by rw [grownBy_keeps_cells hg hrow h rfl]; exact h) h2⟩⟩
  rintro i v ⟨ab, h1, h2⟩
  refine ⟨ab, h1, ?_⟩
  cases ab with
  | cells cs => exact h2
  | map es => exact h2
  | pool b cs => exact h2
  | obj o => exact h2
  | obs o n cap => exact h2
  | isle lo n ok => exact h2.elim
  | dead => exact h2
  | row e n xs sh =>
    simp only [arRel] at h2 ⊢
    cases hE : E i with
    | none => rw [hE] at h2; exact h2
    | some b =>
      rw [hE] at h2
      obtain ⟨cap, cur, h3, h4, h5⟩ := h2
      exact ⟨cap, cur, h3, by rw [grownBy_keeps_cells hg hrow h4 rfl]; exact h4, h5⟩
theorem SimH.other {c : Ctx} (hc : c.wf) {E : Nat → Option Nat} {L : List AB} {w w' : World} {row : Option Nat} (h : SimH c E L w) (hg : w.grownBy w' row) (hrow : ∀ r, row = some r → ∃ o : Obj, w.heap[r]? = some o ∧ o.isCells = false)
    (hp : ∀ r, row = some r → ¬ c.P0 r) (ho : ∀ r, row = some r → ∀ i ab, L[i]? = some ab → (ab.live = true → E i ≠ some r) ∧ r ∉ ab.boxes) : SimH c E L w' := by
  have hle := le_other (M0 := c.M0) (E := E) (L := L) hg hrow
  refine ⟨hg.os.trans h.os, hg.tape.trans h.tape, hg.output.trans h.output, Nat.le_trans h.size hg.size, fun b hb => ?_, fun i ab hi => ?_, h.low, h.inj, h.old.trans hle, h.bx, h.lk.trans (fun b cur e m h1 h2 => ⟨cur, m, by rw [grownBy_keeps_cells hg hrow h1 rfl]; exact h1, rfl, h2⟩), h.up⟩
  · rw [hg.block b (Nat.lt_of_lt_of_le (hc.low b hb) h.size) (fun e => hp b e.symm hb)]
    exact h.prot b hb
  · refine BR.mono hle (h.blk i ab hi) (fun b he hl => hg.block b (h.lt hi hl he) (fun e => (ho b e.symm i ab hi).1 hl he)) (fun b hb => hg.block b (h.blt hi hb) (fun e => (ho b e.symm i ab hi).2 hb))
def plainB (L : List AB) : Bool := L.all fun ab => match ab with
  | .cells _ => true
  | .row _ _ _ _ => true
  | .dead => true
  | _ => false
theorem plain_apart {c : Ctx} {E : Nat → Option Nat} {L : List AB} {w : World} (h : SimH c E L w) (hp : plainB L = true) {r : Nat} {o : Obj} (hr : w.heap[r]? = some o) (ho : o.isCells = false) : ∀ i ab, L[i]? = some ab → (ab.live = true → E i ≠ some r) ∧ r ∉ ab.boxes := by
  intro i ab hi
  have hpl := List.all_eq_true.1 hp ab (List.mem_of_getElem? hi)
  have hb := h.blk i ab hi
  cases ab with
  | cells cs =>
    refine ⟨fun _ he => ?_, by simp [AB.boxes]⟩
    obtain ⟨b, cur, e, h1, h2, _⟩ := hb
    rw [he] at h1
    cases h1
    rw [hr] at h2
    cases h2
    cases ho
  | row e n xs sh =>
    refine ⟨fun _ he => ?_, by simp [AB.boxes]⟩
    obtain ⟨_, _, h3⟩ := hb
    rw [he] at h3
    obtain ⟨cap, cur, h4, _⟩ := h3
    rw [hr] at h4
    cases h4
    cases ho
  | dead => exact ⟨fun h => (by cases h), by simp [AB.boxes]⟩
  | map es => cases hpl
  | pool b cs => cases hpl
  | obj o => cases hpl
  | obs o n cap => cases hpl
  | isle lo n ok => cases hpl
end
end Go.Ab
