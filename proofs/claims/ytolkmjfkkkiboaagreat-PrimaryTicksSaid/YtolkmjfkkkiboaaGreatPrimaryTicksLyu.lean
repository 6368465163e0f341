/- PrimaryTicks: abstract runs. -/
import Derived.Test.YtolkmjfkkkiboaaGreatPrimaryTicksLyt
set_option linter.unusedVariables false
set_option linter.unusedSimpArgs false
namespace Go.Ab
noncomputable section
open Go.RowKit
theorem le_other {M0 : MZ} {E : Nat → Option Nat} {L : List AB} {w w' : World} {row : Option Nat} (hg : w.grownBy w' row) (hrow : ∀ r, row = some r → ∃ o : Obj, w.heap[r]? = some o ∧ o.isCells = false) : (rcOf M0 E L w).le (rcOf M0 E L w') := by
  refine ⟨rdle rfl (fun b cur e m h1 h2 => ⟨cur, m, by rw [grownBy_keeps_cells hg hrow h1 rfl]; exact h1, rfl, h2⟩) fun a u h1 h2 => ⟨cell_kept h1 hg hrow, h2⟩, fun i b h => h, ?_, fun i j o v h => h, fun i x v ⟨ab, h1, h2⟩ => ⟨ab, h1, islRel_mono' (fun b _ cur e m h => by rw [grownBy_keeps_cells hg hrow h rfl]; exact h) h2⟩⟩
  rintro i v ⟨ab, h1, h2⟩
  refine ⟨ab, h1, ?_⟩
  cases ab with
  | cells cs => exact h2
  | map es => exact h2
  | pool b cs => exact h2
  | obj o => exact h2
  | obs o n cap => exact h2
  | isle lo n ok => exact h2.elim
  | dead => exact h2
  | row e n xs sh =>
    simp only [arRel] at h2 ⊢
    cases hE : E i with
    | none => rw [hE] at h2; exact h2
    | some b =>
      rw [hE] at h2
      obtain ⟨cap, cur, h3, h4, h5⟩ := h2
      exact ⟨cap, cur, h3, by rw [grownBy_keeps_cells hg hrow h4 rfl]; exact h4, h5⟩
theorem SimH.other {c : Ctx} (hc : c.wf) {E : Nat → Option Nat} {L : List AB} {w w' : World} {row : Option Nat} (h : SimH c E L w) (hg : w.grownBy w' row) (hrow : ∀ r, row = some r → ∃ o : Obj, w.heap[r]? = some o ∧ o.isCells = false)
    (hp : ∀ r, row = some r → ¬ c.P0 r) (ho : ∀ r, row = some r → ∀ i ab, L[i]? = some ab → (ab.live = true → E i ≠ some r) ∧ r ∉ ab.boxes) : SimH c E L w' := by
  have hle := le_other (M0 := c.M0) (E := E) (L := L) hg hrow
  refine ⟨hg.os.trans h.os, hg.tape.trans h.tape, hg.output.trans h.output, Nat.le_trans h.size hg.size, fun b hb => ?_, fun i ab hi => ?_, h.low, h.inj, h.old.trans hle, h.bx⟩
  · rw [hg.block b (Nat.lt_of_lt_of_le (hc.low b hb) h.size) (fun e => hp b e.symm hb)]
    exact h.prot b hb
  · refine BR.mono hle (h.blk i ab hi) (fun b he hl => hg.block b (h.lt hi hl he) (fun e => (ho b e.symm i ab hi).1 hl he)) (fun b hb => hg.block b (h.blt hi hb) (fun e => (ho b e.symm i ab hi).2 hb))
def plainB (L : List AB) : Bool := L.all fun ab => match ab with
  | .cells _ => true
  | .row _ _ _ _ => true
  | .dead => true
  | _ => false
theorem plain_apart {c : Ctx} {E : Nat → Option Nat} {L : List AB} {w : World} (h : SimH c E L w) (hp : plainB L = true) {r : Nat} {o : Obj} (hr : w.heap[r]? = some o) (ho : o.isCells = false) : ∀ i ab, L[i]? = some ab → (ab.live = true → E i ≠ some r) ∧ r ∉ ab.boxes := by
  intro i ab hi
  have hpl := List.all_eq_true.1 hp ab (List.mem_of_getElem? hi)
  have hb := h.blk i ab hi
  cases ab with
  | cells cs =>
    refine ⟨fun _ he => ?_, by simp [AB.boxes]⟩
    obtain ⟨b, cur, e, h1, h2, _⟩ := hb
    rw [he] at h1
    cases h1
    rw [hr] at h2
    cases h2
    cases ho
  | row e n xs sh =>
    refine ⟨fun _ he => ?_, by simp [AB.boxes]⟩
    obtain ⟨_, _, h3⟩ := hb
    rw [he] at h3
    obtain ⟨cap, cur, h4, _⟩ := h3
    rw [hr] at h4
    cases h4
    cases ho
  | dead => exact ⟨fun h => (by cases h), by simp [AB.boxes]⟩
  | map es => cases hpl
  | pool b cs => cases hpl
  | obj o => cases hpl
  | obs o n cap => cases hpl
  | isle lo n ok => cases hpl
def subC (c : Ctx) (E : Nat → Option Nat) (L : List AB) (w : World) : Ctx :=
  { w0 := w, P0 := fun b => b < w.heap.size ∧ ∀ (i : Nat) (ab : AB), L[i]? = some ab → (ab.live = true → E i ≠ some b) ∧ b ∉ ab.boxes,
    M0 := ⟨fun b o => (b < w.heap.size ∧ ∀ (i : Nat) (ab : AB), L[i]? = some ab → (ab.live = true → E i ≠ some b) ∧ b ∉ ab.boxes) ∧ Mut c.M0 E L b o, c.M0.s⟩, E0 := E, L0 := L, n := c.n }
theorem subC_P0 {c : Ctx} (hc : c.wf) {E : Nat → Option Nat} {L : List AB} {w : World} (h : SimH c E L w) {b : Nat} (hb : c.P0 b) : (subC c E L w).P0 b :=
  ⟨Nat.lt_of_lt_of_le (hc.low b hb) h.size, fun i ab hi => ⟨fun hl he => h.low i ab b hi hl he hb, fun hx => h.bx.low i ab b hi hx hb⟩⟩
theorem subC_wf {c : Ctx} (hc : c.wf) {E : Nat → Option Nat} {L : List AB} {w : World} (h : SimH c E L w) : (subC c E L w).wf := ⟨fun b hb => hb.1, fun b o h => h.1, fun s hs b hb => subC_P0 hc h (hc.st s hs b hb)⟩
theorem rc_le_of {M0 M1 : MZ} {E : Nat → Option Nat} {L : List AB} {w : World} (hS : M1.s = M0.s) (h : ∀ b o, Mut M1 E L b o → Mut M0 E L b o) : (rcOf M0 E L w).le (rcOf M1 E L w) :=
  ⟨rdle hS (.refl _) fun a u h1 h2 => ⟨h1, fun hm => h2 (h _ _ hm)⟩, fun i b h => h, fun i v h => h, fun i j o v h => h, fun i x v h => h⟩
theorem subC_in {c : Ctx} {E : Nat → Option Nat} {L : List AB} {w : World} (h : SimH c E L w) : SimH (subC c E L w) E L w ∧ (rcOf c.M0 E L w).le (rcOf (subC c E L w).M0 E L w) := by
  have hle : (rcOf c.M0 E L w).le (rcOf (subC c E L w).M0 E L w) := rc_le_of rfl fun b o hm => by
    rcases hm with hm | hm | hm
    · exact hm.2
    · exact .inr (.inl hm)
    · exact .inr (.inr hm)
  refine ⟨⟨rfl, rfl, rfl, Nat.le_refl _, fun _ _ => rfl, fun i ab hi => BR.mono hle (h.blk i ab hi) (fun _ _ _ => rfl) (fun _ _ => rfl), fun i ab b hi hl he hp => (hp.2 i ab hi).1 hl he, h.inj, .refl _, ⟨fun i ab b hi hb hp => (hp.2 i ab hi).2 hb, h.bx.own, h.bx.nd, h.bx.dj⟩⟩, hle⟩
theorem subC_out {c : Ctx} (hc : c.wf) {E E' : Nat → Option Nat} {L L' : List AB} {w w' : World} (h : SimH c E L w) (h' : SimH (subC c E L w) E' L' w') : SimH c E' L' w' ∧ (rcOf c.M0 E L w).le (rcOf c.M0 E' L' w') ∧ (rcOf (subC c E L w).M0 E' L' w').le (rcOf c.M0 E' L' w') := by
  have hle : (rcOf (subC c E L w).M0 E' L' w').le (rcOf c.M0 E' L' w') := rc_le_of rfl fun b o hm => by
    rcases hm with hm | hm | hm
    · exact .inl ⟨subC_P0 hc h (hc.sub b o hm), .inl hm⟩
    · exact .inr (.inl hm)
    · exact .inr (.inr hm)
  have hall := ((subC_in h).2.trans h'.old).trans hle
  refine ⟨⟨h'.os.trans h.os, h'.tape.trans h.tape, h'.output.trans h.output, Nat.le_trans h.size h'.size, fun b hb => (h'.prot b (subC_P0 hc h hb)).trans (h.prot b hb), fun i ab hi => BR.mono hle (h'.blk i ab hi) (fun _ _ _ => rfl) (fun _ _ => rfl), fun i ab b hi hl he hp => h'.low i ab b hi hl he (subC_P0 hc h hp), h'.inj, h.old.trans hall, ⟨fun i ab b hi hb hp => h'.bx.low i ab b hi hb (subC_P0 hc h hp), h'.bx.own, h'.bx.nd, h'.bx.dj⟩⟩, hall, hle⟩
end
end Go.Ab
