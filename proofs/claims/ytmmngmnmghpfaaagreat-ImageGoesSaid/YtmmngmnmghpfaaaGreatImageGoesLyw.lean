/- ImageGoes: abstract runs. -/
import Derived.Test.YtmmngmnmghpfaaaGreatImageGoesLyv
set_option linter.unusedVariables false
set_option linter.unusedSimpArgs false
namespace Go.Ab
noncomputable section
open Go.RowKit
theorem upto_lt : ∀ {k i : Nat}, i ∈ upto k → i < k
  | 0, i, h => by cases h
  | k + 1, i, h => by
    rcases List.mem_append.1 h with h | h
    · have := upto_lt h; omega
    · have := List.mem_singleton.1 h; omega
theorem upto_nodup : ∀ (k : Nat), (upto k).Nodup
  | 0 => List.nodup_nil
  | k + 1 => by
    refine List.nodup_append.2 ⟨upto_nodup k, by simp, fun a ha b hb e => ?_⟩
    have := upto_lt ha
    have := List.mem_singleton.1 hb
    omega
theorem back_ok {c : Ctx} {E : Nat → Option Nat} {L : List AB} {w : World} (hL0 : c.L0.length ≤ L.length) {E2 : Nat → Option Nat} {L2 : List AB} {W : World} (h2 : SimH c E2 L2 W) (hle : (rcOf c.M0 E L w).le (rcOf c.M0 E2 L2 W))
    (hb : linA (posN (upto L.length) · 0) L2 (upto L.length) = some L) : ∃ E', SimH c E' L W ∧ (rcOf c.M0 E L w).le (rcOf c.M0 E' L W) := by
  obtain ⟨h3, hl⟩ := h2.part (upto_nodup _) (fun i hi => upto_get (by omega)) hb
  have hr : ∀ i, i < L.length → posN (upto L.length) i 0 = some i := fun i hi => posN_some (upto_nodup _) (upto_get hi)
  refine ⟨_, h3, ⟨fun a u h => hl.rd _ _ (hle.rd _ _ h), fun i b h => ?_, fun i v h => ?_, fun i j o v h => ?_, fun i x v h => ?_⟩⟩
  · obtain ⟨ab, hi, _⟩ := id h
    exact hl.pt i i (hr i (List.getElem?_eq_some_iff.1 hi).1) _ (hle.pt _ _ h)
  · obtain ⟨ab, hi, _⟩ := id h
    exact hl.ar i i (hr i (List.getElem?_eq_some_iff.1 hi).1) _ (hle.ar _ _ h)
  · obtain ⟨ab, hi, _⟩ := id h
    exact hl.ap i i (hr i (List.getElem?_eq_some_iff.1 hi).1) _ _ _ (hle.ap _ _ _ _ h)
  · obtain ⟨ab, hi, _⟩ := id h
    exact hl.is i i (hr i (List.getElem?_eq_some_iff.1 hi).1) _ _ (hle.is _ _ _ h)
theorem Sim.other {c : Ctx} (hc : c.wf) {E : Nat → Option Nat} {F : AF} {L : List AB} {a : Act} {B : Nat} (hB : c.w0.heap.size ≤ B) (hpl : plainB L = true) {W W' : World} {row : Option Nat} (h : Sim c E F L a W) (hg : W.grownBy W' row)
    (hr : ∀ r, row = some r → B ≤ r ∧ ∃ o : Obj, W.heap[r]? = some o ∧ o.isCells = false) : Sim c E F L a W' :=
  h.mono (h.h.other hc hg (fun r e => (hr r e).2) (fun r e hp => by have := hc.low r hp; have := (hr r e).1; omega) (fun r e => by obtain ⟨_, o, ho, hn⟩ := hr r e; exact plain_apart h.h hpl ho hn)) (le_other hg fun r e => (hr r e).2)
end
end Go.Ab
