/- PrimaryTicks: abstract runs. -/
import Derived.Test.YtolkmjfkkkiboaaGreatPrimaryTicksLyv
set_option linter.unusedVariables false
set_option linter.unusedSimpArgs false
namespace Go.Ab
noncomputable section
open Go.RowKit
theorem upto_lt : ∀ {k i : Nat}, i ∈ upto k → i < k
  | 0, i, h => by cases h
  | k + 1, i, h => by
    rcases List.mem_append.1 h with h | h
    · have := upto_lt h; omega
    · have := List.mem_singleton.1 h; omega
theorem upto_nodup : ∀ (k : Nat), (upto k).Nodup
  | 0 => List.nodup_nil
  | k + 1 => by
    refine List.nodup_append.2 ⟨upto_nodup k, by simp, fun a ha b hb e => ?_⟩
    have := upto_lt ha
    have := List.mem_singleton.1 hb
    omega
theorem back_ok {c : Ctx} {E : Nat → Option Nat} {L : List AB} {w : World} (hL0 : c.L0.length ≤ L.length) {E2 : Nat → Option Nat} {L2 : List AB} {W : World} (h2 : SimH c E2 L2 W) (hle : (rcOf c.M0 E L w).le (rcOf c.M0 E2 L2 W))
    (hb : linA (posN (upto L.length) · 0) L2 (upto L.length) = some L) : ∃ E', SimH c E' L W ∧ (rcOf c.M0 E L w).le (rcOf c.M0 E' L W) := by
  obtain ⟨h3, hl⟩ := h2.part (upto_nodup _) (fun i hi => upto_get (by omega)) hb
  have hr : ∀ i, i < L.length → posN (upto L.length) i 0 = some i := fun i hi => posN_some (upto_nodup _) (upto_get hi)
  refine ⟨_, h3, ⟨fun a u h => hl.rd _ _ (hle.rd _ _ h), fun i b h => ?_, fun i v h => ?_, fun i j o v h => ?_, fun i x v h => ?_⟩⟩
  · obtain ⟨ab, hi, _⟩ := id h
    exact hl.pt i i (hr i (List.getElem?_eq_some_iff.1 hi).1) _ (hle.pt _ _ h)
  · obtain ⟨ab, hi, _⟩ := id h
    exact hl.ar i i (hr i (List.getElem?_eq_some_iff.1 hi).1) _ (hle.ar _ _ h)
  · obtain ⟨ab, hi, _⟩ := id h
    exact hl.ap i i (hr i (List.getElem?_eq_some_iff.1 hi).1) _ _ _ (hle.ap _ _ _ _ h)
  · obtain ⟨ab, hi, _⟩ := id h
    exact hl.is i i (hr i (List.getElem?_eq_some_iff.1 hi).1) _ _ (hle.is _ _ _ h)
def KpOf (R : RC) (W W' : World) : Prop := ∀ x u, R.rd x u → W.cell? x = some u → W'.cell? x = some u
theorem KpOf.trans {R : RC} {A B C : World} (h : KpOf R A B) (k : KpOf R B C) : KpOf R A C := fun x u hr ha => k x u hr (h x u hr ha)
theorem KpOf.put {R : RC} {W : World} {l : Nat} {o : Obj} (o' : Obj) (hl : W.heap[l]? = some o) (ho : o.isCells = false) : KpOf R W (W.putObj l o') := fun x u _ hx =>
  cell_kept hx (grownBy_putObj' W l o') (fun r e => by cases e; exact ⟨o, hl, ho⟩)
def InvL (c : Ctx) (E : Nat → Option Nat) (F : AF) (L : List AB) (a : Act) (w W : World) : Prop := ∃ E', Sim c E' F L a W ∧ (rcOf c.M0 E L w).le (rcOf c.M0 E' L W)
def InvX (c : Ctx) (E : Nat → Option Nat) (F : AF) (L : List AB) (a : Act) (w : World) (K : List AB → Prop) (W : World) : Prop := ∃ E' L', Sim c E' F L' a W ∧ (rcOf c.M0 E L w).le (rcOf c.M0 E' L' W) ∧ plainB L' = true ∧ K L'
theorem Sim.other {c : Ctx} (hc : c.wf) {E : Nat → Option Nat} {F : AF} {L : List AB} {a : Act} {B : Nat} (hB : c.w0.heap.size ≤ B) (hpl : plainB L = true) {W W' : World} {row : Option Nat} (h : Sim c E F L a W) (hg : W.grownBy W' row)
    (hr : ∀ r, row = some r → B ≤ r ∧ ∃ o : Obj, W.heap[r]? = some o ∧ o.isCells = false) : Sim c E F L a W' :=
  h.mono (h.h.other hc hg (fun r e => (hr r e).2) (fun r e hp => by have := hc.low r hp; have := (hr r e).1; omega) (fun r e => by obtain ⟨_, o, ho, hn⟩ := hr r e; exact plain_apart h.h hpl ho hn)) (le_other hg fun r e => (hr r e).2)
theorem invX_own {c : Ctx} (hc : c.wf) {E : Nat → Option Nat} {F : AF} {L : List AB} {a : Act} {w : World} {K : List AB → Prop} {B : Nat} (hB : c.w0.heap.size ≤ B) {β : Type} : OwnFrom B (fun (_ : β) W => InvX c E F L a w K W) := by
  rintro s W W' row ⟨E', L', h1, h2, h3, h4⟩ hg hr
  exact ⟨E', L', h1.other hc hB h3 hg hr, h2.trans (le_other hg fun r e => (hr r e).2), h3, h4⟩
theorem invL_own {c : Ctx} (hc : c.wf) {E : Nat → Option Nat} {F : AF} {L : List AB} {a : Act} {w : World} {B : Nat} (hB : c.w0.heap.size ≤ B) (hpl : plainB L = true) {β : Type} : OwnFrom B (fun (_ : β) W => InvL c E F L a w W) := by
  rintro s W W' row ⟨E', h1, h2⟩ hg hr
  exact ⟨E', h1.other hc hB hpl hg hr, h2.trans (le_other hg fun r e => (hr r e).2)⟩
theorem subC_keeps {c : Ctx} {E E' : Nat → Option Nat} {L L' : List AB} {w w' : World} (h : SimH c E L w) (hpl : plainB L = true) (h' : SimH (subC c E L w) E' L' w') (B : Nat) : KeepsFrom B w w' :=
  ⟨h'.size, fun k o _ hk ho => (h'.prot k ⟨(Array.getElem?_eq_some_iff.1 hk).1, plain_apart h hpl hk ho⟩).trans hk⟩
end
end Go.Ab
