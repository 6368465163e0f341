/- PrimaryTicks: abstract runs. -/
import Derived.Test.YtolkmjfkkkiboaaGreatPrimaryTicksLyac
set_option linter.unusedVariables false
set_option linter.unusedSimpArgs false
namespace Go.Ab
noncomputable section
open Go.RowKit
theorem range_wp2 {P : Program} {c : Ctx} (hc : c.wf) {E : Nat → Option Nat} {F : AF} {L : List AB} {a : Act} {w : World} (hs : Sim c E F L a w) (hpl : plainB L = true) (hL0 : c.L0.length ≤ L.length)
    {α : Type} {g : Operand} {ps : Array Tmp} {assign body : Code} {gf : Nat} {lb : Array Value} {encs : α → Array Value} {S Sp : List α → Prop} {N : Nat}
    (hg : a.eval g = .func (.func gf) #[] lb) (eg : ∀ args w, (callFunc gf args).run P w = .ok (.enter gf args) w)
    (hseq : SeqStopsK Fence.wide 4 P gf lb encs (KpOf (rcOf c.M0 E L w)) S Sp N w) (hps : ∀ x, (encs x).size = ps.size)
    (Fx Fa : α → AF) (La : α → List AB) (G : α → Prop)
    (hpar : ∀ x (R : RC), (rcOf c.M0 E L w).le R → ∀ s, VR R (fget (Fx x) s) (((ps.zip (encs x)).foldl (fun t (p, v) => t.setIfInBounds p v) a.tmps).getD s undef))
    (hpla : ∀ x, plainB (La x) = true) (hbka : ∀ x, linA (posN (upto L.length) · 0) (La x) (upto L.length) = some L)
    (hA : ∀ l x, AWr l P c.n L.length assign (fun e F1 L1 => e = .normal ∧ F1 = Fa x ∧ L1 = La x) (Fx x) L)
    (Kx : α → Nat → List AB → Prop)
    (hB : ∀ l x, AWr l P c.n (La x).length body (fun e _ L2 => plainB L2 = true ∧ ((e = .normal ∧ G x ∧ linA (posN (upto L.length) · 0) L2 (upto L.length) = some L) ∨ ∃ id, e = .exit id ∧ Kx x id L2)) (Fa x) (La x)) :
    (Code.rangeFunc g ps assign body).wpIn Fence.wide 5 P (fun e a' W => ∃ D, a' = { a with defers := { target := .collected D, args := #[] } :: a.defers } ∧ w.heap.size ≤ D ∧ W.heap[D]? = some (.deferred (some [])) ∧ ((e = .normal ∧ InvL c E F L a w W ∧ ∃ xs, S xs ∧ ∀ y ∈ xs, G y) ∨ ∃ id x pre, e = .exit id ∧ Sp (pre ++ [x]) ∧ (∀ y ∈ pre, G y) ∧ InvX c E F L a w (Kx x id) W)) a w := by
  refine wpIn_rangeFunc_ownH rfl (by decide) hg trivial eg hseq KpOf.trans (fun W l o o' _ hl ho _ => KpOf.put o' hl ho) (Below.refl _ _) hps
    (fun pre W => InvL c E F L a w W ∧ ∀ y ∈ pre, G y) (fun cx pre W => ∃ id x pr, pre = pr ++ [x] ∧ (∀ y ∈ pr, G y) ∧ cx = .exit id ∧ InvX c E F L a w (Kx x id) W)
    (fun s W W' row h hgr hr => ⟨invL_own (β := Unit) hc hs.h.size hpl () W W' row h.1 hgr hr, h.2⟩) ?_ ⟨⟨E, hs, .refl _⟩, by simp⟩ (fun x a' W => ∃ E1, Sim c E1 (Fa x) (La x) a' W ∧ (rcOf c.M0 E L w).le (rcOf c.M0 E1 (La x) W)) ?_ ?_ ?_ ?_ ?_
  · rintro cx s W W' row ⟨id, x, pr, e1, e2, rfl, hX⟩ hgr hr
    exact ⟨id, x, pr, e1, e2, rfl, invX_own (β := Unit) hc hs.h.size () W W' row hX hgr hr⟩
  · rintro x a' s W W' row ⟨E1, h1, h2⟩ hgr hr
    exact ⟨E1, h1.other hc hs.h.size (hpla x) hgr hr, h2.trans (le_other hgr fun r e => (hr r e).2)⟩
  · rintro l pre x W K ⟨⟨E', h1, h2⟩, hG⟩ hK
    have hin := subC_in h1.h
    have hsz : ((ps.zip (encs x)).foldl (fun t (p, v) => t.setIfInBounds p v) a.tmps).size = c.n := by
      rw [← Array.foldl_toList, foldl_set_size]
      exact hs.nt
    have hsim : Sim (subC c E' L W) E' (Fx x) L { tmps := (ps.zip (encs x)).foldl (fun t (p, v) => t.setIfInBounds p v) a.tmps, defers := [] } W :=
      ⟨hin.1, hpar x _ (h2.trans hin.2), hsz, rfl⟩
    refine wpIn_mono (hA l x (subC c E' L W) E' _ W _ (subC_wf hc h1.h) rfl rfl hsim) ?_
    rintro e a1 W1 ⟨E1, F1, L1, k1, rfl, rfl, rfl⟩
    obtain ⟨o1, o2, o3⟩ := subC_out hc h1.h k1.h
    obtain ⟨E3, b1, b2⟩ := back_ok hL0 o1 (h2.trans o2) (hbka x)
    exact hK a1 W1 (subC_keeps h1.h hpl k1.h _) (fun y u hr hcl => (rd_cell ((h2.trans o2).rd y u hr) (spot_none hcl)).1) ⟨⟨E3, ⟨b1, fun s => VR.mono b2 _ _ (hs.slots s), hs.nt, hs.df⟩, b2⟩, hG⟩
      ⟨E1, ⟨o1, fun s => VR.mono o3 _ _ (k1.slots s), k1.nt, k1.df⟩, h2.trans o2⟩
  · rintro l pre x a' W _ _ ⟨⟨E', h1, h2⟩, hG⟩ ⟨E1, k1, k2⟩ _
    have hin := subC_in k1.h
    have hsim : Sim (subC c E1 (La x) W) E1 (Fa x) (La x) a' W := ⟨hin.1, fun s => VR.mono hin.2 _ _ (k1.slots s), k1.nt, k1.df⟩
    refine wpIn_mono (hB l x (subC c E1 (La x) W) E1 a' W _ (subC_wf hc k1.h) rfl rfl hsim) ?_
    rintro e a2 W2 ⟨E2, F2, L2, m1, mp, hcase⟩
    obtain ⟨o1, o2, o3⟩ := subC_out hc k1.h m1.h
    have hkeep := subC_keeps k1.h (hpla x) m1.h w.heap.size
    rcases hcase with ⟨rfl, hg1, hb⟩ | ⟨id, rfl, hkx⟩
    · obtain ⟨E3, b1, b2⟩ := back_ok hL0 o1 (k2.trans o2) hb
      exact ⟨hkeep, fun y u hr hcl => (rd_cell ((k2.trans o2).rd y u hr) (spot_none hcl)).1, ⟨E3, ⟨b1, fun s => VR.mono b2 _ _ (hs.slots s), hs.nt, hs.df⟩, b2⟩, fun y hy => by
        rcases List.mem_append.1 hy with hy | hy
        · exact hG y hy
        · rw [List.mem_singleton.1 hy]; exact hg1⟩
    · exact ⟨hkeep, id, x, pre, rfl, hG, rfl, E2, L2, ⟨o1, fun s => VR.mono (k2.trans o2) _ _ (hs.slots s), hs.nt, hs.df⟩, k2.trans o2, mp, hkx⟩
  · intro D xs W hD hS hI hK
    exact ⟨D, rfl, hD, hK, .inl ⟨rfl, hI.1, xs, hS, hI.2⟩⟩
  · rintro D cx pre W hD hSp ⟨id, x, pr, rfl, hG, rfl, hI⟩ hK
    exact wpIn_exit ⟨D, rfl, hD, hK, .inr ⟨id, x, pr, rfl, hSp, hG, hI⟩⟩
end
end Go.Ab
