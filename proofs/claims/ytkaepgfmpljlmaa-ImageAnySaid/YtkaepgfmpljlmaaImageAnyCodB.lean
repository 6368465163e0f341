/- Part of the proof of ImageAny: the contracts of the functions. -/
import Derived.Test.YtkaepgfmpljlmaaImageAnyCodA

set_option linter.unusedVariables false
set_option linter.unusedSimpArgs false
namespace Go.Proofs.Ytkaepgfmpljlmaa
open Go.Ab Go.RowKit Go.MapKept
attribute [local irreducible] ACalls AW ADraw Into fltB fnear
set_option maxRecDepth 100000
/-! ## tables that may be -/
structure PairS where
  key : ByteArray
  val : ByteArray
def PairS.cs (p : PairS) : List DV := [.str p.key, .str p.val]
def pairsD (l : List PairS) : List (List DV) := l.map PairS.cs
structure AccS where
  sender : Int
  seq : Int
def AccS.cs (a : AccS) : List DV := [.int .i64 a.sender, .int .i64 a.seq]
def accsD (l : List AccS) : List (List DV) := l.map AccS.cs
theorem pairsD_length (l : List PairS) : (pairsD l).length = l.length := List.length_map ..
theorem pairsD_at {l : List PairS} {k : Nat} {a : PairS} (h : l[k]? = some a) : (pairsD l)[k]? = some a.cs := by simp [pairsD, h]
theorem accsD_length (l : List AccS) : (accsD l).length = l.length := List.length_map ..
theorem accsD_at {l : List AccS} {k : Nat} {a : AccS} (h : l[k]? = some a) : (accsD l)[k]? = some a.cs := by simp [accsD, h]
theorem emptyB (a : ByteArray) : (a.toList == (ByteArray.mk #[]).toList) = decide (a.size = 0) := by
  rw [ByteArray.toList_eq, ByteArray.toList_eq, Bool.eq_iff_iff, beq_iff_eq, decide_eq_true_iff]
  constructor
  · intro h
    have := congrArg List.length h
    simpa using this
  · intro h
    exact List.eq_nil_of_length_eq_zero (by simpa using h)
theorem nz {a : ByteArray} (h : (a.toList == (ByteArray.mk #[]).toList) = false) : ¬ a.size = 0 := fun h0 => by rw [emptyB, decide_eq_true h0] at h; cases h
structure pairOk (l : List PairS) (i : Nat) (p : PairS) : Prop where
  k0 : ¬ p.key.size = 0
  k16 : ¬ p.key.size > 16
  v0 : ¬ p.val.size = 0
  v32 : ¬ p.val.size > 32
  less : ∀ q, 0 < i → l[i - 1]? = some q → Op.bytesLess q.key.toList p.key.toList = true
def pairsMay (l : List PairS) : Prop := l.length ≤ 4096 ∧ ∀ i p, l[i]? = some p → pairOk l i p
structure accOk (l : List AccS) (i : Nat) (a : AccS) : Prop where
  s : 1 ≤ a.sender ∧ a.sender ≤ 1099511627776
  q : 1 ≤ a.seq ∧ a.seq ≤ 1099511627776
  less : ∀ b, 0 < i → l[i - 1]? = some b → b.sender < a.sender
def accsMay (l : List AccS) : Prop := l.length ≤ 4096 ∧ ∀ i p, l[i]? = some p → accOk l i p
theorem tnum_ok (n : Int) : ACalls Try.prog 50 [.d (.int .i64 n)] [] (fun av L => av = .d (.bool (decide (1 ≤ n ∧ n ≤ 1099511627776))) ∧ L = []) := by
  refine acalls_go ttOk zOk foOk Try.func50 rfl Try.ntmps50 rfl false rfl ?_
  conv => whnf
  repeat' (first | ((with_reducible apply rd_intro); (focus (intro K hK; (conv => whnf); first | exact hK | (intro z hz; rw [wrapI (by omega)] at hz; subst hz; exact hK))); (conv => whnf)) | ((with_reducible apply gd_and); (focus ((conv => whnf) <;> first | rfl | (intro K hK; (conv => whnf); first | exact hK | (intro z hz; rw [wrapI (by omega)] at hz; subst hz; exact hK)))); (conv => whnf)) | ((with_reducible apply z_wrap); (focus omega); (conv => whnf)) | ((with_reducible first | apply mt_dec | apply mt_eq | apply mt_ne | apply mt_not | apply mt_any) <;> (intro _; conv => whnf)))
  · rename_i h1
    exact ⟨boolEq (by simp; omega), rfl⟩
  · rename_i h1
    exact ⟨by rw [decide_eq_false (by omega)]; rfl, rfl⟩
theorem rid_ok (n : Int) : ACalls Try.prog 48 [.d (.int .i64 n)] [] (fun av L => av = .d (.bool (decide (1 ≤ n ∧ n ≤ 1099511627776))) ∧ L = []) := by
  refine acalls_go ttOk zOk foOk Try.func48 rfl Try.ntmps48 rfl false rfl ?_
  conv => whnf
  repeat' (first | ((with_reducible apply rd_intro); (focus (intro K hK; (conv => whnf); first | exact hK | (intro z hz; rw [wrapI (by omega)] at hz; subst hz; exact hK))); (conv => whnf)) | ((with_reducible apply gd_and); (focus ((conv => whnf) <;> first | rfl | (intro K hK; (conv => whnf); first | exact hK | (intro z hz; rw [wrapI (by omega)] at hz; subst hz; exact hK)))); (conv => whnf)) | ((with_reducible apply z_wrap); (focus omega); (conv => whnf)) | ((with_reducible first | apply mt_dec | apply mt_eq | apply mt_ne | apply mt_not | apply mt_any) <;> (intro _; conv => whnf)))
  · rename_i h1
    exact ⟨boolEq (by simp; omega), rfl⟩
  · rename_i h1
    exact ⟨by rw [decide_eq_false (by omega)]; rfl, rfl⟩
open Classical in
set_option maxHeartbeats 1000000 in
theorem pairs_ok (l : List PairS) (hl : l.length ≤ 1000000) : ACalls Try.prog 51 [.d (.sl 2 (pairsD l))] [] (fun av L => av = .d (.bool (decide (pairsMay l))) ∧ L = []) := by
  have hll := pairsD_length l
  refine acalls_go ttOk zOk foOk Try.func51 rfl Try.ntmps51 rfl false rfl ?_
  conv => whnf
  refine loop_go ttOk zOk foOk (σ := Nat) (fun j => ([(0, .d (.sl 2 (pairsD l))), (5, .d (.sl 2 (pairsD l))), (6, .d (.int .i64 l.length)), (7, .d (.int .i64 j))], [])) (fun j => j ≤ l.length ∧ ∀ i p, i < j → l[i]? = some p → pairOk l i p) (fun j => l.length - j) [0, 5, 6, 7] ?_ ?_
  · conv => whnf
    exact ⟨0, by rw [hll]; rfl, rfl, Nat.zero_le _, fun i p h => absurd h (by omega)⟩
  · rintro j ⟨hj, hr⟩
    conv => whnf
    repeat' (first | ((with_reducible apply rd_intro); (focus (intro K hK; (conv => whnf); first | exact hK | (intro z hz; rw [wrapI (by omega)] at hz; subst hz; exact hK))); (conv => whnf)) | ((with_reducible apply gd_and); (focus ((conv => whnf) <;> first | rfl | (intro K hK; (conv => whnf); first | exact hK | (intro z hz; rw [wrapI (by omega)] at hz; subst hz; exact hK)))); (conv => whnf)) | ((with_reducible apply z_wrap); (focus omega); (conv => whnf)) | ((with_reducible first | apply mt_dec | apply mt_eq | apply mt_ne | apply mt_not | apply mt_any) <;> (intro _; conv => whnf)))
    · rename_i h
      replace h : (j : Int) < l.length := h
      refine Exists.elim (⟨_, List.getElem?_eq_getElem (by omega)⟩ : ∃ c, l[j]? = some c) fun c hc => ?_
      have no : ¬ pairOk l j c → AV.d (.bool false) = AV.d (.bool (decide (pairsMay l))) ∧ ([] : List AB) = [] := fun h1 => ⟨by rw [decide_eq_false fun h2 => h1 (h2.2 j c hc)], rfl⟩
      have hsucc : pairOk l j c → ∀ i p, i < j + 1 → l[i]? = some p → pairOk l i p := fun h1 i p h2 h3 => by
        rcases Nat.lt_or_ge i j with h4 | h4
        · exact hr i p h4 h3
        · obtain rfl : i = j := by omega
          rw [hc] at h3; cases h3; exact h1
      refine ⟨by omega, c.cs, pairsD_at hc, ?_⟩
      conv => whnf
      repeat' (first | ((with_reducible apply rd_intro); (focus (intro K hK; (conv => whnf); first | exact hK | (intro z hz; rw [wrapI (by omega)] at hz; subst hz; exact hK))); (conv => whnf)) | ((with_reducible apply gd_and); (focus ((conv => whnf) <;> first | rfl | (intro K hK; (conv => whnf); first | exact hK | (intro z hz; rw [wrapI (by omega)] at hz; subst hz; exact hK)))); (conv => whnf)) | ((with_reducible apply z_wrap); (focus omega); (conv => whnf)) | ((with_reducible first | apply mt_dec | apply mt_eq | apply mt_ne | apply mt_not | apply mt_any) <;> (intro _; conv => whnf)))
      ((with_reducible refine draw_pl ttOk zOk foOk mixedOk pl51x4 ?_ ?_); (focus kernel_rfl); (conv => whnf))
      repeat' (first | ((with_reducible apply rd_intro); (focus (intro K hK; (conv => whnf); first | exact hK | (intro z hz; rw [wrapI (by omega)] at hz; subst hz; exact hK))); (conv => whnf)) | ((with_reducible apply gd_and); (focus ((conv => whnf) <;> first | rfl | (intro K hK; (conv => whnf); first | exact hK | (intro z hz; rw [wrapI (by omega)] at hz; subst hz; exact hK)))); (conv => whnf)) | ((with_reducible apply z_wrap); (focus omega); (conv => whnf)) | ((with_reducible first | apply mt_dec | apply mt_eq | apply mt_ne | apply mt_not | apply mt_any) <;> (intro _; conv => whnf)))
      · rename_i e1
        exact no fun h => h.k0 (of_decide_eq_true (by rw [← emptyB]; exact e1))
      · rename_i e1 e2
        exact no fun h => h.k16 (by have : (c.key.size : Int) > 16 := e2; omega)
      · rename_i e1 e2 e3
        exact no fun h => h.v0 (of_decide_eq_true (by rw [← emptyB]; exact e3))
      · rename_i e1 e2 e3 e4
        exact no fun h => h.v32 (by have : (c.val.size : Int) > 32 := e4; omega)
      · rename_i e1 e2 e3 e4 e5
        replace e5 : (j : Int) > 0 := e5
        refine Exists.elim (⟨_, List.getElem?_eq_getElem (by omega)⟩ : ∃ b, l[j - 1]? = some b) fun b hb => ?_
        have hok : Op.bytesLess b.key.toList c.key.toList = true → pairOk l j c := fun h => ⟨nz e1, fun h0 => e2 (by show (c.key.size : Int) > 16; omega), nz e3, fun h0 => e4 (by show (c.val.size : Int) > 32; omega), fun q _ hq => (by rw [hb] at hq; cases hq; exact h)⟩
        ((with_reducible apply rd_intro); (focus (intro K hK; (conv => whnf); exact ⟨by omega, b.cs, (by rw [show ((j : Int) - 1).toNat = j - 1 by omega]; exact pairsD_at hb), hK⟩)); (conv => whnf))
        repeat' (first | (first | ((with_reducible apply rd_intro); (focus (intro K hK; (conv => whnf); first | exact hK | (intro z hz; rw [wrapI (by omega)] at hz; subst hz; exact hK))); (conv => whnf)) | ((with_reducible apply gd_and); (focus ((conv => whnf) <;> first | rfl | (intro K hK; (conv => whnf); first | exact hK | (intro z hz; rw [wrapI (by omega)] at hz; subst hz; exact hK)))); (conv => whnf)) | ((with_reducible apply z_wrap); (focus omega); (conv => whnf)) | ((with_reducible first | apply mt_dec | apply mt_eq | apply mt_ne | apply mt_not | apply mt_any) <;> (intro _; conv => whnf))) | ((with_reducible apply gd_and); (focus ((conv => whnf); intro K hK; (conv => whnf); exact ⟨by omega, b.cs, (by rw [show ((j : Int) - 1).toNat = j - 1 by omega]; exact pairsD_at hb), hK⟩)); (conv => whnf)))
        · rename_i e6
          exact no fun h => by have h6 := h.less b (by omega) hb; rw [h6] at e6; cases e6
        · rename_i e6
          exact ⟨j + 1, rfl, rfl, ⟨by omega, hsucc (hok e6)⟩, by omega⟩
      · rename_i e1 e2 e3 e4 e5
        replace e5 : ¬ (j : Int) > 0 := e5
        exact ⟨j + 1, rfl, rfl, ⟨by omega, hsucc ⟨nz e1, fun h0 => e2 (by show (c.key.size : Int) > 16; omega), nz e3, fun h0 => e4 (by show (c.val.size : Int) > 32; omega), fun q h0 => absurd h0 (by omega)⟩⟩, by omega⟩
    · rename_i h
      replace h : ¬ (j : Int) < l.length := h
      obtain rfl : j = l.length := by omega
      have hall : ∀ i p, l[i]? = some p → pairOk l i p := fun i p hp => hr i p (List.getElem?_eq_some_iff.1 hp).1 hp
      refine ⟨?_, rfl⟩
      by_cases h4 : l.length ≤ 4096
      · rw [decide_eq_true (show pairsMay l from ⟨h4, hall⟩)]
        exact congrArg (fun b => AV.d (.bool b)) (decide_eq_true (show (((pairsD l).length : Nat) : Int) ≤ 4096 by omega))
      · rw [decide_eq_false (fun h5 : pairsMay l => h4 h5.1)]
        exact congrArg (fun b => AV.d (.bool b)) (decide_eq_false (show ¬ (((pairsD l).length : Nat) : Int) ≤ 4096 by omega))
/-- may a table be? -/
def tabMay (prs : List PairS) (accs : List AccS) : Prop := pairsMay prs ∧ accsMay accs
def tabAV (prs : List PairS) (accs : List AccS) : AV := .agg [.d (.sl 2 (pairsD prs)), .d (.sl 2 (accsD accs))]
open Classical in
set_option maxHeartbeats 1000000 in
theorem tab_ok (prs : List PairS) (accs : List AccS) (hp : prs.length ≤ 1000000) (ha : accs.length ≤ 1000000) : ACalls Try.prog 46 [tabAV prs accs] [] (fun av L => av = .d (.bool (decide (tabMay prs accs))) ∧ L = []) := by
  have hal := accsD_length accs
  have hpr := pairs_ok prs hp
  refine acalls_go ttOk zOk foOk Try.func46 rfl Try.ntmps46 rfl false rfl ?_
  conv => whnf
  conv => whnf
  refine loop_go ttOk zOk foOk (σ := Nat) (fun j => ([(1, .ptr 0 0), (6, .d (.sl 2 (accsD accs))), (7, .d (.int .i64 accs.length)), (8, .d (.int .i64 j))], [.cells [.d (.sl 2 (pairsD prs)), .d (.sl 2 (accsD accs))]])) (fun j => j ≤ accs.length ∧ ∀ i p, i < j → accs[i]? = some p → accOk accs i p) (fun j => accs.length - j) [1, 6, 7, 8] ?_ ?_
  · conv => whnf
    exact ⟨0, by rw [hal]; rfl, rfl, Nat.zero_le _, fun i p h => absurd h (by omega)⟩
  · rintro j ⟨hj, hr⟩
    conv => whnf
    repeat' (first | ((with_reducible apply rd_intro); (focus (intro K hK; (conv => whnf); first | exact hK | (intro z hz; rw [wrapI (by omega)] at hz; subst hz; exact hK))); (conv => whnf)) | ((with_reducible apply gd_and); (focus ((conv => whnf) <;> first | rfl | (intro K hK; (conv => whnf); first | exact hK | (intro z hz; rw [wrapI (by omega)] at hz; subst hz; exact hK)))); (conv => whnf)) | ((with_reducible apply z_wrap); (focus omega); (conv => whnf)) | ((with_reducible first | apply mt_dec | apply mt_eq | apply mt_ne | apply mt_not | apply mt_any) <;> (intro _; conv => whnf)))
    · rename_i h
      replace h : (j : Int) < accs.length := h
      refine Exists.elim (⟨_, List.getElem?_eq_getElem (by omega)⟩ : ∃ c, accs[j]? = some c) fun c hc => ?_
      have no : ¬ accOk accs j c → AV.d (.bool false) = AV.d (.bool (decide (tabMay prs accs))) ∧ ([] : List AB) = [] := fun h1 => ⟨by rw [decide_eq_false fun h2 => h1 (h2.2.2 j c hc)], rfl⟩
      have hsucc : accOk accs j c → ∀ i p, i < j + 1 → accs[i]? = some p → accOk accs i p := fun h1 i p h2 h3 => by
        rcases Nat.lt_or_ge i j with h4 | h4
        · exact hr i p h4 h3
        · obtain rfl : i = j := by omega
          rw [hc] at h3; cases h3; exact h1
      have hn1 := tnum_ok c.sender
      have hn2 := tnum_ok c.seq
      refine ⟨by omega, c.cs, accsD_at hc, ?_⟩
      conv => whnf
      repeat' (first | ((with_reducible apply rd_intro); (focus (intro K hK; (conv => whnf); first | exact hK | (intro z hz; rw [wrapI (by omega)] at hz; subst hz; exact hK))); (conv => whnf)) | ((with_reducible apply gd_and); (focus ((conv => whnf) <;> first | rfl | (intro K hK; (conv => whnf); first | exact hK | (intro z hz; rw [wrapI (by omega)] at hz; subst hz; exact hK)))); (conv => whnf)) | ((with_reducible apply z_wrap); (focus omega); (conv => whnf)) | ((with_reducible first | apply mt_dec | apply mt_eq | apply mt_ne | apply mt_not | apply mt_any) <;> (intro _; conv => whnf)))
      ((with_reducible refine draw_pl ttOk zOk foOk mixedOk pl46x4 ?_ ?_); (focus kernel_rfl); (conv => whnf))
      repeat' (first | ((with_reducible apply rd_intro); (focus (intro K hK; (conv => whnf); first | exact hK | (intro z hz; rw [wrapI (by omega)] at hz; subst hz; exact hK))); (conv => whnf)) | ((with_reducible apply gd_and); (focus ((conv => whnf) <;> first | rfl | (intro K hK; (conv => whnf); first | exact hK | (intro z hz; rw [wrapI (by omega)] at hz; subst hz; exact hK)))); (conv => whnf)) | ((with_reducible apply z_wrap); (focus omega); (conv => whnf)) | ((with_reducible first | apply mt_dec | apply mt_eq | apply mt_ne | apply mt_not | apply mt_any) <;> (intro _; conv => whnf)))
      refine hn1.mono ?_
      rintro _ _ ⟨rfl, rfl⟩
      conv => whnf
      repeat' (first | ((with_reducible apply rd_intro); (focus (intro K hK; (conv => whnf); first | exact hK | (intro z hz; rw [wrapI (by omega)] at hz; subst hz; exact hK))); (conv => whnf)) | ((with_reducible apply gd_and); (focus ((conv => whnf) <;> first | rfl | (intro K hK; (conv => whnf); first | exact hK | (intro z hz; rw [wrapI (by omega)] at hz; subst hz; exact hK)))); (conv => whnf)) | ((with_reducible apply z_wrap); (focus omega); (conv => whnf)) | ((with_reducible first | apply mt_dec | apply mt_eq | apply mt_ne | apply mt_not | apply mt_any) <;> (intro _; conv => whnf)))
      · rename_i e1
        exact no fun h => by rw [decide_eq_true h.s] at e1; cases e1
      · rename_i e1
        replace e1 := of_decide_eq_true e1
        refine hn2.mono ?_
        rintro _ _ ⟨rfl, rfl⟩
        conv => whnf
        repeat' (first | ((with_reducible apply rd_intro); (focus (intro K hK; (conv => whnf); first | exact hK | (intro z hz; rw [wrapI (by omega)] at hz; subst hz; exact hK))); (conv => whnf)) | ((with_reducible apply gd_and); (focus ((conv => whnf) <;> first | rfl | (intro K hK; (conv => whnf); first | exact hK | (intro z hz; rw [wrapI (by omega)] at hz; subst hz; exact hK)))); (conv => whnf)) | ((with_reducible apply z_wrap); (focus omega); (conv => whnf)) | ((with_reducible first | apply mt_dec | apply mt_eq | apply mt_ne | apply mt_not | apply mt_any) <;> (intro _; conv => whnf)))
        · rename_i e2
          exact no fun h => by rw [decide_eq_true h.q] at e2; cases e2
        · rename_i e2 e5
          replace e2 := of_decide_eq_true e2
          replace e5 : (j : Int) > 0 := e5
          refine Exists.elim (⟨_, List.getElem?_eq_getElem (by omega)⟩ : ∃ b, accs[j - 1]? = some b) fun b hb => ?_
          ((with_reducible apply rd_intro); (focus (intro K hK; (conv => whnf); exact ⟨by omega, b.cs, (by rw [show ((j : Int) - 1).toNat = j - 1 by omega]; exact accsD_at hb), hK⟩)); (conv => whnf))
          repeat' (first | (first | ((with_reducible apply rd_intro); (focus (intro K hK; (conv => whnf); first | exact hK | (intro z hz; rw [wrapI (by omega)] at hz; subst hz; exact hK))); (conv => whnf)) | ((with_reducible apply gd_and); (focus ((conv => whnf) <;> first | rfl | (intro K hK; (conv => whnf); first | exact hK | (intro z hz; rw [wrapI (by omega)] at hz; subst hz; exact hK)))); (conv => whnf)) | ((with_reducible apply z_wrap); (focus omega); (conv => whnf)) | ((with_reducible first | apply mt_dec | apply mt_eq | apply mt_ne | apply mt_not | apply mt_any) <;> (intro _; conv => whnf))) | ((with_reducible apply gd_and); (focus ((conv => whnf); intro K hK; (conv => whnf); exact ⟨by omega, b.cs, (by rw [show ((j : Int) - 1).toNat = j - 1 by omega]; exact accsD_at hb), hK⟩)); (conv => whnf)))
          · rename_i e6
            replace e6 : b.sender ≥ c.sender := e6
            exact no fun h => by have h6 := h.less b (by omega) hb; omega
          · rename_i e6
            replace e6 : ¬ b.sender ≥ c.sender := e6
            exact ⟨j + 1, rfl, rfl, ⟨by omega, hsucc ⟨e1, e2, fun q _ hq => (by rw [hb] at hq; cases hq; omega)⟩⟩, by omega⟩
        · rename_i e2 e5
          replace e2 := of_decide_eq_true e2
          replace e5 : ¬ (j : Int) > 0 := e5
          exact ⟨j + 1, rfl, rfl, ⟨by omega, hsucc ⟨e1, e2, fun q h0 => absurd h0 (by omega)⟩⟩, by omega⟩
    all_goals
      rename_i h h5
      replace h : ¬ (j : Int) < accs.length := h
      obtain rfl : j = accs.length := by omega
      have hall : ∀ i p, accs[i]? = some p → accOk accs i p := fun i p hp => hr i p (List.getElem?_eq_some_iff.1 hp).1 hp
    · replace h5 : (((accsD accs).length : Nat) : Int) ≤ 4096 := h5
      refine hpr.mono ?_
      rintro _ _ ⟨rfl, rfl⟩
      conv => whnf
      refine ⟨congrArg (fun b => AV.d (.bool b)) ?_, rfl⟩
      rw [decide_eq_decide]
      exact ⟨fun h6 => ⟨h6, by omega, hall⟩, fun h6 => h6.1⟩
    · replace h5 : ¬ (((accsD accs).length : Nat) : Int) ≤ 4096 := h5
      exact ⟨by rw [decide_eq_false (fun h6 : tabMay prs accs => h5 (by have := h6.2.1; omega))]; rfl, rfl⟩
open Classical in
set_option maxHeartbeats 2000000 in
theorem rtab_ok (prs : List PairS) (accs : List AccS) (hp : prs.length ≤ 1000000) (ha : accs.length ≤ 1000000) : ACalls Try.prog 37 [tabAV prs accs] [] (fun av L => av = .d (.bool (decide (tabMay prs accs))) ∧ L = []) := by
  have hal := accsD_length accs
  have hpl := pairsD_length prs
  refine acalls_go ttOk zOk foOk Try.func37 rfl Try.ntmps37 rfl false rfl ?_
  conv => whnf
  conv => whnf
  repeat' (first | ((with_reducible apply rd_intro); (focus (intro K hK; (conv => whnf); first | exact hK | (intro z hz; rw [wrapI (by omega)] at hz; subst hz; exact hK))); (conv => whnf)) | ((with_reducible apply gd_and); (focus ((conv => whnf) <;> first | rfl | (intro K hK; (conv => whnf); first | exact hK | (intro z hz; rw [wrapI (by omega)] at hz; subst hz; exact hK)))); (conv => whnf)) | ((with_reducible apply z_wrap); (focus omega); (conv => whnf)) | ((with_reducible first | apply mt_dec | apply mt_eq | apply mt_ne | apply mt_not | apply mt_any) <;> (intro _; conv => whnf)))
  · rename_i e0
    exact ⟨by rw [decide_eq_false (fun h6 : tabMay prs accs => by have := h6.1.1; have h7 : (((pairsD prs).length : Nat) : Int) > 4096 := e0; omega)]; rfl, rfl⟩
  · rename_i e0 e00
    exact ⟨by rw [decide_eq_false (fun h6 : tabMay prs accs => by have := h6.2.1; have h7 : (((accsD accs).length : Nat) : Int) > 4096 := e00; omega)]; rfl, rfl⟩
  rename_i e0 e00
  replace e0 : ¬ (((pairsD prs).length : Nat) : Int) > 4096 := e0
  replace e00 : ¬ (((accsD accs).length : Nat) : Int) > 4096 := e00
  refine loop_go ttOk zOk foOk (σ := Nat) (fun j => ([(1, .ptr 0 0), (3, .d (.int .i64 j))], [.cells [.d (.sl 2 (pairsD prs)), .d (.sl 2 (accsD accs))]])) (fun j => j ≤ prs.length ∧ ∀ i p, i < j → prs[i]? = some p → pairOk prs i p) (fun j => prs.length - j) [1, 3] ?_ ?_
  · conv => whnf
    exact ⟨0, rfl, rfl, Nat.zero_le _, fun i p h => absurd h (by omega)⟩
  · rintro j ⟨hj, hr⟩
    conv => whnf
    repeat' (first | ((with_reducible apply rd_intro); (focus (intro K hK; (conv => whnf); first | exact hK | (intro z hz; rw [wrapI (by omega)] at hz; subst hz; exact hK))); (conv => whnf)) | ((with_reducible apply gd_and); (focus ((conv => whnf) <;> first | rfl | (intro K hK; (conv => whnf); first | exact hK | (intro z hz; rw [wrapI (by omega)] at hz; subst hz; exact hK)))); (conv => whnf)) | ((with_reducible apply z_wrap); (focus omega); (conv => whnf)) | ((with_reducible first | apply mt_dec | apply mt_eq | apply mt_ne | apply mt_not | apply mt_any) <;> (intro _; conv => whnf)))
    · rename_i h
      replace h : (j : Int) < (((pairsD prs).length : Nat) : Int) := h
      refine Exists.elim (⟨_, List.getElem?_eq_getElem (by omega)⟩ : ∃ c, prs[j]? = some c) fun c hc => ?_
      have no : ¬ pairOk prs j c → AV.d (.bool false) = AV.d (.bool (decide (tabMay prs accs))) ∧ ([] : List AB) = [] := fun h1 => ⟨by rw [decide_eq_false fun h2 : tabMay prs accs => h1 (h2.1.2 j c hc)], rfl⟩
      have hsucc : pairOk prs j c → ∀ i p, i < j + 1 → prs[i]? = some p → pairOk prs i p := fun h1 i p h2 h3 => by
        rcases Nat.lt_or_ge i j with h4 | h4
        · exact hr i p h4 h3
        · obtain rfl : i = j := by omega
          rw [hc] at h3; cases h3; exact h1
      refine ⟨by omega, c.cs, pairsD_at hc, ?_⟩
      conv => whnf
      repeat' (first | ((with_reducible apply rd_intro); (focus (intro K hK; (conv => whnf); first | exact hK | (intro z hz; rw [wrapI (by omega)] at hz; subst hz; exact hK))); (conv => whnf)) | ((with_reducible apply gd_and); (focus ((conv => whnf) <;> first | rfl | (intro K hK; (conv => whnf); first | exact hK | (intro z hz; rw [wrapI (by omega)] at hz; subst hz; exact hK)))); (conv => whnf)) | ((with_reducible apply z_wrap); (focus omega); (conv => whnf)) | ((with_reducible first | apply mt_dec | apply mt_eq | apply mt_ne | apply mt_not | apply mt_any) <;> (intro _; conv => whnf)))
      ((with_reducible refine draw_pl ttOk zOk foOk mixedOk pl37x7 ?_ ?_); (focus kernel_rfl); (conv => whnf))
      repeat' (first | ((with_reducible apply rd_intro); (focus (intro K hK; (conv => whnf); first | exact hK | (intro z hz; rw [wrapI (by omega)] at hz; subst hz; exact hK))); (conv => whnf)) | ((with_reducible apply gd_and); (focus ((conv => whnf) <;> first | rfl | (intro K hK; (conv => whnf); first | exact hK | (intro z hz; rw [wrapI (by omega)] at hz; subst hz; exact hK)))); (conv => whnf)) | ((with_reducible apply z_wrap); (focus omega); (conv => whnf)) | ((with_reducible first | apply mt_dec | apply mt_eq | apply mt_ne | apply mt_not | apply mt_any) <;> (intro _; conv => whnf)))
      · rename_i e1
        exact no fun h => h.k0 (of_decide_eq_true (by rw [← emptyB]; exact e1))
      · rename_i e1 e2
        exact no fun h => h.k16 (by have : (c.key.size : Int) > 16 := e2; omega)
      · rename_i e1 e2 e3
        exact no fun h => h.v0 (of_decide_eq_true (by rw [← emptyB]; exact e3))
      · rename_i e1 e2 e3 e4
        exact no fun h => h.v32 (by have : (c.val.size : Int) > 32 := e4; omega)
      · rename_i e1 e2 e3 e4 e5
        replace e5 : (j : Int) > 0 := e5
        refine Exists.elim (⟨_, List.getElem?_eq_getElem (by omega)⟩ : ∃ b, prs[j - 1]? = some b) fun b hb => ?_
        have hok : Op.bytesLess b.key.toList c.key.toList = true → pairOk prs j c := fun h => ⟨nz e1, fun h0 => e2 (by show (c.key.size : Int) > 16; omega), nz e3, fun h0 => e4 (by show (c.val.size : Int) > 32; omega), fun q _ hq => (by rw [hb] at hq; cases hq; exact h)⟩
        ((with_reducible apply rd_intro); (focus (intro K hK; (conv => whnf); exact ⟨by omega, b.cs, (by rw [show ((j : Int) - 1).toNat = j - 1 by omega]; exact pairsD_at hb), hK⟩)); (conv => whnf))
        repeat' (first | (first | ((with_reducible apply rd_intro); (focus (intro K hK; (conv => whnf); first | exact hK | (intro z hz; rw [wrapI (by omega)] at hz; subst hz; exact hK))); (conv => whnf)) | ((with_reducible apply gd_and); (focus ((conv => whnf) <;> first | rfl | (intro K hK; (conv => whnf); first | exact hK | (intro z hz; rw [wrapI (by omega)] at hz; subst hz; exact hK)))); (conv => whnf)) | ((with_reducible apply z_wrap); (focus omega); (conv => whnf)) | ((with_reducible first | apply mt_dec | apply mt_eq | apply mt_ne | apply mt_not | apply mt_any) <;> (intro _; conv => whnf))) | ((with_reducible apply gd_and); (focus ((conv => whnf); intro K hK; (conv => whnf); exact ⟨by omega, b.cs, (by rw [show ((j : Int) - 1).toNat = j - 1 by omega]; exact pairsD_at hb), hK⟩)); (conv => whnf)))
        · rename_i e6
          exact no fun h => by have h6 := h.less b (by omega) hb; rw [h6] at e6; cases e6
        · rename_i e6
          exact ⟨j + 1, rfl, rfl, ⟨by omega, hsucc (hok e6)⟩, by omega⟩
      · rename_i e1 e2 e3 e4 e5
        replace e5 : ¬ (j : Int) > 0 := e5
        exact ⟨j + 1, rfl, rfl, ⟨by omega, hsucc ⟨nz e1, fun h0 => e2 (by show (c.key.size : Int) > 16; omega), nz e3, fun h0 => e4 (by show (c.val.size : Int) > 32; omega), fun q h0 => absurd h0 (by omega)⟩⟩, by omega⟩
    · rename_i h
      replace h : ¬ (j : Int) < (((pairsD prs).length : Nat) : Int) := h
      obtain rfl : j = prs.length := by omega
      have hallp : pairsMay prs := ⟨by omega, fun i p hp => hr i p (List.getElem?_eq_some_iff.1 hp).1 hp⟩
      clear hr hj h
      refine loop_go ttOk zOk foOk (σ := Nat) (fun j => ([(1, .ptr 0 0), (5, .d (.int .i64 j))], [.cells [.d (.sl 2 (pairsD prs)), .d (.sl 2 (accsD accs))]])) (fun j => j ≤ accs.length ∧ ∀ i p, i < j → accs[i]? = some p → accOk accs i p) (fun j => accs.length - j) [1, 5] ?_ ?_
      · conv => whnf
        exact ⟨0, rfl, rfl, Nat.zero_le _, fun i p h => absurd h (by omega)⟩
      · rintro j ⟨hj, hr⟩
        conv => whnf
        repeat' (first | ((with_reducible apply rd_intro); (focus (intro K hK; (conv => whnf); first | exact hK | (intro z hz; rw [wrapI (by omega)] at hz; subst hz; exact hK))); (conv => whnf)) | ((with_reducible apply gd_and); (focus ((conv => whnf) <;> first | rfl | (intro K hK; (conv => whnf); first | exact hK | (intro z hz; rw [wrapI (by omega)] at hz; subst hz; exact hK)))); (conv => whnf)) | ((with_reducible apply z_wrap); (focus omega); (conv => whnf)) | ((with_reducible first | apply mt_dec | apply mt_eq | apply mt_ne | apply mt_not | apply mt_any) <;> (intro _; conv => whnf)))
        · rename_i h
          replace h : (j : Int) < (((accsD accs).length : Nat) : Int) := h
          refine Exists.elim (⟨_, List.getElem?_eq_getElem (by omega)⟩ : ∃ c, accs[j]? = some c) fun c hc => ?_
          have no : ¬ accOk accs j c → AV.d (.bool false) = AV.d (.bool (decide (tabMay prs accs))) ∧ ([] : List AB) = [] := fun h1 => ⟨by rw [decide_eq_false fun h2 => h1 (h2.2.2 j c hc)], rfl⟩
          have hsucc : accOk accs j c → ∀ i p, i < j + 1 → accs[i]? = some p → accOk accs i p := fun h1 i p h2 h3 => by
            rcases Nat.lt_or_ge i j with h4 | h4
            · exact hr i p h4 h3
            · obtain rfl : i = j := by omega
              rw [hc] at h3; cases h3; exact h1
          have hn1 := rid_ok c.sender
          have hn2 := rid_ok c.seq
          refine ⟨by omega, c.cs, accsD_at hc, ?_⟩
          conv => whnf
          repeat' (first | ((with_reducible apply rd_intro); (focus (intro K hK; (conv => whnf); first | exact hK | (intro z hz; rw [wrapI (by omega)] at hz; subst hz; exact hK))); (conv => whnf)) | ((with_reducible apply gd_and); (focus ((conv => whnf) <;> first | rfl | (intro K hK; (conv => whnf); first | exact hK | (intro z hz; rw [wrapI (by omega)] at hz; subst hz; exact hK)))); (conv => whnf)) | ((with_reducible apply z_wrap); (focus omega); (conv => whnf)) | ((with_reducible first | apply mt_dec | apply mt_eq | apply mt_ne | apply mt_not | apply mt_any) <;> (intro _; conv => whnf)))
          ((with_reducible refine draw_pl ttOk zOk foOk mixedOk pl37x13 ?_ ?_); (focus kernel_rfl); (conv => whnf))
          repeat' (first | ((with_reducible apply rd_intro); (focus (intro K hK; (conv => whnf); first | exact hK | (intro z hz; rw [wrapI (by omega)] at hz; subst hz; exact hK))); (conv => whnf)) | ((with_reducible apply gd_and); (focus ((conv => whnf) <;> first | rfl | (intro K hK; (conv => whnf); first | exact hK | (intro z hz; rw [wrapI (by omega)] at hz; subst hz; exact hK)))); (conv => whnf)) | ((with_reducible apply z_wrap); (focus omega); (conv => whnf)) | ((with_reducible first | apply mt_dec | apply mt_eq | apply mt_ne | apply mt_not | apply mt_any) <;> (intro _; conv => whnf)))
          refine hn1.mono ?_
          rintro _ _ ⟨rfl, rfl⟩
          conv => whnf
          repeat' (first | ((with_reducible apply rd_intro); (focus (intro K hK; (conv => whnf); first | exact hK | (intro z hz; rw [wrapI (by omega)] at hz; subst hz; exact hK))); (conv => whnf)) | ((with_reducible apply gd_and); (focus ((conv => whnf) <;> first | rfl | (intro K hK; (conv => whnf); first | exact hK | (intro z hz; rw [wrapI (by omega)] at hz; subst hz; exact hK)))); (conv => whnf)) | ((with_reducible apply z_wrap); (focus omega); (conv => whnf)) | ((with_reducible first | apply mt_dec | apply mt_eq | apply mt_ne | apply mt_not | apply mt_any) <;> (intro _; conv => whnf)))
          · rename_i e1
            exact no fun h => by rw [decide_eq_true h.s] at e1; cases e1
          · rename_i e1
            replace e1 := of_decide_eq_true e1
            refine hn2.mono ?_
            rintro _ _ ⟨rfl, rfl⟩
            conv => whnf
            repeat' (first | ((with_reducible apply rd_intro); (focus (intro K hK; (conv => whnf); first | exact hK | (intro z hz; rw [wrapI (by omega)] at hz; subst hz; exact hK))); (conv => whnf)) | ((with_reducible apply gd_and); (focus ((conv => whnf) <;> first | rfl | (intro K hK; (conv => whnf); first | exact hK | (intro z hz; rw [wrapI (by omega)] at hz; subst hz; exact hK)))); (conv => whnf)) | ((with_reducible apply z_wrap); (focus omega); (conv => whnf)) | ((with_reducible first | apply mt_dec | apply mt_eq | apply mt_ne | apply mt_not | apply mt_any) <;> (intro _; conv => whnf)))
            · rename_i e2
              exact no fun h => by rw [decide_eq_true h.q] at e2; cases e2
            · rename_i e2 e5
              replace e2 := of_decide_eq_true e2
              replace e5 : (j : Int) > 0 := e5
              refine Exists.elim (⟨_, List.getElem?_eq_getElem (by omega)⟩ : ∃ b, accs[j - 1]? = some b) fun b hb => ?_
              ((with_reducible apply rd_intro); (focus (intro K hK; (conv => whnf); exact ⟨by omega, b.cs, (by rw [show ((j : Int) - 1).toNat = j - 1 by omega]; exact accsD_at hb), hK⟩)); (conv => whnf))
              repeat' (first | (first | ((with_reducible apply rd_intro); (focus (intro K hK; (conv => whnf); first | exact hK | (intro z hz; rw [wrapI (by omega)] at hz; subst hz; exact hK))); (conv => whnf)) | ((with_reducible apply gd_and); (focus ((conv => whnf) <;> first | rfl | (intro K hK; (conv => whnf); first | exact hK | (intro z hz; rw [wrapI (by omega)] at hz; subst hz; exact hK)))); (conv => whnf)) | ((with_reducible apply z_wrap); (focus omega); (conv => whnf)) | ((with_reducible first | apply mt_dec | apply mt_eq | apply mt_ne | apply mt_not | apply mt_any) <;> (intro _; conv => whnf))) | ((with_reducible apply gd_and); (focus ((conv => whnf); intro K hK; (conv => whnf); exact ⟨by omega, b.cs, (by rw [show ((j : Int) - 1).toNat = j - 1 by omega]; exact accsD_at hb), hK⟩)); (conv => whnf)))
              · rename_i e6
                replace e6 : b.sender ≥ c.sender := e6
                exact no fun h => by have h6 := h.less b (by omega) hb; omega
              · rename_i e6
                replace e6 : ¬ b.sender ≥ c.sender := e6
                exact ⟨j + 1, rfl, rfl, ⟨by omega, hsucc ⟨e1, e2, fun q _ hq => (by rw [hb] at hq; cases hq; omega)⟩⟩, by omega⟩
            · rename_i e2 e5
              replace e2 := of_decide_eq_true e2
              replace e5 : ¬ (j : Int) > 0 := e5
              exact ⟨j + 1, rfl, rfl, ⟨by omega, hsucc ⟨e1, e2, fun q h0 => absurd h0 (by omega)⟩⟩, by omega⟩
        · rename_i h
          replace h : ¬ (j : Int) < (((accsD accs).length : Nat) : Int) := h
          obtain rfl : j = accs.length := by omega
          have hall : ∀ i p, accs[i]? = some p → accOk accs i p := fun i p hp => hr i p (List.getElem?_eq_some_iff.1 hp).1 hp
          exact ⟨by rw [decide_eq_true (show tabMay prs accs from ⟨hallp, by omega, hall⟩)]; rfl, rfl⟩

end Go.Proofs.Ytkaepgfmpljlmaa

namespace Go.Proofs.Ytkaepgfmpljlmaa
open Go.Ab Go.RowKit Go.MapKept
attribute [local irreducible] ACalls AW ADraw Into fltB fnear
set_option maxRecDepth 100000
/-! ## what was executed, that may be -/
structure execMay (prs : List PairS) (accs : List AccS) (seen : List Int) (count : Int) : Prop where
  tab : tabMay prs accs
  dig : ∀ x ∈ seen, 1 ≤ x ∧ x ≤ 65536
  nd : seen.Nodup
  cnt : 0 ≤ count ∧ count ≤ seen.length
def execCs (prs : List PairS) (accs : List AccS) (seen : List Int) (count : Int) : List AV := [.d (.sl 2 (pairsD prs)), .d (.sl 2 (accsD accs)), .d (.sl 1 (nums seen)), .d (.int .i64 count)]
def entI (x : Int) : KV × MV := (.one (.int .i64 x), .v (.one (.bool true)))
theorem mfI_none {x : Int} : ∀ {l : List Int} {j : Nat}, x ∉ l → mfind (.one (.int .i64 x)) (l.map entI) j = some none
  | [], j, _ => rfl
  | y :: r, j, h => by
    have hy : (x == y) = false := by rw [beq_eq_false_iff_ne]; rintro rfl; exact h (by simp)
    show (match keqM (.one (.int .i64 x)) (.one (.int .i64 y)) with | some true => _ | some false => _ | none => _) = _
    have : keqM (.one (.int .i64 x)) (.one (.int .i64 y)) = some (x == y) := rfl
    rw [this, hy]
    exact mfI_none fun h2 => h (by simp [h2])
theorem mfI_some {x : Int} : ∀ {l : List Int} {j : Nat}, x ∈ l → ∃ i, mfind (.one (.int .i64 x)) (l.map entI) j = some (some (i, .v (.one (.bool true))))
  | [], j, h => by simp at h
  | y :: r, j, h => by
    have e : keqM (.one (.int .i64 x)) (.one (.int .i64 y)) = some (x == y) := rfl
    by_cases hy : x = y
    · refine ⟨j, ?_⟩
      show (match keqM (.one (.int .i64 x)) (.one (.int .i64 y)) with | some true => _ | some false => _ | none => _) = _
      rw [e, show (x == y) = true by rw [beq_iff_eq]; exact hy]
    · obtain ⟨i, hi⟩ := mfI_some (x := x) (l := r) (j := j + 1) ((List.mem_cons.1 h).resolve_left hy)
      refine ⟨i, ?_⟩
      show (match keqM (.one (.int .i64 x)) (.one (.int .i64 y)) with | some true => _ | some false => _ | none => _) = _
      rw [e, show (x == y) = false by rw [beq_eq_false_iff_ne]; exact hy]
      exact hi
theorem nodup_snoc {l : List Int} {x : Int} : (l ++ [x]).Nodup ↔ l.Nodup ∧ x ∉ l := by
  rw [List.nodup_append]
  constructor
  · rintro ⟨h1, h2, h3⟩
    exact ⟨h1, fun h4 => h3 x h4 x (by simp) rfl⟩
  · rintro ⟨h1, h2⟩
    exact ⟨h1, by simp, fun a ha b hb e => by simp at hb; subst hb; subst e; exact h2 ha⟩
open Classical in
set_option maxHeartbeats 2000000 in
theorem exec_ok (prs : List PairS) (accs : List AccS) (seen : List Int) (count : Int) (hp : prs.length ≤ 1000000) (ha : accs.length ≤ 1000000) (hs : seen.length ≤ 1000000) : ACalls Try.prog 31 [.agg (execCs prs accs seen count)] [] (fun av L => av = .d (.bool (decide (execMay prs accs seen count))) ∧ L = []) := by
  have hsl := nums_length seen
  have htab := tab_ok prs accs hp ha
  refine acalls_go ttOk zOk foOk Try.func31 rfl Try.ntmps31 rfl false rfl ?_
  conv => whnf
  conv => whnf
  repeat' (first | ((with_reducible apply rd_intro); (focus (intro K hK; (conv => whnf); first | exact hK | (intro z hz; rw [wrapI (by omega)] at hz; subst hz; exact hK))); (conv => whnf)) | ((with_reducible apply gd_and); (focus ((conv => whnf) <;> first | rfl | (intro K hK; (conv => whnf); first | exact hK | (intro z hz; rw [wrapI (by omega)] at hz; subst hz; exact hK)))); (conv => whnf)) | ((with_reducible apply z_wrap); (focus omega); (conv => whnf)) | ((with_reducible first | apply mt_dec | apply mt_eq | apply mt_ne | apply mt_not | apply mt_any) <;> (intro _; conv => whnf)))
  refine loop_go ttOk zOk foOk (σ := Nat) (fun j => ([(1, .ptr 0 0), (3, .map 1), (8, .d (.sl 1 (nums seen))), (9, .d (.int .i64 seen.length)), (10, .d (.int .i64 j))], [.cells (execCs prs accs seen count), .map ((seen.take j).map entI)])) (fun j => j ≤ seen.length ∧ (∀ x ∈ seen.take j, 1 ≤ x ∧ x ≤ 65536) ∧ (seen.take j).Nodup) (fun j => seen.length - j) [1, 3, 8, 9, 10] ?_ ?_
  · conv => whnf
    exact ⟨0, by rw [hsl]; rfl, rfl, Nat.zero_le _, by simp, by simp⟩
  · rintro j ⟨hj, hr, hn⟩
    conv => whnf
    repeat' (first | ((with_reducible apply rd_intro); (focus (intro K hK; (conv => whnf); first | exact hK | (intro z hz; rw [wrapI (by omega)] at hz; subst hz; exact hK))); (conv => whnf)) | ((with_reducible apply gd_and); (focus ((conv => whnf) <;> first | rfl | (intro K hK; (conv => whnf); first | exact hK | (intro z hz; rw [wrapI (by omega)] at hz; subst hz; exact hK)))); (conv => whnf)) | ((with_reducible apply z_wrap); (focus omega); (conv => whnf)) | ((with_reducible first | apply mt_dec | apply mt_eq | apply mt_ne | apply mt_not | apply mt_any) <;> (intro _; conv => whnf)))
    · rename_i h
      replace h : (j : Int) < seen.length := h
      refine Exists.elim (⟨_, List.getElem?_eq_getElem (by omega)⟩ : ∃ c, seen[j]? = some c) fun x hx => ?_
      have htk := take_snoc hx
      refine ⟨by omega, [.int .i64 x], nums_at hx, ?_⟩
      conv => whnf
      repeat' (first | ((with_reducible apply rd_intro); (focus (intro K hK; (conv => whnf); first | exact hK | (intro z hz; rw [wrapI (by omega)] at hz; subst hz; exact hK))); (conv => whnf)) | ((with_reducible apply gd_and); (focus ((conv => whnf) <;> first | rfl | (intro K hK; (conv => whnf); first | exact hK | (intro z hz; rw [wrapI (by omega)] at hz; subst hz; exact hK)))); (conv => whnf)) | ((with_reducible apply z_wrap); (focus omega); (conv => whnf)) | ((with_reducible first | apply mt_dec | apply mt_eq | apply mt_ne | apply mt_not | apply mt_any) <;> (intro _; conv => whnf)))
      refine (digest_ok x).mono ?_
      rintro _ _ ⟨rfl, rfl⟩
      conv => whnf
      repeat' (first | ((with_reducible apply rd_intro); (focus (intro K hK; (conv => whnf); first | exact hK | (intro z hz; rw [wrapI (by omega)] at hz; subst hz; exact hK))); (conv => whnf)) | ((with_reducible apply gd_and); (focus ((conv => whnf) <;> first | rfl | (intro K hK; (conv => whnf); first | exact hK | (intro z hz; rw [wrapI (by omega)] at hz; subst hz; exact hK)))); (conv => whnf)) | ((with_reducible apply z_wrap); (focus omega); (conv => whnf)) | ((with_reducible first | apply mt_dec | apply mt_eq | apply mt_ne | apply mt_not | apply mt_any) <;> (intro _; conv => whnf)))
      all_goals rename_i e1
      · exact ⟨by rw [decide_eq_false fun h2 : execMay prs accs seen count => by rw [decide_eq_true (h2.dig x (List.mem_of_getElem? hx))] at e1; cases e1]; rfl, rfl⟩
      · replace e1 := of_decide_eq_true e1
        by_cases hin : x ∈ seen.take j
        · refine Exists.elim (mfI_some (j := 0) hin) fun i hi => ?_
          refine ⟨_, hi, ?_⟩
          conv => whnf
          refine ⟨?_, rfl⟩
          rw [decide_eq_false fun h2 : execMay prs accs seen count => by
            have h3 := h2.nd.sublist (List.take_sublist (j + 1) seen)
            rw [htk] at h3
            exact (nodup_snoc.1 h3).2 hin]
          rfl
        · refine ⟨_, mfI_none hin, ?_⟩
          conv => whnf
          repeat' (first | ((with_reducible apply rd_intro); (focus (intro K hK; (conv => whnf); first | exact hK | (intro z hz; rw [wrapI (by omega)] at hz; subst hz; exact hK))); (conv => whnf)) | ((with_reducible apply gd_and); (focus ((conv => whnf) <;> first | rfl | (intro K hK; (conv => whnf); first | exact hK | (intro z hz; rw [wrapI (by omega)] at hz; subst hz; exact hK)))); (conv => whnf)) | ((with_reducible apply z_wrap); (focus omega); (conv => whnf)) | ((with_reducible first | apply mt_dec | apply mt_eq | apply mt_ne | apply mt_not | apply mt_any) <;> (intro _; conv => whnf)))
          refine ⟨_, mfI_none hin, ?_⟩
          conv => whnf
          repeat' (first | ((with_reducible apply rd_intro); (focus (intro K hK; (conv => whnf); first | exact hK | (intro z hz; rw [wrapI (by omega)] at hz; subst hz; exact hK))); (conv => whnf)) | ((with_reducible apply gd_and); (focus ((conv => whnf) <;> first | rfl | (intro K hK; (conv => whnf); first | exact hK | (intro z hz; rw [wrapI (by omega)] at hz; subst hz; exact hK)))); (conv => whnf)) | ((with_reducible apply z_wrap); (focus omega); (conv => whnf)) | ((with_reducible first | apply mt_dec | apply mt_eq | apply mt_ne | apply mt_not | apply mt_any) <;> (intro _; conv => whnf)))
          refine ⟨j + 1, rfl, ?_, ⟨by omega, ?_, ?_⟩, by omega⟩
          · rw [htk, List.map_append]; rfl
          · rw [htk]
            intro y hy
            rcases List.mem_append.1 hy with hy | hy
            · exact hr y hy
            · rw [List.mem_singleton.1 hy]; exact e1
          · rw [htk]; exact nodup_snoc.2 ⟨hn, hin⟩
    · rename_i h
      replace h : ¬ (j : Int) < seen.length := h
      rw [List.take_of_length_le (by omega)] at hr hn
      refine ACalls.mono (post := fun av L => av = .d (.bool (decide (tabMay prs accs))) ∧ L = []) htab ?_
      rintro _ _ ⟨rfl, rfl⟩
      conv => whnf
      repeat' (first | ((with_reducible apply rd_intro); (focus (intro K hK; (conv => whnf); first | exact hK | (intro z hz; rw [wrapI (by omega)] at hz; subst hz; exact hK))); (conv => whnf)) | ((with_reducible apply gd_and); (focus ((conv => whnf) <;> first | rfl | (intro K hK; (conv => whnf); first | exact hK | (intro z hz; rw [wrapI (by omega)] at hz; subst hz; exact hK)))); (conv => whnf)) | ((with_reducible apply z_wrap); (focus omega); (conv => whnf)) | ((with_reducible first | apply mt_dec | apply mt_eq | apply mt_ne | apply mt_not | apply mt_any) <;> (intro _; conv => whnf)))
      · rename_i e1 e2
        replace e2 : count ≥ 0 := e2
        refine ⟨congrArg (fun b => AV.d (.bool b)) ?_, rfl⟩
        rw [decide_eq_decide]
        exact ⟨fun h6 => ⟨e1, hr, hn, e2, by omega⟩, fun h6 => by have := h6.cnt.2; omega⟩
      · rename_i e1 e2
        replace e2 : ¬ count ≥ 0 := e2
        exact ⟨by rw [decide_eq_false fun h6 : execMay prs accs seen count => e2 h6.cnt.1]; rfl, rfl⟩
      · rename_i e1
        exact ⟨by rw [decide_eq_false fun h6 : execMay prs accs seen count => e1 h6.tab]; rfl, rfl⟩
def inC (l : List Int) (x : Int) : Option Nat := l.findIdx? fun y => decide (y = x)
def inI (l : List Int) (x : Int) : Int := (inC l x).elim (-1) fun i => (i : Int)
theorem inC_no {l : List Int} {x : Int} (h : ∀ c ∈ l, c ≠ x) : inC l x = none := by
  unfold inC
  rw [List.findIdx?_eq_none_iff]
  intro c hc
  simp [h c hc]
theorem inC_here {l : List Int} {x : Int} {j : Nat} (hc : l[j]? = some x) (h : ∀ c ∈ l.take j, c ≠ x) : inC l x = some j := by
  unfold inC
  rw [List.findIdx?_eq_some_iff_getElem]
  obtain ⟨hj, rfl⟩ := List.getElem?_eq_some_iff.1 hc
  refine ⟨hj, by simp, fun i hi => ?_⟩
  have := h l[i] (List.mem_take_iff_getElem.2 ⟨i, by omega, rfl⟩)
  simpa using this
theorem inI_not {l : List Int} {x : Int} (h : x ∉ l) : inI l x = -1 := by
  rw [inI, inC_no (l := l) (x := x) fun c hc e => h (by rw [← e]; exact hc)]; rfl
theorem in_ok (l : List Int) (hl : few l) (x : Int) : ACalls Try.prog 38 [.d (.sl 1 (nums l)), .d (.int .i64 x)] [] (fun av L => av = .d (.int .i64 (inI l x)) ∧ L = []) := by
  have hcl := nums_length l
  unfold few at hl
  refine acalls_go ttOk zOk foOk Try.func38 rfl Try.ntmps38 rfl false rfl ?_
  conv => whnf
  refine loop_go ttOk zOk foOk (σ := Nat) (fun j => ([(0, .d (.sl 1 (nums l))), (1, .d (.int .i64 x)), (5, .d (.int .i64 j))], [])) (fun j => j ≤ l.length ∧ ∀ c ∈ l.take j, c ≠ x) (fun j => l.length - j) [0, 1, 5] ?_ ?_
  · conv => whnf
    exact ⟨0, rfl, rfl, Nat.zero_le _, by simp⟩
  · rintro j ⟨hj, hall⟩
    conv => whnf
    rw [hcl]
    repeat' (first | ((with_reducible apply rd_intro); (focus (intro K hK; (conv => whnf); first | exact hK | (intro z hz; rw [wrapI (by omega)] at hz; subst hz; exact hK))); (conv => whnf)) | ((with_reducible apply gd_and); (focus ((conv => whnf) <;> first | rfl | (intro K hK; (conv => whnf); first | exact hK | (intro z hz; rw [wrapI (by omega)] at hz; subst hz; exact hK)))); (conv => whnf)) | ((with_reducible apply z_wrap); (focus omega); (conv => whnf)) | ((with_reducible first | apply mt_dec | apply mt_eq | apply mt_ne | apply mt_not | apply mt_any) <;> (intro _; conv => whnf)))
    · rename_i h
      refine Exists.elim (⟨_, List.getElem?_eq_getElem (by omega)⟩ : ∃ c, l[j]? = some c) fun c hc => ?_
      refine ⟨by omega, [.int .i64 c], nums_at hc, ?_⟩
      conv => whnf
      repeat' (first | ((with_reducible apply rd_intro); (focus (intro K hK; (conv => whnf); first | exact hK | (intro z hz; rw [wrapI (by omega)] at hz; subst hz; exact hK))); (conv => whnf)) | ((with_reducible apply gd_and); (focus ((conv => whnf) <;> first | rfl | (intro K hK; (conv => whnf); first | exact hK | (intro z hz; rw [wrapI (by omega)] at hz; subst hz; exact hK)))); (conv => whnf)) | ((with_reducible apply z_wrap); (focus omega); (conv => whnf)) | ((with_reducible first | apply mt_dec | apply mt_eq | apply mt_ne | apply mt_not | apply mt_any) <;> (intro _; conv => whnf)))
      · rename_i h2
        rw [inI, inC_here (by rw [hc, h2]) hall]
        exact ⟨rfl, rfl⟩
      · rename_i h2
        refine ⟨j + 1, rfl, rfl, ⟨by omega, fun y hy => ?_⟩, by omega⟩
        rw [List.take_add_one, hc] at hy
        rcases List.mem_append.1 hy with hy | hy
        · exact hall y hy
        · simp at hy; rw [hy]; exact h2
    · rename_i h
      rw [List.take_of_length_le (by omega)] at hall
      rw [inI, inC_no hall]
      exact ⟨rfl, rfl⟩
theorem nd_len {l : List Int} (hn : l.Nodup) (h : ∀ x ∈ l, 1 ≤ x ∧ x ≤ 65536) : l.length ≤ 65536 := by
  have := sub_len (m := (List.range 65536).map fun n : Nat => (n : Int) + 1) hn fun x hx => by
    have := h x hx
    exact List.mem_map.2 ⟨(x - 1).toNat, by simp; omega, by omega⟩
  simpa using this
open Classical in
set_option maxHeartbeats 2000000 in
theorem rexec_ok (prs : List PairS) (accs : List AccS) (seen : List Int) (count : Int) (h : execMay prs accs seen count) : ACalls Try.prog 23 [.agg (execCs prs accs seen count)] [] (fun av L => av = .d (.bool true) ∧ L = []) := by
  have hsl := nums_length seen
  have htl := h.tab.1.1
  have hta := h.tab.2.1
  have hlen := nd_len h.nd h.dig
  have hfew : few seen := by unfold few; omega
  have htab := rtab_ok prs accs (by omega) (by omega)
  have hdig := rDigests_ok seen hfew
  rw [decide_eq_true h.tab] at htab
  rw [decide_eq_true h.dig] at hdig
  obtain ⟨hc0, hc1⟩ := h.cnt
  refine acalls_go ttOk zOk foOk Try.func23 rfl Try.ntmps23 rfl false rfl ?_
  conv => whnf
  conv => whnf
  repeat' (first | ((with_reducible apply rd_intro); (focus (intro K hK; (conv => whnf); first | exact hK | (intro z hz; rw [wrapI (by omega)] at hz; subst hz; exact hK))); (conv => whnf)) | ((with_reducible apply gd_and); (focus ((conv => whnf) <;> first | rfl | (intro K hK; (conv => whnf); first | exact hK | (intro z hz; rw [wrapI (by omega)] at hz; subst hz; exact hK)))); (conv => whnf)) | ((with_reducible apply z_wrap); (focus omega); (conv => whnf)) | ((with_reducible first | apply mt_dec | apply mt_eq | apply mt_ne | apply mt_not | apply mt_any) <;> (intro _; conv => whnf)))
  refine ACalls.mono (post := fun av L => av = .d (.bool true) ∧ L = []) htab ?_
  rintro _ _ ⟨rfl, rfl⟩
  conv => whnf
  repeat' (first | ((with_reducible apply rd_intro); (focus (intro K hK; (conv => whnf); first | exact hK | (intro z hz; rw [wrapI (by omega)] at hz; subst hz; exact hK))); (conv => whnf)) | ((with_reducible apply gd_and); (focus ((conv => whnf) <;> first | rfl | (intro K hK; (conv => whnf); first | exact hK | (intro z hz; rw [wrapI (by omega)] at hz; subst hz; exact hK)))); (conv => whnf)) | ((with_reducible apply z_wrap); (focus omega); (conv => whnf)) | ((with_reducible first | apply mt_dec | apply mt_eq | apply mt_ne | apply mt_not | apply mt_any) <;> (intro _; conv => whnf)))
  · rename_i e
    replace e : (((nums seen).length : Nat) : Int) > 65536 := e
    omega
  rename_i e
  refine ACalls.mono (post := fun av L => av = .d (.bool true) ∧ L = []) hdig ?_
  rintro _ _ ⟨rfl, rfl⟩
  conv => whnf
  repeat' (first | ((with_reducible apply rd_intro); (focus (intro K hK; (conv => whnf); first | exact hK | (intro z hz; rw [wrapI (by omega)] at hz; subst hz; exact hK))); (conv => whnf)) | ((with_reducible apply gd_and); (focus ((conv => whnf) <;> first | rfl | (intro K hK; (conv => whnf); first | exact hK | (intro z hz; rw [wrapI (by omega)] at hz; subst hz; exact hK)))); (conv => whnf)) | ((with_reducible apply z_wrap); (focus omega); (conv => whnf)) | ((with_reducible first | apply mt_dec | apply mt_eq | apply mt_ne | apply mt_not | apply mt_any) <;> (intro _; conv => whnf)))
  · rename_i e
    replace e : count < 0 := e
    omega
  · rename_i e1 e
    replace e : count > (((nums seen).length : Nat) : Int) := e
    omega
  clear e
  rename_i e1 e2
  clear e1 e2
  refine loop_go ttOk zOk foOk (σ := Nat) (fun j => ([(1, .ptr 0 0), (3, .d (.int .i64 j))], [.cells (execCs prs accs seen count)])) (fun j => j ≤ seen.length) (fun j => seen.length - j) [1, 3] ?_ ?_
  · conv => whnf
    exact ⟨0, rfl, rfl, Nat.zero_le _⟩
  · intro j hj
    conv => whnf
    repeat' (first | ((with_reducible apply rd_intro); (focus (intro K hK; (conv => whnf); first | exact hK | (intro z hz; rw [wrapI (by omega)] at hz; subst hz; exact hK))); (conv => whnf)) | ((with_reducible apply gd_and); (focus ((conv => whnf) <;> first | rfl | (intro K hK; (conv => whnf); first | exact hK | (intro z hz; rw [wrapI (by omega)] at hz; subst hz; exact hK)))); (conv => whnf)) | ((with_reducible apply z_wrap); (focus omega); (conv => whnf)) | ((with_reducible first | apply mt_dec | apply mt_eq | apply mt_ne | apply mt_not | apply mt_any) <;> (intro _; conv => whnf)))
    · rename_i e
      replace e : (j : Int) < (((nums seen).length : Nat) : Int) := e
      refine Exists.elim (⟨_, List.getElem?_eq_getElem (by omega)⟩ : ∃ c, seen[j]? = some c) fun x hx => ?_
      have hin := in_ok (seen.take j) (by unfold few; simp; omega) x
      rw [inI_not fun hm => by
        have h3 := h.nd.sublist (List.take_sublist (j + 1) seen)
        rw [take_snoc hx] at h3
        exact (nodup_snoc.1 h3).2 hm] at hin
      ((with_reducible refine draw_pl ttOk zOk foOk mixedOk pl23x6 ?_ ?_); (focus kernel_rfl); (conv => whnf))
      repeat' (first | ((with_reducible apply rd_intro); (focus (intro K hK; (conv => whnf); first | exact hK | (intro z hz; rw [wrapI (by omega)] at hz; subst hz; exact hK))); (conv => whnf)) | ((with_reducible apply gd_and); (focus ((conv => whnf) <;> first | rfl | (intro K hK; (conv => whnf); first | exact hK | (intro z hz; rw [wrapI (by omega)] at hz; subst hz; exact hK)))); (conv => whnf)) | ((with_reducible apply z_wrap); (focus omega); (conv => whnf)) | ((with_reducible first | apply mt_dec | apply mt_eq | apply mt_ne | apply mt_not | apply mt_any) <;> (intro _; conv => whnf)))
      ((with_reducible apply rd_intro); (focus (intro K hK; (conv => whnf); exact ⟨by omega, by omega, by omega, hK⟩)); (conv => whnf))
      repeat' (first | ((with_reducible apply rd_intro); (focus (intro K hK; (conv => whnf); first | exact hK | (intro z hz; rw [wrapI (by omega)] at hz; subst hz; exact hK))); (conv => whnf)) | ((with_reducible apply gd_and); (focus ((conv => whnf) <;> first | rfl | (intro K hK; (conv => whnf); first | exact hK | (intro z hz; rw [wrapI (by omega)] at hz; subst hz; exact hK)))); (conv => whnf)) | ((with_reducible apply z_wrap); (focus omega); (conv => whnf)) | ((with_reducible first | apply mt_dec | apply mt_eq | apply mt_ne | apply mt_not | apply mt_any) <;> (intro _; conv => whnf)))
      ((with_reducible apply rd_intro); (focus (intro K hK; (conv => whnf); exact ix_map hx (by first | rfl | omega) hK)); (conv => whnf))
      repeat' (first | ((with_reducible apply rd_intro); (focus (intro K hK; (conv => whnf); first | exact hK | (intro z hz; rw [wrapI (by omega)] at hz; subst hz; exact hK))); (conv => whnf)) | ((with_reducible apply gd_and); (focus ((conv => whnf) <;> first | rfl | (intro K hK; (conv => whnf); first | exact hK | (intro z hz; rw [wrapI (by omega)] at hz; subst hz; exact hK)))); (conv => whnf)) | ((with_reducible apply z_wrap); (focus omega); (conv => whnf)) | ((with_reducible first | apply mt_dec | apply mt_eq | apply mt_ne | apply mt_not | apply mt_any) <;> (intro _; conv => whnf)))
      have e3 : ((nums seen).take ((j : Nat) : Int).toNat).drop (0 : Int).toNat = nums (seen.take j) := by
        rw [Int.toNat_natCast]; simp [nums]
      rw [← e3] at hin
      refine ACalls.mono (post := fun av L => av = .d (.int .i64 (-1)) ∧ L = []) hin ?_
      rintro _ _ ⟨rfl, rfl⟩
      conv => whnf
      repeat' (first | ((with_reducible apply rd_intro); (focus (intro K hK; (conv => whnf); first | exact hK | (intro z hz; rw [wrapI (by omega)] at hz; subst hz; exact hK))); (conv => whnf)) | ((with_reducible apply gd_and); (focus ((conv => whnf) <;> first | rfl | (intro K hK; (conv => whnf); first | exact hK | (intro z hz; rw [wrapI (by omega)] at hz; subst hz; exact hK)))); (conv => whnf)) | ((with_reducible apply z_wrap); (focus omega); (conv => whnf)) | ((with_reducible first | apply mt_dec | apply mt_eq | apply mt_ne | apply mt_not | apply mt_any) <;> (intro _; conv => whnf)))
      exact ⟨j + 1, rfl, rfl, by omega, by omega⟩
    · exact ⟨rfl, rfl⟩
end Go.Proofs.Ytkaepgfmpljlmaa

namespace Go.Proofs.Ytkaepgfmpljlmaa
open Go.Ab Go.RowKit Go.MapKept
attribute [local irreducible] ACalls AW ADraw Into fltB fnear
set_option maxRecDepth 100000
/-! ## a checkpoint -/
structure Pt where
  cur : Cursor
  prs : List PairS
  accs : List AccS
  seen : List Int
  count : Int
def Pt.cs (p : Pt) : List AV := [.d (.int .i64 p.cur.round), .d (.sl 1 (nums p.cur.done)), .d (.int .i64 p.cur.count), .d (.sl 2 (pairsD p.prs)), .d (.sl 2 (accsD p.accs)), .d (.sl 1 (nums p.seen)), .d (.int .i64 p.count)]
def Pt.av (p : Pt) : AV := .agg p.cs
def ptMay (p : Pt) : Prop := curMay p.cur ∧ execMay p.prs p.accs p.seen p.count
/-- of bounded size -/
structure Pt.fit (p : Pt) : Prop where
  done : p.cur.done.length ≤ 1000000
  prs : p.prs.length ≤ 100000
  accs : p.accs.length ≤ 100000
  seen : p.seen.length ≤ 1000000
open Classical in
theorem imgMay_ok (p : Pt) (h : p.fit) : ACalls Try.prog 18 [p.av] [] (fun av L => av = .d (.bool (decide (ptMay p))) ∧ L = []) := by
  have h1 := h.done
  have h2 := h.prs
  have h3 := h.accs
  have hm := curMay_full p.cur (by unfold few; omega)
  have he := exec_ok p.prs p.accs p.seen p.count (by omega) (by omega) h.seen
  refine acalls_go ttOk zOk foOk Try.func18 rfl Try.ntmps18 rfl false rfl ?_
  conv => whnf
  conv => whnf
  repeat' (first | ((with_reducible apply rd_intro); (focus (intro K hK; (conv => whnf); first | exact hK | (intro z hz; rw [wrapI (by omega)] at hz; subst hz; exact hK))); (conv => whnf)) | ((with_reducible apply gd_and); (focus ((conv => whnf) <;> first | rfl | (intro K hK; (conv => whnf); first | exact hK | (intro z hz; rw [wrapI (by omega)] at hz; subst hz; exact hK)))); (conv => whnf)) | ((with_reducible apply z_wrap); (focus omega); (conv => whnf)) | ((with_reducible first | apply mt_dec | apply mt_eq | apply mt_ne | apply mt_not | apply mt_any) <;> (intro _; conv => whnf)))
  refine ACalls.mono (post := fun av L => av = .d (.bool (isM p.cur)) ∧ L = []) hm ?_
  rintro _ _ ⟨rfl, rfl⟩
  by_cases hc : curMay p.cur
  · rw [isM_yes hc]
    conv => whnf
    repeat' (first | ((with_reducible apply rd_intro); (focus (intro K hK; (conv => whnf); first | exact hK | (intro z hz; rw [wrapI (by omega)] at hz; subst hz; exact hK))); (conv => whnf)) | ((with_reducible apply gd_and); (focus ((conv => whnf) <;> first | rfl | (intro K hK; (conv => whnf); first | exact hK | (intro z hz; rw [wrapI (by omega)] at hz; subst hz; exact hK)))); (conv => whnf)) | ((with_reducible apply z_wrap); (focus omega); (conv => whnf)) | ((with_reducible first | apply mt_dec | apply mt_eq | apply mt_ne | apply mt_not | apply mt_any) <;> (intro _; conv => whnf)))
    refine ACalls.mono (post := fun av L => av = .d (.bool (decide (execMay p.prs p.accs p.seen p.count))) ∧ L = []) he ?_
    rintro _ _ ⟨rfl, rfl⟩
    conv => whnf
    refine ⟨congrArg (fun b => AV.d (.bool b)) ?_, rfl⟩
    rw [decide_eq_decide]
    exact ⟨fun h => ⟨hc, h⟩, fun h => h.2⟩
  · rw [isM_no hc]
    conv => whnf
    exact ⟨by rw [decide_eq_false fun h : ptMay p => hc h.1]; rfl, rfl⟩
theorem lawMay_ok (p : Pt) (h : ptMay p) : ACalls Try.prog 10 [p.av] [] (fun av L => av = .d (.bool true) ∧ L = []) := by
  have h1 := rise_len2 h.1.done
  have hm := rCurMay_full p.cur (by unfold few; omega)
  have he := rexec_ok p.prs p.accs p.seen p.count h.2
  rw [isM_yes h.1] at hm
  refine acalls_go ttOk zOk foOk Try.func10 rfl Try.ntmps10 rfl false rfl ?_
  conv => whnf
  conv => whnf
  repeat' (first | ((with_reducible apply rd_intro); (focus (intro K hK; (conv => whnf); first | exact hK | (intro z hz; rw [wrapI (by omega)] at hz; subst hz; exact hK))); (conv => whnf)) | ((with_reducible apply gd_and); (focus ((conv => whnf) <;> first | rfl | (intro K hK; (conv => whnf); first | exact hK | (intro z hz; rw [wrapI (by omega)] at hz; subst hz; exact hK)))); (conv => whnf)) | ((with_reducible apply z_wrap); (focus omega); (conv => whnf)) | ((with_reducible first | apply mt_dec | apply mt_eq | apply mt_ne | apply mt_not | apply mt_any) <;> (intro _; conv => whnf)))
  refine ACalls.mono (post := fun av L => av = .d (.bool true) ∧ L = []) hm ?_
  rintro _ _ ⟨rfl, rfl⟩
  conv => whnf
  repeat' (first | ((with_reducible apply rd_intro); (focus (intro K hK; (conv => whnf); first | exact hK | (intro z hz; rw [wrapI (by omega)] at hz; subst hz; exact hK))); (conv => whnf)) | ((with_reducible apply gd_and); (focus ((conv => whnf) <;> first | rfl | (intro K hK; (conv => whnf); first | exact hK | (intro z hz; rw [wrapI (by omega)] at hz; subst hz; exact hK)))); (conv => whnf)) | ((with_reducible apply z_wrap); (focus omega); (conv => whnf)) | ((with_reducible first | apply mt_dec | apply mt_eq | apply mt_ne | apply mt_not | apply mt_any) <;> (intro _; conv => whnf)))
  refine ACalls.mono (post := fun av L => av = .d (.bool true) ∧ L = []) he ?_
  rintro _ _ ⟨rfl, rfl⟩
  conv => whnf
  exact ⟨rfl, rfl⟩
/-! ## its bytes -/
def accN (l : List AccS) : List Int := l.flatMap fun a => [a.sender, a.seq]
def prT (l : List PairS) : List ByteArray := l.flatMap fun a => [a.key, a.val]
def Pt.texts (p : Pt) : List ByteArray := [p.cur.round, p.cur.count, p.count].map ntext ++ [ltext p.cur.done, ltext p.seen, ltext (accN p.accs)] ++ prT p.prs
open Classical in
noncomputable def bytesR (p : Pt) : AV := if ptMay p then putR p.texts else .tup [.d (.sl 1 []), .d (.int .i64 1)]
theorem accN_len (l : List AccS) : (accN l).length = 2 * l.length := by
  induction l with
  | nil => rfl
  | cons a r ih => simp [accN] at ih ⊢; omega
theorem prT_len (l : List PairS) : (prT l).length = 2 * l.length := by
  induction l with
  | nil => rfl
  | cons a r ih => simp [prT] at ih ⊢; omega
theorem accN_snoc (l : List AccS) (a : AccS) : accN (l ++ [a]) = accN l ++ [a.sender, a.seq] := by simp [accN]
theorem prT_snoc (l : List PairS) (a : PairS) : prT (l ++ [a]) = prT l ++ [a.key, a.val] := by simp [prT]
open Classical in
set_option maxHeartbeats 4000000 in
theorem bytes_ok (p : Pt) (h : p.fit) : ACalls Try.prog 9 [p.av] [] (fun av L => av = bytesR p ∧ L = []) := by
  have hal := accsD_length p.accs
  have hpl := pairsD_length p.prs
  have hf1 := h.prs
  have hf2 := h.accs
  have hm := imgMay_ok p h
  refine acalls_go ttOk zOk foOk Try.func9 rfl Try.ntmps9 rfl false rfl ?_
  conv => whnf
  conv => whnf
  repeat' (first | ((with_reducible apply rd_intro); (focus (intro K hK; (conv => whnf); first | exact hK | (intro z hz; rw [wrapI (by omega)] at hz; subst hz; exact hK))); (conv => whnf)) | ((with_reducible apply gd_and); (focus ((conv => whnf) <;> first | rfl | (intro K hK; (conv => whnf); first | exact hK | (intro z hz; rw [wrapI (by omega)] at hz; subst hz; exact hK)))); (conv => whnf)) | ((with_reducible apply z_wrap); (focus omega); (conv => whnf)) | ((with_reducible first | apply mt_dec | apply mt_eq | apply mt_ne | apply mt_not | apply mt_any) <;> (intro _; conv => whnf)))
  refine ACalls.mono (post := fun av L => av = .d (.bool (decide (ptMay p))) ∧ L = []) hm ?_
  rintro _ _ ⟨rfl, rfl⟩
  by_cases hpm : ptMay p
  · rw [decide_eq_true hpm]
    have hbr : bytesR p = putR p.texts := if_pos hpm
    have hp3 : pos64 [p.cur.round, p.cur.count, p.count] := by
      have h1 := hpm.1.round
      have h2 := hpm.1.count
      have h3 := hpm.2.cnt
      have h4 := h.seen
      intro n hn
      simp only [List.mem_cons, List.not_mem_nil, or_false] at hn
      rcases hn with rfl | rfl | rfl <;> omega
    have hp4 : pos64 p.cur.done := fun n hn => by have := hpm.1.done.2 n hn; omega
    have hp5 : pos64 p.seen := fun n hn => by have := hpm.2.dig n hn; omega
    have hp6 : pos64 (accN p.accs) := fun n hn => by
      obtain ⟨a, ha, hn⟩ := List.mem_flatMap.1 hn
      obtain ⟨i, hi⟩ := List.mem_iff_getElem?.1 ha
      have := hpm.2.tab.2.2 i a hi
      have h1 := this.s
      have h2 := this.q
      simp only [List.mem_cons, List.not_mem_nil, or_false] at hn
      rcases hn with rfl | rfl <;> omega
    rw [hbr]
    conv => whnf
    repeat' (first | ((with_reducible apply rd_intro); (focus (intro K hK; (conv => whnf); first | exact hK | (intro z hz; rw [wrapI (by omega)] at hz; subst hz; exact hK))); (conv => whnf)) | ((with_reducible apply gd_and); (focus ((conv => whnf) <;> first | rfl | (intro K hK; (conv => whnf); first | exact hK | (intro z hz; rw [wrapI (by omega)] at hz; subst hz; exact hK)))); (conv => whnf)) | ((with_reducible apply z_wrap); (focus omega); (conv => whnf)) | ((with_reducible first | apply mt_dec | apply mt_eq | apply mt_ne | apply mt_not | apply mt_any) <;> (intro _; conv => whnf)))
    refine loop_go ttOk zOk foOk (σ := Nat) (fun j => ([(1, .ptr 0 0), (4, .arr 1), (16, .d (.sl 2 (accsD p.accs))), (17, .d (.int .i64 p.accs.length)), (18, .d (.int .i64 j))], [.cells p.cs, .row 3 1 (nums (accN (p.accs.take j))) false])) (fun j => j ≤ p.accs.length) (fun j => p.accs.length - j) [1, 4, 16, 17, 18] ?_ ?_
    · conv => whnf
      exact ⟨0, by rw [hal]; rfl, rfl, Nat.zero_le _⟩
    · intro j hj
      conv => whnf
      repeat' (first | ((with_reducible apply rd_intro); (focus (intro K hK; (conv => whnf); first | exact hK | (intro z hz; rw [wrapI (by omega)] at hz; subst hz; exact hK))); (conv => whnf)) | ((with_reducible apply gd_and); (focus ((conv => whnf) <;> first | rfl | (intro K hK; (conv => whnf); first | exact hK | (intro z hz; rw [wrapI (by omega)] at hz; subst hz; exact hK)))); (conv => whnf)) | ((with_reducible apply z_wrap); (focus omega); (conv => whnf)) | ((with_reducible first | apply mt_dec | apply mt_eq | apply mt_ne | apply mt_not | apply mt_any) <;> (intro _; conv => whnf)))
      · rename_i e
        replace e : (j : Int) < p.accs.length := e
        refine Exists.elim (⟨_, List.getElem?_eq_getElem (by omega)⟩ : ∃ c, p.accs[j]? = some c) fun c hc => ?_
        have hnl : (nums (accN (p.accs.take j))).length ≤ 200000 := by rw [nums_length, accN_len]; simp; omega
        refine ⟨by omega, c.cs, accsD_at hc, ?_⟩
        conv => whnf
        repeat' (first | ((with_reducible apply rd_intro); (focus (intro K hK; (conv => whnf); first | exact hK | (intro z hz; rw [wrapI (by omega)] at hz; subst hz; exact hK))); (conv => whnf)) | ((with_reducible apply gd_and); (focus ((conv => whnf) <;> first | rfl | (intro K hK; (conv => whnf); first | exact hK | (intro z hz; rw [wrapI (by omega)] at hz; subst hz; exact hK)))); (conv => whnf)) | ((with_reducible apply z_wrap); (focus omega); (conv => whnf)) | ((with_reducible first | apply mt_dec | apply mt_eq | apply mt_ne | apply mt_not | apply mt_any) <;> (intro _; conv => whnf)))
        refine ⟨by show ((nums (accN (p.accs.take j))).length + 2) * 8 ≤ _; omega, ?_⟩
        conv => whnf
        repeat' (first | ((with_reducible apply rd_intro); (focus (intro K hK; (conv => whnf); first | exact hK | (intro z hz; rw [wrapI (by omega)] at hz; subst hz; exact hK))); (conv => whnf)) | ((with_reducible apply gd_and); (focus ((conv => whnf) <;> first | rfl | (intro K hK; (conv => whnf); first | exact hK | (intro z hz; rw [wrapI (by omega)] at hz; subst hz; exact hK)))); (conv => whnf)) | ((with_reducible apply z_wrap); (focus omega); (conv => whnf)) | ((with_reducible first | apply mt_dec | apply mt_eq | apply mt_ne | apply mt_not | apply mt_any) <;> (intro _; conv => whnf)))
        refine ⟨j + 1, rfl, ?_, by omega, by omega⟩
        rw [take_snoc hc, accN_snoc, ← nums_apps]
        rfl
      · rename_i e
        replace e : ¬ (j : Int) < p.accs.length := e
        rw [List.take_of_length_le (by omega)]
        ((with_reducible refine draw_pl ttOk zOk foOk mixedOk pl9x9 ?_ ?_); (focus kernel_rfl); (conv => whnf))
        repeat' (first | ((with_reducible apply rd_intro); (focus (intro K hK; (conv => whnf); first | exact hK | (intro z hz; rw [wrapI (by omega)] at hz; subst hz; exact hK))); (conv => whnf)) | ((with_reducible apply gd_and); (focus ((conv => whnf) <;> first | rfl | (intro K hK; (conv => whnf); first | exact hK | (intro z hz; rw [wrapI (by omega)] at hz; subst hz; exact hK)))); (conv => whnf)) | ((with_reducible apply z_wrap); (focus omega); (conv => whnf)) | ((with_reducible first | apply mt_dec | apply mt_eq | apply mt_ne | apply mt_not | apply mt_any) <;> (intro _; conv => whnf)))
        (refine Or.inl ?_; (conv => whnf))
        refine ACalls.mono (post := fun av L => av = .arr 0 ∧ L = [.row 9 1 (strs ([p.cur.round, p.cur.count, p.count].map ntext)) false]) (texts_ok [p.cur.round, p.cur.count, p.count] (by simp) hp3) ?_
        rintro _ _ ⟨rfl, rfl⟩
        conv => whnf
        repeat' (first | ((with_reducible apply rd_intro); (focus (intro K hK; (conv => whnf); first | exact hK | (intro z hz; rw [wrapI (by omega)] at hz; subst hz; exact hK))); (conv => whnf)) | ((with_reducible apply gd_and); (focus ((conv => whnf) <;> first | rfl | (intro K hK; (conv => whnf); first | exact hK | (intro z hz; rw [wrapI (by omega)] at hz; subst hz; exact hK)))); (conv => whnf)) | ((with_reducible apply z_wrap); (focus omega); (conv => whnf)) | ((with_reducible first | apply mt_dec | apply mt_eq | apply mt_ne | apply mt_not | apply mt_any) <;> (intro _; conv => whnf)))
        refine ACalls.mono (post := fun av L => av = .d (.str (ltext p.cur.done)) ∧ L = []) (list_ok p.cur.done h.done hp4) ?_
        rintro _ _ ⟨rfl, rfl⟩
        conv => whnf
        repeat' (first | ((with_reducible apply rd_intro); (focus (intro K hK; (conv => whnf); first | exact hK | (intro z hz; rw [wrapI (by omega)] at hz; subst hz; exact hK))); (conv => whnf)) | ((with_reducible apply gd_and); (focus ((conv => whnf) <;> first | rfl | (intro K hK; (conv => whnf); first | exact hK | (intro z hz; rw [wrapI (by omega)] at hz; subst hz; exact hK)))); (conv => whnf)) | ((with_reducible apply z_wrap); (focus omega); (conv => whnf)) | ((with_reducible first | apply mt_dec | apply mt_eq | apply mt_ne | apply mt_not | apply mt_any) <;> (intro _; conv => whnf)))
        refine ACalls.mono (post := fun av L => av = .d (.str (ltext p.seen)) ∧ L = []) (list_ok p.seen h.seen hp5) ?_
        rintro _ _ ⟨rfl, rfl⟩
        conv => whnf
        repeat' (first | ((with_reducible apply rd_intro); (focus (intro K hK; (conv => whnf); first | exact hK | (intro z hz; rw [wrapI (by omega)] at hz; subst hz; exact hK))); (conv => whnf)) | ((with_reducible apply gd_and); (focus ((conv => whnf) <;> first | rfl | (intro K hK; (conv => whnf); first | exact hK | (intro z hz; rw [wrapI (by omega)] at hz; subst hz; exact hK)))); (conv => whnf)) | ((with_reducible apply z_wrap); (focus omega); (conv => whnf)) | ((with_reducible first | apply mt_dec | apply mt_eq | apply mt_ne | apply mt_not | apply mt_any) <;> (intro _; conv => whnf)))
        (refine Or.inl ?_; (conv => whnf))
        refine ACalls.mono (post := fun av L => av = .d (.str (ltext (accN p.accs))) ∧ L = []) (list_ok (accN p.accs) (by rw [accN_len]; omega) hp6) ?_
        rintro _ _ ⟨rfl, rfl⟩
        conv => whnf
        repeat' (first | ((with_reducible apply rd_intro); (focus (intro K hK; (conv => whnf); first | exact hK | (intro z hz; rw [wrapI (by omega)] at hz; subst hz; exact hK))); (conv => whnf)) | ((with_reducible apply gd_and); (focus ((conv => whnf) <;> first | rfl | (intro K hK; (conv => whnf); first | exact hK | (intro z hz; rw [wrapI (by omega)] at hz; subst hz; exact hK)))); (conv => whnf)) | ((with_reducible apply z_wrap); (focus omega); (conv => whnf)) | ((with_reducible first | apply mt_dec | apply mt_eq | apply mt_ne | apply mt_not | apply mt_any) <;> (intro _; conv => whnf)))
        refine ⟨by show (3 + 3) * 16 ≤ _; decide, ?_⟩
        conv => whnf
        repeat' (first | ((with_reducible apply rd_intro); (focus (intro K hK; (conv => whnf); first | exact hK | (intro z hz; rw [wrapI (by omega)] at hz; subst hz; exact hK))); (conv => whnf)) | ((with_reducible apply gd_and); (focus ((conv => whnf) <;> first | rfl | (intro K hK; (conv => whnf); first | exact hK | (intro z hz; rw [wrapI (by omega)] at hz; subst hz; exact hK)))); (conv => whnf)) | ((with_reducible apply z_wrap); (focus omega); (conv => whnf)) | ((with_reducible first | apply mt_dec | apply mt_eq | apply mt_ne | apply mt_not | apply mt_any) <;> (intro _; conv => whnf)))
        obtain ⟨B, hB⟩ : ∃ B, [p.cur.round, p.cur.count, p.count].map ntext ++ [ltext p.cur.done, ltext p.seen, ltext (accN p.accs)] = B := ⟨_, rfl⟩
        have hBl : B.length = 6 := by rw [← hB]; rfl
        have hBs : ∀ s ∈ B, s.size ≤ 1048586 := by
          rw [← hB]
          intro s hs
          simp only [List.map_cons, List.map_nil, List.cons_append, List.nil_append, List.mem_cons, List.not_mem_nil, or_false] at hs
          rcases hs with rfl | rfl | rfl | rfl | rfl | rfl
          · have := ntext_size p.cur.round; omega
          · have := ntext_size p.cur.count; omega
          · have := ntext_size p.count; omega
          · exact ltext_size _
          · exact ltext_size _
          · exact ltext_size _
        refine loop_go ttOk zOk foOk (σ := Nat) (fun j => ([(1, .ptr 0 0), (7, .arr 1), (56, .d (.sl 2 (pairsD p.prs))), (57, .d (.int .i64 p.prs.length)), (58, .d (.int .i64 j))], [.cells p.cs, .row 9 1 (strs (B ++ prT (p.prs.take j))) false])) (fun j => j ≤ p.prs.length) (fun j => p.prs.length - j) [1, 7, 56, 57, 58] ?_ ?_
        · conv => whnf
          exact ⟨0, by rw [hpl]; rfl, by rw [← hB]; rfl, Nat.zero_le _⟩
        · intro i hi
          conv => whnf
          repeat' (first | ((with_reducible apply rd_intro); (focus (intro K hK; (conv => whnf); first | exact hK | (intro z hz; rw [wrapI (by omega)] at hz; subst hz; exact hK))); (conv => whnf)) | ((with_reducible apply gd_and); (focus ((conv => whnf) <;> first | rfl | (intro K hK; (conv => whnf); first | exact hK | (intro z hz; rw [wrapI (by omega)] at hz; subst hz; exact hK)))); (conv => whnf)) | ((with_reducible apply z_wrap); (focus omega); (conv => whnf)) | ((with_reducible first | apply mt_dec | apply mt_eq | apply mt_ne | apply mt_not | apply mt_any) <;> (intro _; conv => whnf)))
          · rename_i e
            replace e : (i : Int) < p.prs.length := e
            refine Exists.elim (⟨_, List.getElem?_eq_getElem (by omega)⟩ : ∃ c, p.prs[i]? = some c) fun c hc => ?_
            have hnl : (strs (B ++ prT (p.prs.take i))).length ≤ 200010 := by rw [strs_length, List.length_append, hBl, prT_len]; simp; omega
            refine ⟨by omega, c.cs, pairsD_at hc, ?_⟩
            conv => whnf
            repeat' (first | ((with_reducible apply rd_intro); (focus (intro K hK; (conv => whnf); first | exact hK | (intro z hz; rw [wrapI (by omega)] at hz; subst hz; exact hK))); (conv => whnf)) | ((with_reducible apply gd_and); (focus ((conv => whnf) <;> first | rfl | (intro K hK; (conv => whnf); first | exact hK | (intro z hz; rw [wrapI (by omega)] at hz; subst hz; exact hK)))); (conv => whnf)) | ((with_reducible apply z_wrap); (focus omega); (conv => whnf)) | ((with_reducible first | apply mt_dec | apply mt_eq | apply mt_ne | apply mt_not | apply mt_any) <;> (intro _; conv => whnf)))
            refine ⟨by show ((strs (B ++ prT (p.prs.take i))).length + 2) * 16 ≤ _; omega, ?_⟩
            conv => whnf
            repeat' (first | ((with_reducible apply rd_intro); (focus (intro K hK; (conv => whnf); first | exact hK | (intro z hz; rw [wrapI (by omega)] at hz; subst hz; exact hK))); (conv => whnf)) | ((with_reducible apply gd_and); (focus ((conv => whnf) <;> first | rfl | (intro K hK; (conv => whnf); first | exact hK | (intro z hz; rw [wrapI (by omega)] at hz; subst hz; exact hK)))); (conv => whnf)) | ((with_reducible apply z_wrap); (focus omega); (conv => whnf)) | ((with_reducible first | apply mt_dec | apply mt_eq | apply mt_ne | apply mt_not | apply mt_any) <;> (intro _; conv => whnf)))
            refine ⟨i + 1, rfl, ?_, by omega, by omega⟩
            rw [take_snoc hc, prT_snoc, ← List.append_assoc, ← strs_apps (B ++ prT (p.prs.take i))]
            rfl
          · rename_i e
            replace e : ¬ (i : Int) < p.prs.length := e
            rw [List.take_of_length_le (by omega)]
            have hput := put_ok (B ++ prT p.prs) (by rw [List.length_append, hBl, prT_len]; omega) (fun s hs => by
              rcases List.mem_append.1 hs with hs | hs
              · have := hBs s hs; omega
              · obtain ⟨a, ha, hs⟩ := List.mem_flatMap.1 hs
                obtain ⟨k, hk⟩ := List.mem_iff_getElem?.1 ha
                have hok := hpm.2.tab.1.2 k a hk
                have h1 := hok.k16
                have h2 := hok.v32
                simp only [List.mem_cons, List.not_mem_nil, or_false] at hs
                rcases hs with rfl | rfl <;> omega)
            have hT : p.texts = B ++ prT p.prs := by rw [← hB]; rfl
            rw [hT]
            rcases hpo : putO (B ++ prT p.prs) with _ | b
            · rw [putR_none hpo] at hput ⊢
              (refine Or.inl ?_; (conv => whnf))
              refine hput.mono ?_
              rintro _ _ ⟨rfl, rfl⟩
              conv => whnf
              exact ⟨rfl, rfl⟩
            · rw [putR_some hpo] at hput ⊢
              (refine Or.inl ?_; (conv => whnf))
              refine hput.mono ?_
              rintro _ _ ⟨rfl, rfl⟩
              conv => whnf
              exact ⟨rfl, rfl⟩
  · rw [decide_eq_false hpm]
    have hbr : bytesR p = .tup [.d (.sl 1 []), .d (.int .i64 1)] := if_neg hpm
    rw [hbr]
    conv => whnf
    exact ⟨rfl, rfl⟩
end Go.Proofs.Ytkaepgfmpljlmaa

namespace Go.Proofs.Ytkaepgfmpljlmaa
open Go.Ab Go.RowKit Go.MapKept
attribute [local irreducible] ACalls AW ADraw Into fltB fnear
set_option maxRecDepth 100000
/-! ## texts that are just numbers -/
def rd1 (s : ByteArray) : Option Int := match gnum s.data.toList with
  | some (n, k) => if k = s.size then some (n : Int) else none
  | none => none
theorem rd1_none {s : ByteArray} (h : gnum s.data.toList = none) : rd1 s = none := by unfold rd1; rw [h]
theorem rd1_some {s : ByteArray} {n k : Nat} (h : gnum s.data.toList = some (n, k)) : rd1 s = if k = s.size then some (n : Int) else none := by unfold rd1; rw [h]
def pcs (a b c d e f g : DV) : List AV := [.d a, .d b, .d c, .d d, .d e, .d f, .d g]
def ptrs3 : AB := .cells [.ptr 1 0, .ptr 1 2, .ptr 1 6]
/-- how far it has come -/
def rdInv (s0 s1 s2 : ByteArray) (a b c d e f g : DV) (k : Nat) (pc : List AV) : Prop :=
  (k = 0 ∧ pc = pcs a b c d e f g) ∨ (∃ n0, k = 1 ∧ rd1 s0 = some n0 ∧ pc = pcs (.int .i64 n0) b c d e f g) ∨
  (∃ n0 n1, k = 2 ∧ rd1 s0 = some n0 ∧ rd1 s1 = some n1 ∧ pc = pcs (.int .i64 n0) b (.int .i64 n1) d e f g) ∨
  (∃ n0 n1 n2, k = 3 ∧ rd1 s0 = some n0 ∧ rd1 s1 = some n1 ∧ rd1 s2 = some n2 ∧ pc = pcs (.int .i64 n0) b (.int .i64 n1) d e f (.int .i64 n2))
set_option maxHeartbeats 4000000 in
theorem read_ok (s0 s1 s2 : ByteArray) (r : List ByteArray) (hr : r.length ≤ 1000000) (hs : s0.size ≤ 1000000 ∧ s1.size ≤ 1000000 ∧ s2.size ≤ 1000000) (a b c d e f g : DV) : ACalls Try.prog 13 [.d (.sl 1 (strs (s0 :: s1 :: s2 :: r))), .arr 0] [ptrs3, .cells (pcs a b c d e f g)]
    (fun av L => (∃ n0 n1 n2, rd1 s0 = some n0 ∧ rd1 s1 = some n1 ∧ rd1 s2 = some n2 ∧ av = .d (.bool true) ∧ L = [ptrs3, .cells (pcs (.int .i64 n0) b (.int .i64 n1) d e f (.int .i64 n2))]) ∨
      ((rd1 s0 = none ∨ rd1 s1 = none ∨ rd1 s2 = none) ∧ av = .d (.bool false) ∧ ∃ a b c d e f g : DV, L = [ptrs3, .cells (pcs a b c d e f g)])) := by
  have hl : (strs (s0 :: s1 :: s2 :: r)).length = r.length + 3 := by rw [strs_length]; rfl
  refine acalls_go ttOk zOk foOk Try.func13 rfl Try.ntmps13 rfl false rfl ?_
  conv => whnf
  repeat' (first | ((with_reducible apply z_wrap); (focus omega); (conv => whnf)) | ((with_reducible first | apply mt_dec | apply mt_eq | apply mt_ne | apply mt_not | apply mt_any) <;> (intro _; conv => whnf)))
  refine loop_go ttOk zOk foOk (σ := Nat × List AV) (fun s => ([(0, .d (.sl 1 (strs (s0 :: s1 :: s2 :: r)))), (15, .arr 0), (16, .d (.int .i64 3)), (17, .d (.int .i64 s.1))], [ptrs3, .cells s.2])) (fun s => rdInv s0 s1 s2 a b c d e f g s.1 s.2) (fun s => 3 - s.1) [0, 15, 16, 17] ?_ ?_
  · conv => whnf
    exact ⟨(0, pcs a b c d e f g), rfl, rfl, .inl ⟨rfl, rfl⟩⟩
  · rintro ⟨k, pc⟩ (⟨h1, h2⟩ | ⟨n0, h1, e0, h2⟩ | ⟨n0, n1, h1, e0, e1, h2⟩ | ⟨n0, n1, n2, h1, e0, e1, e2, h2⟩)
    all_goals
      simp only at h1 h2
      subst h1 h2
    · conv => whnf
      repeat' (first | ((with_reducible apply z_wrap); (focus omega); (conv => whnf)) | ((with_reducible first | apply mt_dec | apply mt_eq | apply mt_ne | apply mt_not | apply mt_any) <;> (intro _; conv => whnf)))
      refine ⟨by simp, by simp, ?_⟩
      conv => whnf
      repeat' (first | ((with_reducible apply z_wrap); (focus omega); (conv => whnf)) | ((with_reducible first | apply mt_dec | apply mt_eq | apply mt_ne | apply mt_not | apply mt_any) <;> (intro _; conv => whnf)))
      refine ⟨by simp, [.str s0], rfl, ?_⟩
      conv => whnf
      repeat' (first | ((with_reducible apply z_wrap); (focus omega); (conv => whnf)) | ((with_reducible first | apply mt_dec | apply mt_eq | apply mt_ne | apply mt_not | apply mt_any) <;> (intro _; conv => whnf)))
      have hgn := getNum_ok s0.data.toList (by simp; omega)
      refine ⟨by unfold maxLen; omega, ?_⟩
      conv => whnf
      repeat' (first | ((with_reducible apply z_wrap); (focus omega); (conv => whnf)) | ((with_reducible first | apply mt_dec | apply mt_eq | apply mt_ne | apply mt_not | apply mt_any) <;> (intro _; conv => whnf)))
      refine ACalls.mono (post := fun av L => av = gnumR s0.data.toList ∧ L = []) hgn ?_
      rintro _ _ ⟨rfl, rfl⟩
      rcases hg : gnum s0.data.toList with _ | ⟨n, sz⟩
      · rw [gnumR_none hg]
        conv => whnf
        exact .inr ⟨.inl (rd1_none hg), rfl, _, _, _, _, _, _, _, rfl⟩
      · rw [gnumR_some hg]
        conv => whnf
        repeat' (first | ((with_reducible apply z_wrap); (focus omega); (conv => whnf)) | ((with_reducible first | apply mt_dec | apply mt_eq | apply mt_ne | apply mt_not | apply mt_any) <;> (intro _; conv => whnf)))
        refine ⟨by simp, [.str s0], rfl, ?_⟩
        conv => whnf
        repeat' (first | ((with_reducible apply z_wrap); (focus omega); (conv => whnf)) | ((with_reducible first | apply mt_dec | apply mt_eq | apply mt_ne | apply mt_not | apply mt_any) <;> (intro _; conv => whnf)))
        · rename_i h5
          replace h5 : (sz : Int) ≠ s0.size := h5
          exact .inr ⟨.inl ((by rw [rd1_some hg, if_neg (by omega)])), rfl, _, _, _, _, _, _, _, rfl⟩
        · rename_i h5
          replace h5 : (sz : Int) = s0.size := h5
          exact ⟨(1, _), rfl, rfl, .inr (.inl ⟨n, rfl, (by rw [rd1_some hg, if_pos (by omega)]), rfl⟩), by show 3 - 1 < 3 - 0; decide⟩
    · conv => whnf
      repeat' (first | ((with_reducible apply z_wrap); (focus omega); (conv => whnf)) | ((with_reducible first | apply mt_dec | apply mt_eq | apply mt_ne | apply mt_not | apply mt_any) <;> (intro _; conv => whnf)))
      refine ⟨by simp, by simp, ?_⟩
      conv => whnf
      repeat' (first | ((with_reducible apply z_wrap); (focus omega); (conv => whnf)) | ((with_reducible first | apply mt_dec | apply mt_eq | apply mt_ne | apply mt_not | apply mt_any) <;> (intro _; conv => whnf)))
      refine ⟨by simp, [.str s1], rfl, ?_⟩
      conv => whnf
      repeat' (first | ((with_reducible apply z_wrap); (focus omega); (conv => whnf)) | ((with_reducible first | apply mt_dec | apply mt_eq | apply mt_ne | apply mt_not | apply mt_any) <;> (intro _; conv => whnf)))
      have hgn := getNum_ok s1.data.toList (by simp; omega)
      refine ⟨by unfold maxLen; omega, ?_⟩
      conv => whnf
      repeat' (first | ((with_reducible apply z_wrap); (focus omega); (conv => whnf)) | ((with_reducible first | apply mt_dec | apply mt_eq | apply mt_ne | apply mt_not | apply mt_any) <;> (intro _; conv => whnf)))
      refine ACalls.mono (post := fun av L => av = gnumR s1.data.toList ∧ L = []) hgn ?_
      rintro _ _ ⟨rfl, rfl⟩
      rcases hg : gnum s1.data.toList with _ | ⟨n, sz⟩
      · rw [gnumR_none hg]
        conv => whnf
        exact .inr ⟨.inr (.inl (rd1_none hg)), rfl, _, _, _, _, _, _, _, rfl⟩
      · rw [gnumR_some hg]
        conv => whnf
        repeat' (first | ((with_reducible apply z_wrap); (focus omega); (conv => whnf)) | ((with_reducible first | apply mt_dec | apply mt_eq | apply mt_ne | apply mt_not | apply mt_any) <;> (intro _; conv => whnf)))
        refine ⟨by simp, [.str s1], rfl, ?_⟩
        conv => whnf
        repeat' (first | ((with_reducible apply z_wrap); (focus omega); (conv => whnf)) | ((with_reducible first | apply mt_dec | apply mt_eq | apply mt_ne | apply mt_not | apply mt_any) <;> (intro _; conv => whnf)))
        · rename_i h5
          replace h5 : (sz : Int) ≠ s1.size := h5
          exact .inr ⟨.inr (.inl ((by rw [rd1_some hg, if_neg (by omega)]))), rfl, _, _, _, _, _, _, _, rfl⟩
        · rename_i h5
          replace h5 : (sz : Int) = s1.size := h5
          exact ⟨(2, _), rfl, rfl, .inr (.inr (.inl ⟨n0, n, rfl, e0, (by rw [rd1_some hg, if_pos (by omega)]), rfl⟩)), by show 3 - 2 < 3 - 1; decide⟩
    · conv => whnf
      repeat' (first | ((with_reducible apply z_wrap); (focus omega); (conv => whnf)) | ((with_reducible first | apply mt_dec | apply mt_eq | apply mt_ne | apply mt_not | apply mt_any) <;> (intro _; conv => whnf)))
      refine ⟨by simp, by simp, ?_⟩
      conv => whnf
      repeat' (first | ((with_reducible apply z_wrap); (focus omega); (conv => whnf)) | ((with_reducible first | apply mt_dec | apply mt_eq | apply mt_ne | apply mt_not | apply mt_any) <;> (intro _; conv => whnf)))
      refine ⟨by simp, [.str s2], rfl, ?_⟩
      conv => whnf
      repeat' (first | ((with_reducible apply z_wrap); (focus omega); (conv => whnf)) | ((with_reducible first | apply mt_dec | apply mt_eq | apply mt_ne | apply mt_not | apply mt_any) <;> (intro _; conv => whnf)))
      have hgn := getNum_ok s2.data.toList (by simp; omega)
      refine ⟨by unfold maxLen; omega, ?_⟩
      conv => whnf
      repeat' (first | ((with_reducible apply z_wrap); (focus omega); (conv => whnf)) | ((with_reducible first | apply mt_dec | apply mt_eq | apply mt_ne | apply mt_not | apply mt_any) <;> (intro _; conv => whnf)))
      refine ACalls.mono (post := fun av L => av = gnumR s2.data.toList ∧ L = []) hgn ?_
      rintro _ _ ⟨rfl, rfl⟩
      rcases hg : gnum s2.data.toList with _ | ⟨n, sz⟩
      · rw [gnumR_none hg]
        conv => whnf
        exact .inr ⟨.inr (.inr (rd1_none hg)), rfl, _, _, _, _, _, _, _, rfl⟩
      · rw [gnumR_some hg]
        conv => whnf
        repeat' (first | ((with_reducible apply z_wrap); (focus omega); (conv => whnf)) | ((with_reducible first | apply mt_dec | apply mt_eq | apply mt_ne | apply mt_not | apply mt_any) <;> (intro _; conv => whnf)))
        refine ⟨by simp, [.str s2], rfl, ?_⟩
        conv => whnf
        repeat' (first | ((with_reducible apply z_wrap); (focus omega); (conv => whnf)) | ((with_reducible first | apply mt_dec | apply mt_eq | apply mt_ne | apply mt_not | apply mt_any) <;> (intro _; conv => whnf)))
        · rename_i h5
          replace h5 : (sz : Int) ≠ s2.size := h5
          exact .inr ⟨.inr (.inr ((by rw [rd1_some hg, if_neg (by omega)]))), rfl, _, _, _, _, _, _, _, rfl⟩
        · rename_i h5
          replace h5 : (sz : Int) = s2.size := h5
          exact ⟨(3, _), rfl, rfl, .inr (.inr (.inr ⟨n0, n1, n, rfl, e0, e1, (by rw [rd1_some hg, if_pos (by omega)]), rfl⟩)), by show 3 - 3 < 3 - 2; decide⟩
    · conv => whnf
      repeat' (first | ((with_reducible apply z_wrap); (focus omega); (conv => whnf)) | ((with_reducible first | apply mt_dec | apply mt_eq | apply mt_ne | apply mt_not | apply mt_any) <;> (intro _; conv => whnf)))
      exact .inl ⟨n0, n1, n2, e0, e1, e2, rfl, rfl⟩
end Go.Proofs.Ytkaepgfmpljlmaa

namespace Go.Proofs.Ytkaepgfmpljlmaa
open Go.Ab Go.RowKit Go.MapKept
attribute [local irreducible] ACalls AW ADraw Into fltB fnear
set_option maxRecDepth 100000
/-! ## texts that are numbers' lists -/
def rdl (s : ByteArray) : Option (List Int) := listF rint s.data.toList
def ptrsL : AB := .cells [.ptr 1 1, .ptr 1 5, .ptr 2 0]
def lN (l : List Int) : DV := .sl 1 (nums l)
theorem intLR_some {b : List UInt8} {l : List Int} (h : listF rint b = some l) : intLR b = .tup [.d (lN l), .d (.int .i64 0)] := by unfold intLR; rw [h]; rfl
theorem intLR_none {b : List UInt8} (h : listF rint b = none) : intLR b = .tup [.d (.sl 1 []), .d (.int .i64 1)] := by unfold intLR; rw [h]
def rlInv (s0 s1 s2 : ByteArray) (a b c d e f g q : DV) (k : Nat) (pc : List AV) (qc : DV) : Prop :=
  (k = 0 ∧ pc = pcs a b c d e f g ∧ qc = q) ∨ (∃ l0, k = 1 ∧ rdl s0 = some l0 ∧ pc = pcs a (lN l0) c d e f g ∧ qc = q) ∨
  (∃ l0 l1, k = 2 ∧ rdl s0 = some l0 ∧ rdl s1 = some l1 ∧ pc = pcs a (lN l0) c d e (lN l1) g ∧ qc = q) ∨
  (∃ l0 l1 l2, k = 3 ∧ rdl s0 = some l0 ∧ rdl s1 = some l1 ∧ rdl s2 = some l2 ∧ pc = pcs a (lN l0) c d e (lN l1) g ∧ qc = lN l2)
set_option maxHeartbeats 4000000 in
theorem lists_ok (s0 s1 s2 : ByteArray) (r : List ByteArray) (hr : r.length ≤ 1000000) (hs : s0.size ≤ 1000000 ∧ s1.size ≤ 1000000 ∧ s2.size ≤ 1000000) (a b c d e f g q : DV) : ACalls Try.prog 14 [.d (.sl 1 (strs (s0 :: s1 :: s2 :: r))), .arr 0] [ptrsL, .cells (pcs a b c d e f g), .cells [.d q]]
    (fun av L => (∃ l0 l1 l2, rdl s0 = some l0 ∧ rdl s1 = some l1 ∧ rdl s2 = some l2 ∧ av = .d (.bool true) ∧ L = [ptrsL, .cells (pcs a (lN l0) c d e (lN l1) g), .cells [.d (lN l2)]]) ∨
      ((rdl s0 = none ∨ rdl s1 = none ∨ rdl s2 = none) ∧ av = .d (.bool false) ∧ ∃ a b c d e f g q : DV, L = [ptrsL, .cells (pcs a b c d e f g), .cells [.d q]])) := by
  refine acalls_go ttOk zOk foOk Try.func14 rfl Try.ntmps14 rfl false rfl ?_
  conv => whnf
  repeat' (first | ((with_reducible apply z_wrap); (focus omega); (conv => whnf)) | ((with_reducible first | apply mt_dec | apply mt_eq | apply mt_ne | apply mt_not | apply mt_any) <;> (intro _; conv => whnf)))
  refine loop_go ttOk zOk foOk (σ := Nat × List AV × DV) (fun s => ([(0, .d (.sl 1 (strs (s0 :: s1 :: s2 :: r)))), (9, .arr 0), (10, .d (.int .i64 3)), (11, .d (.int .i64 s.1))], [ptrsL, .cells s.2.1, .cells [.d s.2.2]])) (fun s => rlInv s0 s1 s2 a b c d e f g q s.1 s.2.1 s.2.2) (fun s => 3 - s.1) [0, 9, 10, 11] ?_ ?_
  · conv => whnf
    exact ⟨(0, pcs a b c d e f g, q), rfl, rfl, .inl ⟨rfl, rfl, rfl⟩⟩
  · rintro ⟨k, pc, qc⟩ (⟨h1, h2, h3⟩ | ⟨l0, h1, e0, h2, h3⟩ | ⟨l0, l1, h1, e0, e1, h2, h3⟩ | ⟨l0, l1, l2, h1, e0, e1, e2, h2, h3⟩)
    all_goals
      simp only at h1 h2 h3
      subst h1 h2 h3
    · conv => whnf
      repeat' (first | ((with_reducible apply z_wrap); (focus omega); (conv => whnf)) | ((with_reducible first | apply mt_dec | apply mt_eq | apply mt_ne | apply mt_not | apply mt_any) <;> (intro _; conv => whnf)))
      refine ⟨by simp, by simp, ?_⟩
      conv => whnf
      repeat' (first | ((with_reducible apply z_wrap); (focus omega); (conv => whnf)) | ((with_reducible first | apply mt_dec | apply mt_eq | apply mt_ne | apply mt_not | apply mt_any) <;> (intro _; conv => whnf)))
      refine ⟨by simp, [.str s0], rfl, ?_⟩
      conv => whnf
      repeat' (first | ((with_reducible apply z_wrap); (focus omega); (conv => whnf)) | ((with_reducible first | apply mt_dec | apply mt_eq | apply mt_ne | apply mt_not | apply mt_any) <;> (intro _; conv => whnf)))
      have hgn := getNums_ok s0.data.toList (by simp; omega)
      refine ⟨by unfold maxLen; omega, ?_⟩
      conv => whnf
      repeat' (first | ((with_reducible apply z_wrap); (focus omega); (conv => whnf)) | ((with_reducible first | apply mt_dec | apply mt_eq | apply mt_ne | apply mt_not | apply mt_any) <;> (intro _; conv => whnf)))
      refine ACalls.mono (post := fun av L => av = intLR s0.data.toList ∧ L = []) hgn ?_
      rintro _ _ ⟨rfl, rfl⟩
      rcases hg : listF rint s0.data.toList with _ | n
      · rw [intLR_none hg]
        conv => whnf
        exact .inr ⟨.inl (hg), rfl, _, _, _, _, _, _, _, _, rfl⟩
      · rw [intLR_some hg]
        conv => whnf
        repeat' (first | ((with_reducible apply z_wrap); (focus omega); (conv => whnf)) | ((with_reducible first | apply mt_dec | apply mt_eq | apply mt_ne | apply mt_not | apply mt_any) <;> (intro _; conv => whnf)))
        exact ⟨(1, _, _), rfl, rfl, .inr (.inl ⟨n, rfl, hg, rfl, rfl⟩), by show 3 - 1 < 3 - 0; decide⟩
    · conv => whnf
      repeat' (first | ((with_reducible apply z_wrap); (focus omega); (conv => whnf)) | ((with_reducible first | apply mt_dec | apply mt_eq | apply mt_ne | apply mt_not | apply mt_any) <;> (intro _; conv => whnf)))
      refine ⟨by simp, by simp, ?_⟩
      conv => whnf
      repeat' (first | ((with_reducible apply z_wrap); (focus omega); (conv => whnf)) | ((with_reducible first | apply mt_dec | apply mt_eq | apply mt_ne | apply mt_not | apply mt_any) <;> (intro _; conv => whnf)))
      refine ⟨by simp, [.str s1], rfl, ?_⟩
      conv => whnf
      repeat' (first | ((with_reducible apply z_wrap); (focus omega); (conv => whnf)) | ((with_reducible first | apply mt_dec | apply mt_eq | apply mt_ne | apply mt_not | apply mt_any) <;> (intro _; conv => whnf)))
      have hgn := getNums_ok s1.data.toList (by simp; omega)
      refine ⟨by unfold maxLen; omega, ?_⟩
      conv => whnf
      repeat' (first | ((with_reducible apply z_wrap); (focus omega); (conv => whnf)) | ((with_reducible first | apply mt_dec | apply mt_eq | apply mt_ne | apply mt_not | apply mt_any) <;> (intro _; conv => whnf)))
      refine ACalls.mono (post := fun av L => av = intLR s1.data.toList ∧ L = []) hgn ?_
      rintro _ _ ⟨rfl, rfl⟩
      rcases hg : listF rint s1.data.toList with _ | n
      · rw [intLR_none hg]
        conv => whnf
        exact .inr ⟨.inr (.inl (hg)), rfl, _, _, _, _, _, _, _, _, rfl⟩
      · rw [intLR_some hg]
        conv => whnf
        repeat' (first | ((with_reducible apply z_wrap); (focus omega); (conv => whnf)) | ((with_reducible first | apply mt_dec | apply mt_eq | apply mt_ne | apply mt_not | apply mt_any) <;> (intro _; conv => whnf)))
        exact ⟨(2, _, _), rfl, rfl, .inr (.inr (.inl ⟨l0, n, rfl, e0, hg, rfl, rfl⟩)), by show 3 - 2 < 3 - 1; decide⟩
    · conv => whnf
      repeat' (first | ((with_reducible apply z_wrap); (focus omega); (conv => whnf)) | ((with_reducible first | apply mt_dec | apply mt_eq | apply mt_ne | apply mt_not | apply mt_any) <;> (intro _; conv => whnf)))
      refine ⟨by simp, by simp, ?_⟩
      conv => whnf
      repeat' (first | ((with_reducible apply z_wrap); (focus omega); (conv => whnf)) | ((with_reducible first | apply mt_dec | apply mt_eq | apply mt_ne | apply mt_not | apply mt_any) <;> (intro _; conv => whnf)))
      refine ⟨by simp, [.str s2], rfl, ?_⟩
      conv => whnf
      repeat' (first | ((with_reducible apply z_wrap); (focus omega); (conv => whnf)) | ((with_reducible first | apply mt_dec | apply mt_eq | apply mt_ne | apply mt_not | apply mt_any) <;> (intro _; conv => whnf)))
      have hgn := getNums_ok s2.data.toList (by simp; omega)
      refine ⟨by unfold maxLen; omega, ?_⟩
      conv => whnf
      repeat' (first | ((with_reducible apply z_wrap); (focus omega); (conv => whnf)) | ((with_reducible first | apply mt_dec | apply mt_eq | apply mt_ne | apply mt_not | apply mt_any) <;> (intro _; conv => whnf)))
      refine ACalls.mono (post := fun av L => av = intLR s2.data.toList ∧ L = []) hgn ?_
      rintro _ _ ⟨rfl, rfl⟩
      rcases hg : listF rint s2.data.toList with _ | n
      · rw [intLR_none hg]
        conv => whnf
        exact .inr ⟨.inr (.inr (hg)), rfl, _, _, _, _, _, _, _, _, rfl⟩
      · rw [intLR_some hg]
        conv => whnf
        repeat' (first | ((with_reducible apply z_wrap); (focus omega); (conv => whnf)) | ((with_reducible first | apply mt_dec | apply mt_eq | apply mt_ne | apply mt_not | apply mt_any) <;> (intro _; conv => whnf)))
        exact ⟨(3, _, _), rfl, rfl, .inr (.inr (.inr ⟨l0, l1, n, rfl, e0, e1, hg, rfl, rfl⟩)), by show 3 - 3 < 3 - 2; decide⟩
    · conv => whnf
      repeat' (first | ((with_reducible apply z_wrap); (focus omega); (conv => whnf)) | ((with_reducible first | apply mt_dec | apply mt_eq | apply mt_ne | apply mt_not | apply mt_any) <;> (intro _; conv => whnf)))
      exact .inl ⟨l0, l1, l2, e0, e1, e2, rfl, rfl⟩
end Go.Proofs.Ytkaepgfmpljlmaa

namespace Go.Ab
noncomputable section
open Go.RowKit
/-! ## a call some of whose arguments own rows within: these go over as data -/
def deepK (x : AV) (L : List AB) (K : AV → List AB → Prop) : Prop :=
  match x with
  | .agg xs => argsK xs L fun ys L' => K (.agg ys) L'
  | x => argK x L K
noncomputable def deepsK (xs : List AV) : List AB → (List AV → List AB → Prop) → Prop :=
  List.rec (motive := fun _ => List AB → (List AV → List AB → Prop) → Prop) (fun L K => K [] L) (fun x _ ih L K => deepK x L fun y L1 => ih L1 fun l L2 => K (y :: l) L2) xs
theorem argsS_ok {c : Ctx} (hc : c.wf) {E : Nat → Option Nat} {w : World} : ∀ {xs : List AV} {L : List AB} {K : List AV → List AB → Prop} {us : List Value}, SimH c E L w → argsK xs L K → VRs (rcOf c.M0 E L w) xs us →
    ∃ ys L', K ys L' ∧ SimH c E L' w ∧ (rcOf c.M0 E L w).le (rcOf c.M0 E L' w) ∧ VRs (rcOf c.M0 E L' w) ys us
  | [], L, K, us, hs, h, hv => ⟨[], L, h, hs, .refl _, by simpa [VRs] using hv⟩
  | x :: xs, L, K, us, hs, h, hv => by
    simp only [VRs] at hv
    obtain ⟨u, us', rfl, h0, h1, h2⟩ := hv
    obtain ⟨y, L1, k1, k2, k3, k4⟩ := argK_ok hc hs (show argK x L fun y L1 => argsK xs L1 fun l L2 => K (y :: l) L2 from h) h1
    obtain ⟨ys, L2, m1, m2, m3, m4⟩ := argsS_ok hc (xs := xs) k2 k1 (VRs.mono k3 _ _ h2)
    exact ⟨y :: ys, L2, m1, m2, k3.trans m3, by simp only [VRs]; exact ⟨u, us', rfl, h0, VR.mono m3 _ _ k4, m4⟩⟩
theorem deepK_ok {c : Ctx} (hc : c.wf) {E : Nat → Option Nat} {L : List AB} {w : World} (hs : SimH c E L w) {x : AV} {K : AV → List AB → Prop} (h : deepK x L K) {v : Value} (hv : VR (rcOf c.M0 E L w) x v) :
    ∃ y L', K y L' ∧ SimH c E L' w ∧ (rcOf c.M0 E L w).le (rcOf c.M0 E L' w) ∧ VR (rcOf c.M0 E L' w) y v := by
  unfold deepK at h
  split at h
  · rename_i xs
    simp only [VR] at hv
    obtain ⟨us, rfl, hv⟩ := hv
    obtain ⟨ys, L', h1, h2, h3, h4⟩ := argsS_ok hc hs h hv
    exact ⟨_, L', h1, h2, h3, by simp only [VR]; exact ⟨us, rfl, h4⟩⟩
  · exact argK_ok hc hs h hv
theorem deepsK_ok {c : Ctx} (hc : c.wf) {E : Nat → Option Nat} {w : World} : ∀ {xs : List AV} {L : List AB} {K : List AV → List AB → Prop} {us : List Value}, SimH c E L w → deepsK xs L K → VRt (rcOf c.M0 E L w) xs us →
    ∃ ys L', K ys L' ∧ SimH c E L' w ∧ (rcOf c.M0 E L w).le (rcOf c.M0 E L' w) ∧ VRt (rcOf c.M0 E L' w) ys us
  | [], L, K, us, hs, h, hv => ⟨[], L, h, hs, .refl _, by simpa [VRt] using hv⟩
  | x :: xs, L, K, us, hs, h, hv => by
    simp only [VRt] at hv
    obtain ⟨u, us', rfl, h1, h2⟩ := hv
    obtain ⟨y, L1, k1, k2, k3, k4⟩ := deepK_ok hc hs (show deepK x L fun y L1 => deepsK xs L1 fun l L2 => K (y :: l) L2 from h) h1
    obtain ⟨ys, L2, m1, m2, m3, m4⟩ := deepsK_ok hc (xs := xs) k2 k1 (VRt.mono k3 _ _ h2)
    exact ⟨y :: ys, L2, m1, m2, k3.trans m3, by simp only [VRt]; exact ⟨u, us', rfl, VR.mono m3 _ _ k4, m4⟩⟩
theorem acalls_deep {P : Program} {f : FuncId} {avs : List AV} {L : List AB} {post : AV → List AB → Prop} (h : deepsK avs L fun avs1 L1 => callRawK P f avs1 L1 post) : ACalls P f avs L post := by
  intro c vs hc hL hs hv
  subst hL
  obtain ⟨avs1, L1, h1, h2, h3, h4⟩ := deepsK_ok hc hs h hv
  refine (callRawK_ok hc h2 h1 h4).mono ?_
  rintro e w' ⟨v, av, E', L', k1, k2, k3, k4, k5⟩
  exact ⟨v, av, L', E', k1, k2, k3, k5⟩
/-- what a call hands back, all of it as data -/
def dataK (x : AV) (L : List AB) (K : AV → List AB → Prop) : Prop :=
  match x with
  | .tup xs => deepsK xs L fun ys L' => K (.tup ys) L'
  | x => deepK x L K
theorem dataK_ok {c : Ctx} (hc : c.wf) {E : Nat → Option Nat} {L : List AB} {w : World} (hs : SimH c E L w) {x : AV} {K : AV → List AB → Prop} (h : dataK x L K) {v : Value} (hv : VR (rcOf c.M0 E L w) x v) :
    ∃ y L', K y L' ∧ SimH c E L' w ∧ (rcOf c.M0 E L w).le (rcOf c.M0 E L' w) ∧ VR (rcOf c.M0 E L' w) y v := by
  unfold dataK at h
  split at h
  · rename_i xs
    simp only [VR] at hv
    obtain ⟨us, rfl, hv⟩ := hv
    obtain ⟨ys, L', h1, h2, h3, h4⟩ := deepsK_ok hc hs h hv
    exact ⟨_, L', h1, h2, h3, by simp only [VR]; exact ⟨us, rfl, h4⟩⟩
  · exact deepK_ok hc hs h hv
theorem acalls_data {P : Program} {f : FuncId} {avs : List AV} {Lin : List AB} {post post' : AV → List AB → Prop} (h : ACalls P f avs Lin post) (hp : ∀ av L, post av L → dataK av L fun av' L' => finK Lin.length av' L' post') : ACalls P f avs Lin post' := by
  intro c vs hc hL hs hv
  refine (h c vs hc hL hs hv).mono ?_
  rintro e w' ⟨v, av, L', E', rfl, k2, k3, k4⟩
  obtain ⟨y, L2, h1, h2, h3, h4⟩ := dataK_ok hc k3 (hp _ _ k2) k4
  obtain ⟨E3, av3, L3, m1, m2, m3⟩ := finK_ok h1 (by rw [hL]) h2 h4
  exact ⟨v, av3, L3, E3, rfl, m1, m2, m3⟩
end
end Go.Ab
