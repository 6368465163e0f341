/- ImageGoes: contracts. -/
import Derived.Test.YtmmngmnmghpfaaaGreatImageGoesCodE
set_option linter.unusedVariables false
set_option linter.unusedSimpArgs false
namespace Go.Proofs.YtmmngmnmghpfaaaGreat
open Go.Ab Go.RowKit Go.MapKept
attribute [local irreducible] ACalls AW ADraw Into fltB fnear
set_option maxRecDepth 100000
def Cert.light (c : Cert) : Prop := c.bats.length ≤ 3000 ∧ c.pars.length ≤ 3000 ∧ c.sigs.length ≤ 3000
theorem certsW3_ok (l : List Cert) (hl : few l) (h : ∀ c ∈ l, c.ok) : ACalls Tryz.prog 17 [.d (.sl 6 (certsD l))] [] (fun av L => (∃ n : Int, av = .d (.int .i64 n) ∧ (n ≤ 3000 → ∀ c ∈ l, c.light)) ∧ L = []) := by
  have hcl := certsD_length l
  unfold few at hl
  (refine acalls_go ttOk zOk foOk Tryz.func17 rfl Tryz.ntmps17 rfl false rfl ?_); (conv => whnf)
  refine loop_go2 ttOk zOk foOk (σ := Int) (ρ := Nat) (fun w j => ([(0, .d (.sl 6 (certsD l))), (3, .d (.int .i64 w)), (4, .d (.int .i64 j))], [])) (fun w j => j ≤ l.length ∧ (0 ≤ w ∧ w ≤ 1000000000000000) ∧ (w ≤ 3000 → ∀ c ∈ l.take j, c.light)) (fun _ j => l.length - j) [0, 3, 4] ?_ ?_
  · conv => whnf
    exact ⟨l.length, 0, by rw [hcl]; rfl, rfl, by omega, ⟨by omega, by omega⟩, by simp⟩
  · rintro w j ⟨hj, ⟨hw0, hw1⟩, hall⟩
    conv => whnf
    rw [hcl]
    refine rdz ?_; repeat' ((with_reducible apply tw) <;> intro _)
    · rename_i hjl hwl
      refine Exists.elim (⟨_, List.getElem?_eq_getElem (by omega)⟩ : ∃ c, l[j]? = some c) fun c hc => ?_
      have hk := h c (List.mem_of_getElem? hc)
      have h1 := hk.bats.1
      have h2 := hk.pars.1
      have h3 := hk.sigs.1
      unfold few at h1 h2 h3
      refine ⟨by omega, c.cs, certsD_at hc, ?_⟩
      conv => whnf
      refine (certW_ok c hk).mono ?_
      rintro _ _ ⟨rfl, rfl⟩
      conv => whnf
      refine rdz ?_; repeat' ((with_reducible apply tw) <;> intro _)
      refine ⟨_, j + 1, rfl, rfl, ⟨by omega, ⟨by omega, by omega⟩, fun hw y hy => ?_⟩, by omega⟩
      rw [take_snoc' hc] at hy
      rcases List.mem_append.1 hy with hy | hy
      · exact hall (by omega) y hy
      · simp at hy; rw [hy]; exact ⟨by omega, by omega, by omega⟩
    · exact ⟨⟨_, rfl, fun hw => by omega⟩, rfl⟩
    · rw [List.take_of_length_le (by omega)] at hall
      exact ⟨⟨_, rfl, hall⟩, rfl⟩
theorem heavyD3_ok (d : Dag) (h : d.ok) : ACalls Tryz.prog 4 [d.av] [] (fun av L => (∃ b, av = .d (.bool b) ∧ (b = false → d.certs.length ≤ 80 ∧ ∀ c ∈ d.certs, c.light)) ∧ L = []) := by
  have hcl := certsD_length d.certs
  (refine acalls_go ttOk zOk foOk Tryz.func4 rfl Tryz.ntmps4 rfl false rfl ?_); (conv => whnf)
  rw [hcl]
  refine rdz ?_; repeat' ((with_reducible apply tw) <;> intro _)
  · exact ⟨⟨_, rfl, by intro h; cases h⟩, rfl⟩
  · rename_i h80
    refine (certsW3_ok d.certs h.certs.1 h.certs.2).mono ?_
    rintro _ _ ⟨⟨n, rfl, hn⟩, rfl⟩
    conv => whnf
    exact ⟨⟨_, rfl, fun h3 => ⟨by omega, hn (by have := of_decide_eq_false h3; omega)⟩⟩, rfl⟩
noncomputable def isM (c : Cursor) : Bool := @decide (curMay c) (Classical.propDecidable _)
theorem isM_yes {c : Cursor} (h : curMay c) : isM c = true := by unfold isM; exact @decide_eq_true _ (Classical.propDecidable _) h
theorem isM_no {c : Cursor} (h : ¬ curMay c) : isM c = false := by unfold isM; exact @decide_eq_false _ (Classical.propDecidable _) h
theorem isM_of {c : Cursor} {b : Bool} (h : b = true ↔ curMay c) : b = isM c := by
  cases b with
  | true => rw [isM_yes (h.1 rfl)]
  | false => rw [isM_no (fun h2 => by cases h.2 h2)]
theorem curMay_full (c : Cursor) (hf : few c.done) : ACalls Tryz.prog 50 [c.av] [] (fun av L => av = .d (.bool (isM c)) ∧ L = []) := by
  have hdg := digests_ok c.done hf
  (refine acalls_go ttOk zOk foOk Tryz.func50 rfl Tryz.ntmps50 rfl false rfl ?_); (conv => whnf)
  refine rdz ?_; repeat' ((with_reducible apply tw) <;> intro _)
  · rename_i h1 h2
    refine ⟨by decide, ?_⟩
    intro z hz
    have hz2 : z = c.round % 2 := tmod_pos (by omega) hz
    clear hz
    subst hz2
    conv => whnf
    refine rdz ?_; repeat' ((with_reducible apply tw) <;> intro _)
    · rename_i h3
      refine hdg.mono ?_
      rintro _ _ ⟨rfl, rfl⟩
      by_cases h4 : riseB c.done 1 65536
      · rw [@decide_eq_true _ (Classical.propDecidable _) h4]
        conv => whnf
        refine rdz ?_; repeat' ((with_reducible apply tw) <;> intro _)
        · rename_i h5
          refine ⟨congrArg (fun b => AV.d (.bool b)) (isM_of ?_), rfl⟩
          rw [decide_eq_true_iff]
          exact ⟨fun h6 => ⟨⟨by omega, by omega, h3⟩, h4, h5, h6⟩, fun h => h.count.2⟩
        · rename_i h5
          exact ⟨by rw [isM_no fun h => h5 h.count.1]; rfl, rfl⟩
      · rw [@decide_eq_false _ (Classical.propDecidable _) h4]
        conv => whnf
        exact ⟨by rw [isM_no fun h => h4 h.done]; rfl, rfl⟩
    · rename_i h3
      exact ⟨by rw [isM_no fun h => h3 h.round.2.2]; rfl, rfl⟩
  · rename_i h1 h2
    exact ⟨by rw [isM_no fun h => h2 h.round.2.1]; rfl, rfl⟩
  · rename_i h1
    exact ⟨by rw [isM_no fun h => h1 h.round.1]; rfl, rfl⟩
structure PairS where
  key : ByteArray
  val : ByteArray
def PairS.cs (p : PairS) : List DV := [.str p.key, .str p.val]
def pairsD (l : List PairS) : List (List DV) := l.map PairS.cs
structure AccS where
  sender : Int
  seq : Int
def AccS.cs (a : AccS) : List DV := [.int .i64 a.sender, .int .i64 a.seq]
def accsD (l : List AccS) : List (List DV) := l.map AccS.cs
theorem pairsD_length (l : List PairS) : (pairsD l).length = l.length := List.length_map ..
theorem pairsD_at {l : List PairS} {k : Nat} {a : PairS} (h : l[k]? = some a) : (pairsD l)[k]? = some a.cs := by simp [pairsD, h]
theorem accsD_length (l : List AccS) : (accsD l).length = l.length := List.length_map ..
theorem accsD_at {l : List AccS} {k : Nat} {a : AccS} (h : l[k]? = some a) : (accsD l)[k]? = some a.cs := by simp [accsD, h]
theorem emptyB (a : ByteArray) : (a.toList == (ByteArray.mk #[]).toList) = decide (a.size = 0) := by
  rw [ByteArray.toList_eq, ByteArray.toList_eq, Bool.eq_iff_iff, beq_iff_eq, decide_eq_true_iff]
  constructor
  · intro h
    have := congrArg List.length h
    simpa using this
  · intro h
    exact List.eq_nil_of_length_eq_zero (by simpa using h)
theorem nz {a : ByteArray} (h : (a.toList == (ByteArray.mk #[]).toList) = false) : ¬ a.size = 0 := fun h0 => by rw [emptyB, decide_eq_true h0] at h; cases h
structure pairOk (l : List PairS) (i : Nat) (p : PairS) : Prop where
  k0 : ¬ p.key.size = 0
  k16 : ¬ p.key.size > 16
  v0 : ¬ p.val.size = 0
  v32 : ¬ p.val.size > 32
  less : ∀ q, 0 < i → l[i - 1]? = some q → Op.bytesLess q.key.toList p.key.toList = true
def pairsMay (l : List PairS) : Prop := l.length ≤ 4096 ∧ ∀ i p, l[i]? = some p → pairOk l i p
structure accOk (l : List AccS) (i : Nat) (a : AccS) : Prop where
  s : 1 ≤ a.sender ∧ a.sender ≤ 1099511627776
  q : 1 ≤ a.seq ∧ a.seq ≤ 1099511627776
  less : ∀ b, 0 < i → l[i - 1]? = some b → b.sender < a.sender
def accsMay (l : List AccS) : Prop := l.length ≤ 4096 ∧ ∀ i p, l[i]? = some p → accOk l i p
theorem tnum_ok (n : Int) : ACalls Tryz.prog 105 [.d (.int .i64 n)] [] (fun av L => av = .d (.bool (decide (1 ≤ n ∧ n ≤ 1099511627776))) ∧ L = []) := by
  (refine acalls_go ttOk zOk foOk Tryz.func105 rfl Tryz.ntmps105 rfl false rfl ?_); (conv => whnf)
  refine rdw ?_; repeat' ((with_reducible apply tw) <;> intro _)
  · rename_i h1
    exact ⟨boolEq (by simp; omega), rfl⟩
  · rename_i h1
    exact ⟨by rw [decide_eq_false (by omega)]; rfl, rfl⟩
open Classical in
set_option maxHeartbeats 1000000 in
theorem pairs_ok (l : List PairS) (hl : l.length ≤ 1000000) : ACalls Tryz.prog 106 [.d (.sl 2 (pairsD l))] [] (fun av L => av = .d (.bool (decide (pairsMay l))) ∧ L = []) := by
  have hll := pairsD_length l
  (refine acalls_go ttOk zOk foOk Tryz.func106 rfl Tryz.ntmps106 rfl false rfl ?_); (conv => whnf)
  refine loop_go ttOk zOk foOk (σ := Nat) (fun j => ([(0, .d (.sl 2 (pairsD l))), (5, .d (.sl 2 (pairsD l))), (6, .d (.int .i64 l.length)), (7, .d (.int .i64 j))], [])) (fun j => j ≤ l.length ∧ ∀ i p, i < j → l[i]? = some p → pairOk l i p) (fun j => l.length - j) [0, 5, 6, 7] ?_ ?_
  · conv => whnf
    exact ⟨0, by rw [hll]; rfl, rfl, Nat.zero_le _, fun i p h => absurd h (by omega)⟩
  · rintro j ⟨hj, hr⟩
    conv => whnf
    refine rdw ?_; repeat' ((with_reducible apply tw) <;> intro _)
    · rename_i h
      replace h : (j : Int) < l.length := h
      refine Exists.elim (⟨_, List.getElem?_eq_getElem (by omega)⟩ : ∃ c, l[j]? = some c) fun c hc => ?_
      have no : ¬ pairOk l j c → AV.d (.bool false) = AV.d (.bool (decide (pairsMay l))) ∧ ([] : List AB) = [] := fun h1 => ⟨by rw [decide_eq_false fun h2 => h1 (h2.2 j c hc)], rfl⟩
      have hsucc : pairOk l j c → ∀ i p, i < j + 1 → l[i]? = some p → pairOk l i p := fun h1 i p h2 h3 => by
        rcases Nat.lt_or_ge i j with h4 | h4
        · exact hr i p h4 h3
        · obtain rfl : i = j := by omega
          rw [hc] at h3; cases h3; exact h1
      refine ⟨by omega, c.cs, pairsD_at hc, ?_⟩
      conv => whnf
      refine rdw ?_; repeat' ((with_reducible apply tw) <;> intro _)
      ((with_reducible refine draw_pl ttOk zOk foOk mixedOk pl106x4 ?_ ?_); (focus kernel_rfl); (conv => whnf))
      refine rdw ?_; repeat' ((with_reducible apply tw) <;> intro _)
      · rename_i e1
        exact no fun h => h.k0 (of_decide_eq_true (by rw [← emptyB]; exact e1))
      · rename_i e1 e2
        exact no fun h => h.k16 (by have : (c.key.size : Int) > 16 := e2; omega)
      · rename_i e1 e2 e3
        exact no fun h => h.v0 (of_decide_eq_true (by rw [← emptyB]; exact e3))
      · rename_i e1 e2 e3 e4
        exact no fun h => h.v32 (by have : (c.val.size : Int) > 32 := e4; omega)
      · rename_i e1 e2 e3 e4 e5
        replace e5 : (j : Int) > 0 := e5
        refine Exists.elim (⟨_, List.getElem?_eq_getElem (by omega)⟩ : ∃ b, l[j - 1]? = some b) fun b hb => ?_
        have hok : Op.bytesLess b.key.toList c.key.toList = true → pairOk l j c := fun h => ⟨nz e1, fun h0 => e2 (by show (c.key.size : Int) > 16; omega), nz e3, fun h0 => e4 (by show (c.val.size : Int) > 32; omega), fun q _ hq => (by rw [hb] at hq; cases hq; exact h)⟩
        ((with_reducible apply rd_intro); (focus (intro K hK; (conv => whnf); exact ⟨by omega, b.cs, (by rw [show ((j : Int) - 1).toNat = j - 1 by omega]; exact pairsD_at hb), hK⟩)); (conv => whnf))
        repeat' (first | (first | ((with_reducible first | apply rd_intro | apply gd_and); (focus ((conv => whnf) <;> first | rfl | (intro K hK; (conv => whnf); first | exact hK | exact z_wrap (by omega) hK))); conv => whnf) | ((with_reducible apply z_wrap); (focus omega); conv => whnf) | ((with_reducible first | apply mt_dec | apply mt_eq | apply mt_ne | apply mt_not | apply mt_any) <;> (intro _; conv => whnf))) | ((with_reducible apply gd_and); (focus ((conv => whnf); intro K hK; (conv => whnf); exact ⟨by omega, b.cs, (by rw [show ((j : Int) - 1).toNat = j - 1 by omega]; exact pairsD_at hb), hK⟩)); (conv => whnf)))
        · rename_i e6
          exact no fun h => by have h6 := h.less b (by omega) hb; rw [h6] at e6; cases e6
        · rename_i e6
          exact ⟨j + 1, rfl, rfl, ⟨by omega, hsucc (hok e6)⟩, by omega⟩
      · rename_i e1 e2 e3 e4 e5
        replace e5 : ¬ (j : Int) > 0 := e5
        exact ⟨j + 1, rfl, rfl, ⟨by omega, hsucc ⟨nz e1, fun h0 => e2 (by show (c.key.size : Int) > 16; omega), nz e3, fun h0 => e4 (by show (c.val.size : Int) > 32; omega), fun q h0 => absurd h0 (by omega)⟩⟩, by omega⟩
    · rename_i h
      replace h : ¬ (j : Int) < l.length := h
      obtain rfl : j = l.length := by omega
      have hall : ∀ i p, l[i]? = some p → pairOk l i p := fun i p hp => hr i p (List.getElem?_eq_some_iff.1 hp).1 hp
      refine ⟨?_, rfl⟩
      by_cases h4 : l.length ≤ 4096
      · rw [decide_eq_true (show pairsMay l from ⟨h4, hall⟩)]
        exact congrArg (fun b => AV.d (.bool b)) (decide_eq_true (show (((pairsD l).length : Nat) : Int) ≤ 4096 by omega))
      · rw [decide_eq_false (fun h5 : pairsMay l => h4 h5.1)]
        exact congrArg (fun b => AV.d (.bool b)) (decide_eq_false (show ¬ (((pairsD l).length : Nat) : Int) ≤ 4096 by omega))
def tabMay (prs : List PairS) (accs : List AccS) : Prop := pairsMay prs ∧ accsMay accs
def tabAV (prs : List PairS) (accs : List AccS) : AV := .agg [.d (.sl 2 (pairsD prs)), .d (.sl 2 (accsD accs))]
open Classical in
set_option maxHeartbeats 1000000 in
theorem tab_ok (prs : List PairS) (accs : List AccS) (hp : prs.length ≤ 1000000) (ha : accs.length ≤ 1000000) : ACalls Tryz.prog 81 [tabAV prs accs] [] (fun av L => av = .d (.bool (decide (tabMay prs accs))) ∧ L = []) := by
  have hal := accsD_length accs
  have hpr := pairs_ok prs hp
  (refine acalls_go ttOk zOk foOk Tryz.func81 rfl Tryz.ntmps81 rfl false rfl ?_); (conv => whnf)
  conv => whnf
  refine loop_go ttOk zOk foOk (σ := Nat) (fun j => ([(1, .ptr 0 0), (6, .d (.sl 2 (accsD accs))), (7, .d (.int .i64 accs.length)), (8, .d (.int .i64 j))], [.cells [.d (.sl 2 (pairsD prs)), .d (.sl 2 (accsD accs))]])) (fun j => j ≤ accs.length ∧ ∀ i p, i < j → accs[i]? = some p → accOk accs i p) (fun j => accs.length - j) [1, 6, 7, 8] ?_ ?_
  · conv => whnf
    exact ⟨0, by rw [hal]; rfl, rfl, Nat.zero_le _, fun i p h => absurd h (by omega)⟩
  · rintro j ⟨hj, hr⟩
    conv => whnf
    refine rdw ?_; repeat' ((with_reducible apply tw) <;> intro _)
    · rename_i h
      replace h : (j : Int) < accs.length := h
      refine Exists.elim (⟨_, List.getElem?_eq_getElem (by omega)⟩ : ∃ c, accs[j]? = some c) fun c hc => ?_
      have no : ¬ accOk accs j c → AV.d (.bool false) = AV.d (.bool (decide (tabMay prs accs))) ∧ ([] : List AB) = [] := fun h1 => ⟨by rw [decide_eq_false fun h2 => h1 (h2.2.2 j c hc)], rfl⟩
      have hsucc : accOk accs j c → ∀ i p, i < j + 1 → accs[i]? = some p → accOk accs i p := fun h1 i p h2 h3 => by
        rcases Nat.lt_or_ge i j with h4 | h4
        · exact hr i p h4 h3
        · obtain rfl : i = j := by omega
          rw [hc] at h3; cases h3; exact h1
      have hn1 := tnum_ok c.sender
      have hn2 := tnum_ok c.seq
      refine ⟨by omega, c.cs, accsD_at hc, ?_⟩
      conv => whnf
      refine rdw ?_; repeat' ((with_reducible apply tw) <;> intro _)
      ((with_reducible refine draw_pl ttOk zOk foOk mixedOk pl81x4 ?_ ?_); (focus kernel_rfl); (conv => whnf))
      refine rdw ?_; repeat' ((with_reducible apply tw) <;> intro _)
      refine hn1.mono ?_
      rintro _ _ ⟨rfl, rfl⟩
      conv => whnf
      refine rdw ?_; repeat' ((with_reducible apply tw) <;> intro _)
      · rename_i e1
        exact no fun h => by rw [decide_eq_true h.s] at e1; cases e1
      · rename_i e1
        replace e1 := of_decide_eq_true e1
        refine hn2.mono ?_
        rintro _ _ ⟨rfl, rfl⟩
        conv => whnf
        refine rdw ?_; repeat' ((with_reducible apply tw) <;> intro _)
        · rename_i e2
          exact no fun h => by rw [decide_eq_true h.q] at e2; cases e2
        · rename_i e2 e5
          replace e2 := of_decide_eq_true e2
          replace e5 : (j : Int) > 0 := e5
          refine Exists.elim (⟨_, List.getElem?_eq_getElem (by omega)⟩ : ∃ b, accs[j - 1]? = some b) fun b hb => ?_
          ((with_reducible apply rd_intro); (focus (intro K hK; (conv => whnf); exact ⟨by omega, b.cs, (by rw [show ((j : Int) - 1).toNat = j - 1 by omega]; exact accsD_at hb), hK⟩)); (conv => whnf))
          repeat' (first | (first | ((with_reducible first | apply rd_intro | apply gd_and); (focus ((conv => whnf) <;> first | rfl | (intro K hK; (conv => whnf); first | exact hK | exact z_wrap (by omega) hK))); conv => whnf) | ((with_reducible apply z_wrap); (focus omega); conv => whnf) | ((with_reducible first | apply mt_dec | apply mt_eq | apply mt_ne | apply mt_not | apply mt_any) <;> (intro _; conv => whnf))) | ((with_reducible apply gd_and); (focus ((conv => whnf); intro K hK; (conv => whnf); exact ⟨by omega, b.cs, (by rw [show ((j : Int) - 1).toNat = j - 1 by omega]; exact accsD_at hb), hK⟩)); (conv => whnf)))
          · rename_i e6
            replace e6 : b.sender ≥ c.sender := e6
            exact no fun h => by have h6 := h.less b (by omega) hb; omega
          · rename_i e6
            replace e6 : ¬ b.sender ≥ c.sender := e6
            exact ⟨j + 1, rfl, rfl, ⟨by omega, hsucc ⟨e1, e2, fun q _ hq => (by rw [hb] at hq; cases hq; omega)⟩⟩, by omega⟩
        · rename_i e2 e5
          replace e2 := of_decide_eq_true e2
          replace e5 : ¬ (j : Int) > 0 := e5
          exact ⟨j + 1, rfl, rfl, ⟨by omega, hsucc ⟨e1, e2, fun q h0 => absurd h0 (by omega)⟩⟩, by omega⟩
    all_goals
      rename_i h h5
      replace h : ¬ (j : Int) < accs.length := h
      obtain rfl : j = accs.length := by omega
      have hall : ∀ i p, accs[i]? = some p → accOk accs i p := fun i p hp => hr i p (List.getElem?_eq_some_iff.1 hp).1 hp
    · replace h5 : (((accsD accs).length : Nat) : Int) ≤ 4096 := h5
      refine hpr.mono ?_
      rintro _ _ ⟨rfl, rfl⟩
      conv => whnf
      refine ⟨congrArg (fun b => AV.d (.bool b)) ?_, rfl⟩
      rw [decide_eq_decide]
      exact ⟨fun h6 => ⟨h6, by omega, hall⟩, fun h6 => h6.1⟩
    · replace h5 : ¬ (((accsD accs).length : Nat) : Int) ≤ 4096 := h5
      exact ⟨by rw [decide_eq_false (fun h6 : tabMay prs accs => h5 (by have := h6.2.1; omega))]; rfl, rfl⟩
structure execMay (prs : List PairS) (accs : List AccS) (seen : List Int) (count : Int) : Prop where
  tab : tabMay prs accs
  dig : ∀ x ∈ seen, 1 ≤ x ∧ x ≤ 65536
  nd : seen.Nodup
  cnt : 0 ≤ count ∧ count ≤ seen.length
def execCs (prs : List PairS) (accs : List AccS) (seen : List Int) (count : Int) : List AV := [.d (.sl 2 (pairsD prs)), .d (.sl 2 (accsD accs)), .d (.sl 1 (nums seen)), .d (.int .i64 count)]
def entI (x : Int) : KV × MV := (.one (.int .i64 x), .v (.one (.bool true)))
theorem mfI_none {x : Int} : ∀ {l : List Int} {j : Nat}, x ∉ l → mfind (.one (.int .i64 x)) (l.map entI) j = some none
  | [], j, _ => rfl
  | y :: r, j, h => by
    have hy : (x == y) = false := by rw [beq_eq_false_iff_ne]; rintro rfl; exact h (by simp)
    show (match keqM (.one (.int .i64 x)) (.one (.int .i64 y)) with | some true => _ | some false => _ | none => _) = _
    have : keqM (.one (.int .i64 x)) (.one (.int .i64 y)) = some (x == y) := rfl
    rw [this, hy]
    exact mfI_none fun h2 => h (by simp [h2])
theorem mfI_some {x : Int} : ∀ {l : List Int} {j : Nat}, x ∈ l → ∃ i, mfind (.one (.int .i64 x)) (l.map entI) j = some (some (i, .v (.one (.bool true))))
  | [], j, h => by simp at h
  | y :: r, j, h => by
    have e : keqM (.one (.int .i64 x)) (.one (.int .i64 y)) = some (x == y) := rfl
    by_cases hy : x = y
    · refine ⟨j, ?_⟩
      show (match keqM (.one (.int .i64 x)) (.one (.int .i64 y)) with | some true => _ | some false => _ | none => _) = _
      rw [e, show (x == y) = true by rw [beq_iff_eq]; exact hy]
    · obtain ⟨i, hi⟩ := mfI_some (x := x) (l := r) (j := j + 1) ((List.mem_cons.1 h).resolve_left hy)
      refine ⟨i, ?_⟩
      show (match keqM (.one (.int .i64 x)) (.one (.int .i64 y)) with | some true => _ | some false => _ | none => _) = _
      rw [e, show (x == y) = false by rw [beq_eq_false_iff_ne]; exact hy]
      exact hi
theorem nodup_snoc {l : List Int} {x : Int} : (l ++ [x]).Nodup ↔ l.Nodup ∧ x ∉ l := by
  rw [List.nodup_append]
  constructor
  · rintro ⟨h1, h2, h3⟩
    exact ⟨h1, fun h4 => h3 x h4 x (by simp) rfl⟩
  · rintro ⟨h1, h2⟩
    exact ⟨h1, by simp, fun a ha b hb e => by simp at hb; subst hb; subst e; exact h2 ha⟩
open Classical in
set_option maxHeartbeats 2000000 in
theorem exec_ok (prs : List PairS) (accs : List AccS) (seen : List Int) (count : Int) (hp : prs.length ≤ 1000000) (ha : accs.length ≤ 1000000) (hs : seen.length ≤ 1000000) : ACalls Tryz.prog 53 [.agg (execCs prs accs seen count)] [] (fun av L => av = .d (.bool (decide (execMay prs accs seen count))) ∧ L = []) := by
  have hsl := nums_length seen
  have htab := tab_ok prs accs hp ha
  (refine acalls_go ttOk zOk foOk Tryz.func53 rfl Tryz.ntmps53 rfl false rfl ?_); (conv => whnf)
  conv => whnf
  refine rdz ?_; repeat' ((with_reducible apply tw) <;> intro _)
  refine loop_go ttOk zOk foOk (σ := Nat) (fun j => ([(1, .ptr 0 0), (3, .map 1), (8, .d (.sl 1 (nums seen))), (9, .d (.int .i64 seen.length)), (10, .d (.int .i64 j))], [.cells (execCs prs accs seen count), .map ((seen.take j).map entI)])) (fun j => j ≤ seen.length ∧ (∀ x ∈ seen.take j, 1 ≤ x ∧ x ≤ 65536) ∧ (seen.take j).Nodup) (fun j => seen.length - j) [1, 3, 8, 9, 10] ?_ ?_
  · conv => whnf
    exact ⟨0, by rw [hsl]; rfl, rfl, Nat.zero_le _, by simp, by simp⟩
  · rintro j ⟨hj, hr, hn⟩
    conv => whnf
    refine rdz ?_; repeat' ((with_reducible apply tw) <;> intro _)
    · rename_i h
      replace h : (j : Int) < seen.length := h
      refine Exists.elim (⟨_, List.getElem?_eq_getElem (by omega)⟩ : ∃ c, seen[j]? = some c) fun x hx => ?_
      have htk := jtake_snoc hx
      refine ⟨by omega, [.int .i64 x], nums_at hx, ?_⟩
      conv => whnf
      refine rdz ?_; repeat' ((with_reducible apply tw) <;> intro _)
      refine (digest_ok x).mono ?_
      rintro _ _ ⟨rfl, rfl⟩
      conv => whnf
      refine rdz ?_; repeat' ((with_reducible apply tw) <;> intro _)
      all_goals rename_i e1
      · exact ⟨by rw [decide_eq_false fun h2 : execMay prs accs seen count => by rw [decide_eq_true (h2.dig x (List.mem_of_getElem? hx))] at e1; cases e1]; rfl, rfl⟩
      · replace e1 := of_decide_eq_true e1
        by_cases hin : x ∈ seen.take j
        · refine Exists.elim (mfI_some (j := 0) hin) fun i hi => ?_
          refine ⟨_, hi, ?_⟩
          conv => whnf
          refine ⟨?_, rfl⟩
          rw [decide_eq_false fun h2 : execMay prs accs seen count => by
            have h3 := h2.nd.sublist (List.take_sublist (j + 1) seen)
            rw [htk] at h3
            exact (nodup_snoc.1 h3).2 hin]
          rfl
        · refine ⟨_, mfI_none hin, ?_⟩
          conv => whnf
          refine rdz ?_; repeat' ((with_reducible apply tw) <;> intro _)
          refine ⟨_, mfI_none hin, ?_⟩
          conv => whnf
          refine rdz ?_; repeat' ((with_reducible apply tw) <;> intro _)
          refine ⟨j + 1, rfl, ?_, ⟨by omega, ?_, ?_⟩, by omega⟩
          · rw [htk, List.map_append]; rfl
          · rw [htk]
            intro y hy
            rcases List.mem_append.1 hy with hy | hy
            · exact hr y hy
            · rw [List.mem_singleton.1 hy]; exact e1
          · rw [htk]; exact nodup_snoc.2 ⟨hn, hin⟩
    · rename_i h
      replace h : ¬ (j : Int) < seen.length := h
      rw [List.take_of_length_le (by omega)] at hr hn
      refine ACalls.mono (post := fun av L => av = .d (.bool (decide (tabMay prs accs))) ∧ L = []) htab ?_
      rintro _ _ ⟨rfl, rfl⟩
      conv => whnf
      refine rdz ?_; repeat' ((with_reducible apply tw) <;> intro _)
      · rename_i e1 e2
        replace e2 : count ≥ 0 := e2
        refine ⟨congrArg (fun b => AV.d (.bool b)) ?_, rfl⟩
        rw [decide_eq_decide]
        exact ⟨fun h6 => ⟨e1, hr, hn, e2, by omega⟩, fun h6 => by have := h6.cnt.2; omega⟩
      · rename_i e1 e2
        replace e2 : ¬ count ≥ 0 := e2
        exact ⟨by rw [decide_eq_false fun h6 : execMay prs accs seen count => e2 h6.cnt.1]; rfl, rfl⟩
      · rename_i e1
        exact ⟨by rw [decide_eq_false fun h6 : execMay prs accs seen count => e1 h6.tab]; rfl, rfl⟩
theorem nd_len {l : List Int} (hn : l.Nodup) (h : ∀ x ∈ l, 1 ≤ x ∧ x ≤ 65536) : l.length ≤ 65536 := by
  have := sub_len (m := (List.range 65536).map fun n : Nat => (n : Int) + 1) hn fun x hx => by
    have := h x hx
    exact List.mem_map.2 ⟨(x - 1).toNat, by simp; omega, by omega⟩
  simpa using this
structure Pt where
  cur : Cursor
  prs : List PairS
  accs : List AccS
  seen : List Int
  count : Int
def Pt.cs (p : Pt) : List AV := [.d (.int .i64 p.cur.round), .d (.sl 1 (nums p.cur.done)), .d (.int .i64 p.cur.count), .d (.sl 2 (pairsD p.prs)), .d (.sl 2 (accsD p.accs)), .d (.sl 1 (nums p.seen)), .d (.int .i64 p.count)]
def Pt.av (p : Pt) : AV := .agg p.cs
def ptMay (p : Pt) : Prop := curMay p.cur ∧ execMay p.prs p.accs p.seen p.count
structure Pt.fit (p : Pt) : Prop where
  done : p.cur.done.length ≤ 1000000
  prs : p.prs.length ≤ 400000
  accs : p.accs.length ≤ 400000
  seen : p.seen.length ≤ 1000000
open Classical in
theorem imgMay_ok (p : Pt) (h : p.fit) : ACalls Tryz.prog 29 [p.av] [] (fun av L => av = .d (.bool (decide (ptMay p))) ∧ L = []) := by
  have h1 := h.done
  have h2 := h.prs
  have h3 := h.accs
  have hm := curMay_full p.cur (by unfold few; omega)
  have he := exec_ok p.prs p.accs p.seen p.count (by omega) (by omega) h.seen
  (refine acalls_go ttOk zOk foOk Tryz.func29 rfl Tryz.ntmps29 rfl false rfl ?_); (conv => whnf)
  conv => whnf
  refine rdw ?_; repeat' ((with_reducible apply tw) <;> intro _)
  refine ACalls.mono (post := fun av L => av = .d (.bool (isM p.cur)) ∧ L = []) hm ?_
  rintro _ _ ⟨rfl, rfl⟩
  by_cases hc : curMay p.cur
  · rw [isM_yes hc]
    conv => whnf
    refine rdw ?_; repeat' ((with_reducible apply tw) <;> intro _)
    refine ACalls.mono (post := fun av L => av = .d (.bool (decide (execMay p.prs p.accs p.seen p.count))) ∧ L = []) he ?_
    rintro _ _ ⟨rfl, rfl⟩
    conv => whnf
    refine ⟨congrArg (fun b => AV.d (.bool b)) ?_, rfl⟩
    rw [decide_eq_decide]
    exact ⟨fun h => ⟨hc, h⟩, fun h => h.2⟩
  · rw [isM_no hc]
    conv => whnf
    exact ⟨by rw [decide_eq_false fun h : ptMay p => hc h.1]; rfl, rfl⟩
def accN (l : List AccS) : List Int := l.flatMap fun a => [a.sender, a.seq]
def prT (l : List PairS) : List ByteArray := l.flatMap fun a => [a.key, a.val]
def Pt.texts (p : Pt) : List ByteArray := [p.cur.round, p.cur.count, p.count].map ntext ++ [ltext p.cur.done, ltext p.seen, ltext (accN p.accs)] ++ prT p.prs
open Classical in
noncomputable def bytesR (p : Pt) : AV := if ptMay p then putR p.texts else .tup [.d (.sl 1 []), .d (.int .i64 1)]
theorem accN_len (l : List AccS) : (accN l).length = 2 * l.length := by
  induction l with
  | nil => rfl
  | cons a r ih => simp [accN] at ih ⊢; omega
theorem prT_len (l : List PairS) : (prT l).length = 2 * l.length := by
  induction l with
  | nil => rfl
  | cons a r ih => simp [prT] at ih ⊢; omega
theorem accN_snoc (l : List AccS) (a : AccS) : accN (l ++ [a]) = accN l ++ [a.sender, a.seq] := by simp [accN]
theorem prT_snoc (l : List PairS) (a : PairS) : prT (l ++ [a]) = prT l ++ [a.key, a.val] := by simp [prT]
open Classical in
set_option maxHeartbeats 4000000 in
theorem bytes_ok (p : Pt) (h : p.fit) : ACalls Tryz.prog 11 [p.av] [] (fun av L => av = bytesR p ∧ L = []) := by
  have hal := accsD_length p.accs
  have hpl := pairsD_length p.prs
  have hf1 := h.prs
  have hf2 := h.accs
  have hm := imgMay_ok p h
  (refine acalls_go ttOk zOk foOk Tryz.func11 rfl Tryz.ntmps11 rfl false rfl ?_); (conv => whnf)
  conv => whnf
  refine rdw ?_; repeat' ((with_reducible apply tw) <;> intro _)
  refine ACalls.mono (post := fun av L => av = .d (.bool (decide (ptMay p))) ∧ L = []) hm ?_
  rintro _ _ ⟨rfl, rfl⟩
  by_cases hpm : ptMay p
  · rw [decide_eq_true hpm]
    have hbr : bytesR p = putR p.texts := if_pos hpm
    have hp3 : pos64 [p.cur.round, p.cur.count, p.count] := by
      have h1 := hpm.1.round
      have h2 := hpm.1.count
      have h3 := hpm.2.cnt
      have h4 := h.seen
      intro n hn
      simp only [List.mem_cons, List.not_mem_nil, or_false] at hn
      rcases hn with rfl | rfl | rfl <;> omega
    have hp4 : pos64 p.cur.done := fun n hn => by have := hpm.1.done.2 n hn; omega
    have hp5 : pos64 p.seen := fun n hn => by have := hpm.2.dig n hn; omega
    have hp6 : pos64 (accN p.accs) := fun n hn => by
      obtain ⟨a, ha, hn⟩ := List.mem_flatMap.1 hn
      obtain ⟨i, hi⟩ := List.mem_iff_getElem?.1 ha
      have := hpm.2.tab.2.2 i a hi
      have h1 := this.s
      have h2 := this.q
      simp only [List.mem_cons, List.not_mem_nil, or_false] at hn
      rcases hn with rfl | rfl <;> omega
    rw [hbr]
    conv => whnf
    refine rdw ?_; repeat' ((with_reducible apply tw) <;> intro _)
    refine loop_go ttOk zOk foOk (σ := Nat) (fun j => ([(1, .ptr 0 0), (4, .arr 1), (16, .d (.sl 2 (accsD p.accs))), (17, .d (.int .i64 p.accs.length)), (18, .d (.int .i64 j))], [.cells p.cs, .row 3 1 (nums (accN (p.accs.take j))) false])) (fun j => j ≤ p.accs.length) (fun j => p.accs.length - j) [1, 4, 16, 17, 18] ?_ ?_
    · conv => whnf
      exact ⟨0, by rw [hal]; rfl, rfl, Nat.zero_le _⟩
    · intro j hj
      conv => whnf
      refine rdw ?_; repeat' ((with_reducible apply tw) <;> intro _)
      · rename_i e
        replace e : (j : Int) < p.accs.length := e
        refine Exists.elim (⟨_, List.getElem?_eq_getElem (by omega)⟩ : ∃ c, p.accs[j]? = some c) fun c hc => ?_
        have hnl : (nums (accN (p.accs.take j))).length ≤ 800000 := by rw [nums_length, accN_len]; simp; omega
        refine ⟨by omega, c.cs, accsD_at hc, ?_⟩
        conv => whnf
        refine rdw ?_; repeat' ((with_reducible apply tw) <;> intro _)
        refine ⟨by show ((nums (accN (p.accs.take j))).length + 2) * 8 ≤ _; omega, ?_⟩
        conv => whnf
        refine rdw ?_; repeat' ((with_reducible apply tw) <;> intro _)
        refine ⟨j + 1, rfl, ?_, by omega, by omega⟩
        rw [jtake_snoc hc, accN_snoc, ← nums_apps]
        rfl
      · rename_i e
        replace e : ¬ (j : Int) < p.accs.length := e
        rw [List.take_of_length_le (by omega)]
        ((with_reducible refine draw_pl ttOk zOk foOk mixedOk pl11x9 ?_ ?_); (focus kernel_rfl); (conv => whnf))
        refine rdw ?_; repeat' ((with_reducible apply tw) <;> intro _)
        (refine Or.inl ?_; (conv => whnf))
        refine ACalls.mono (post := fun av L => av = .arr 0 ∧ L = [.row 9 1 (strs ([p.cur.round, p.cur.count, p.count].map ntext)) false]) (texts_ok [p.cur.round, p.cur.count, p.count] (by simp) hp3) ?_
        rintro _ _ ⟨rfl, rfl⟩
        conv => whnf
        refine rdw ?_; repeat' ((with_reducible apply tw) <;> intro _)
        refine ACalls.mono (post := fun av L => av = .d (.str (ltext p.cur.done)) ∧ L = []) (list_ok p.cur.done h.done hp4) ?_
        rintro _ _ ⟨rfl, rfl⟩
        conv => whnf
        refine rdw ?_; repeat' ((with_reducible apply tw) <;> intro _)
        refine ACalls.mono (post := fun av L => av = .d (.str (ltext p.seen)) ∧ L = []) (list_ok p.seen h.seen hp5) ?_
        rintro _ _ ⟨rfl, rfl⟩
        conv => whnf
        refine rdw ?_; repeat' ((with_reducible apply tw) <;> intro _)
        (refine Or.inl ?_; (conv => whnf))
        refine ACalls.mono (post := fun av L => av = .d (.str (ltext (accN p.accs))) ∧ L = []) (list_ok (accN p.accs) (by rw [accN_len]; omega) hp6) ?_
        rintro _ _ ⟨rfl, rfl⟩
        conv => whnf
        refine rdw ?_; repeat' ((with_reducible apply tw) <;> intro _)
        refine ⟨by show (3 + 3) * 16 ≤ _; decide, ?_⟩
        conv => whnf
        refine rdw ?_; repeat' ((with_reducible apply tw) <;> intro _)
        obtain ⟨B, hB⟩ : ∃ B, [p.cur.round, p.cur.count, p.count].map ntext ++ [ltext p.cur.done, ltext p.seen, ltext (accN p.accs)] = B := ⟨_, rfl⟩
        have hBl : B.length = 6 := by rw [← hB]; rfl
        have hBs : ∀ s ∈ B, s.size ≤ 1048586 := by
          rw [← hB]
          intro s hs
          simp only [List.map_cons, List.map_nil, List.cons_append, List.nil_append, List.mem_cons, List.not_mem_nil, or_false] at hs
          rcases hs with rfl | rfl | rfl | rfl | rfl | rfl
          · have := ntext_size p.cur.round; omega
          · have := ntext_size p.cur.count; omega
          · have := ntext_size p.count; omega
          · exact ltext_size _
          · exact ltext_size _
          · exact ltext_size _
        refine loop_go ttOk zOk foOk (σ := Nat) (fun j => ([(1, .ptr 0 0), (7, .arr 1), (56, .d (.sl 2 (pairsD p.prs))), (57, .d (.int .i64 p.prs.length)), (58, .d (.int .i64 j))], [.cells p.cs, .row 9 1 (strs (B ++ prT (p.prs.take j))) false])) (fun j => j ≤ p.prs.length) (fun j => p.prs.length - j) [1, 7, 56, 57, 58] ?_ ?_
        · conv => whnf
          exact ⟨0, by rw [hpl]; rfl, by rw [← hB]; rfl, Nat.zero_le _⟩
        · intro i hi
          conv => whnf
          refine rdw ?_; repeat' ((with_reducible apply tw) <;> intro _)
          · rename_i e
            replace e : (i : Int) < p.prs.length := e
            refine Exists.elim (⟨_, List.getElem?_eq_getElem (by omega)⟩ : ∃ c, p.prs[i]? = some c) fun c hc => ?_
            have hnl : (strs (B ++ prT (p.prs.take i))).length ≤ 800010 := by rw [strs_length, List.length_append, hBl, prT_len]; simp; omega
            refine ⟨by omega, c.cs, pairsD_at hc, ?_⟩
            conv => whnf
            refine rdw ?_; repeat' ((with_reducible apply tw) <;> intro _)
            refine ⟨by show ((strs (B ++ prT (p.prs.take i))).length + 2) * 16 ≤ _; omega, ?_⟩
            conv => whnf
            refine rdw ?_; repeat' ((with_reducible apply tw) <;> intro _)
            refine ⟨i + 1, rfl, ?_, by omega, by omega⟩
            rw [jtake_snoc hc, prT_snoc, ← List.append_assoc, ← strs_apps (B ++ prT (p.prs.take i))]
            rfl
          · rename_i e
            replace e : ¬ (i : Int) < p.prs.length := e
            rw [List.take_of_length_le (by omega)]
            have hput := wput_ok (B ++ prT p.prs) (by rw [List.length_append, hBl, prT_len]; omega) (fun s hs => by
              rcases List.mem_append.1 hs with hs | hs
              · have := hBs s hs; omega
              · obtain ⟨a, ha, hs⟩ := List.mem_flatMap.1 hs
                obtain ⟨k, hk⟩ := List.mem_iff_getElem?.1 ha
                have hok := hpm.2.tab.1.2 k a hk
                have h1 := hok.k16
                have h2 := hok.v32
                simp only [List.mem_cons, List.not_mem_nil, or_false] at hs
                rcases hs with rfl | rfl <;> omega)
            have hT : p.texts = B ++ prT p.prs := by rw [← hB]; rfl
            rw [hT]
            rcases hpo : putO (B ++ prT p.prs) with _ | b
            · rw [putR_none hpo] at hput ⊢
              (refine Or.inl ?_; (conv => whnf))
              refine hput.mono ?_
              rintro _ _ ⟨rfl, rfl⟩
              conv => whnf
              exact ⟨rfl, rfl⟩
            · rw [putR_some hpo] at hput ⊢
              (refine Or.inl ?_; (conv => whnf))
              refine hput.mono ?_
              rintro _ _ ⟨rfl, rfl⟩
              conv => whnf
              exact ⟨rfl, rfl⟩
  · rw [decide_eq_false hpm]
    have hbr : bytesR p = .tup [.d (.sl 1 []), .d (.int .i64 1)] := if_neg hpm
    rw [hbr]
    conv => whnf
    exact ⟨rfl, rfl⟩
def rd1 (s : ByteArray) : Option Int := match gnum s.data.toList with
  | some (n, k) => if k = s.size then some (n : Int) else none
  | none => none
theorem rd1_none {s : ByteArray} (h : gnum s.data.toList = none) : rd1 s = none := by unfold rd1; rw [h]
theorem rd1_some {s : ByteArray} {n k : Nat} (h : gnum s.data.toList = some (n, k)) : rd1 s = if k = s.size then some (n : Int) else none := by unfold rd1; rw [h]
def pcs (a b c d e f g : DV) : List AV := [.d a, .d b, .d c, .d d, .d e, .d f, .d g]
def ptrs3 : AB := .cells [.ptr 1 0, .ptr 1 2, .ptr 1 6]
def rdInv (s0 s1 s2 : ByteArray) (a b c d e f g : DV) (k : Nat) (pc : List AV) : Prop :=
  (k = 0 ∧ pc = pcs a b c d e f g) ∨ (∃ n0, k = 1 ∧ rd1 s0 = some n0 ∧ pc = pcs (.int .i64 n0) b c d e f g) ∨
  (∃ n0 n1, k = 2 ∧ rd1 s0 = some n0 ∧ rd1 s1 = some n1 ∧ pc = pcs (.int .i64 n0) b (.int .i64 n1) d e f g) ∨
  (∃ n0 n1 n2, k = 3 ∧ rd1 s0 = some n0 ∧ rd1 s1 = some n1 ∧ rd1 s2 = some n2 ∧ pc = pcs (.int .i64 n0) b (.int .i64 n1) d e f (.int .i64 n2))
set_option maxHeartbeats 4000000 in
theorem read_ok (s0 s1 s2 : ByteArray) (r : List ByteArray) (hr : r.length ≤ 1000000) (hs : s0.size ≤ 1000000 ∧ s1.size ≤ 1000000 ∧ s2.size ≤ 1000000) (a b c d e f g : DV) : ACalls Tryz.prog 34 [.d (.sl 1 (strs (s0 :: s1 :: s2 :: r))), .arr 0] [ptrs3, .cells (pcs a b c d e f g)]
    (fun av L => (∃ n0 n1 n2, rd1 s0 = some n0 ∧ rd1 s1 = some n1 ∧ rd1 s2 = some n2 ∧ av = .d (.bool true) ∧ L = [ptrs3, .cells (pcs (.int .i64 n0) b (.int .i64 n1) d e f (.int .i64 n2))]) ∨
      ((rd1 s0 = none ∨ rd1 s1 = none ∨ rd1 s2 = none) ∧ av = .d (.bool false) ∧ ∃ a b c d e f g : DV, L = [ptrs3, .cells (pcs a b c d e f g)])) := by
  have hl : (strs (s0 :: s1 :: s2 :: r)).length = r.length + 3 := by rw [strs_length]; rfl
  (refine acalls_go ttOk zOk foOk Tryz.func34 rfl Tryz.ntmps34 rfl false rfl ?_); (conv => whnf)
  refine rdz ?_; repeat' ((with_reducible apply tw) <;> intro _)
  refine loop_go ttOk zOk foOk (σ := Nat × List AV) (fun s => ([(0, .d (.sl 1 (strs (s0 :: s1 :: s2 :: r)))), (15, .arr 0), (16, .d (.int .i64 3)), (17, .d (.int .i64 s.1))], [ptrs3, .cells s.2])) (fun s => rdInv s0 s1 s2 a b c d e f g s.1 s.2) (fun s => 3 - s.1) [0, 15, 16, 17] ?_ ?_
  · conv => whnf
    exact ⟨(0, pcs a b c d e f g), rfl, rfl, .inl ⟨rfl, rfl⟩⟩
  · rintro ⟨k, pc⟩ (⟨h1, h2⟩ | ⟨n0, h1, e0, h2⟩ | ⟨n0, n1, h1, e0, e1, h2⟩ | ⟨n0, n1, n2, h1, e0, e1, e2, h2⟩)
    all_goals
      simp only at h1 h2
      subst h1 h2
    · conv => whnf
      refine rdz ?_; repeat' ((with_reducible apply tw) <;> intro _)
      refine ⟨by simp, by simp, ?_⟩
      conv => whnf
      refine rdz ?_; repeat' ((with_reducible apply tw) <;> intro _)
      refine ⟨by simp, [.str s0], rfl, ?_⟩
      conv => whnf
      refine rdz ?_; repeat' ((with_reducible apply tw) <;> intro _)
      have hgn := getNum_ok s0.data.toList (by simp; omega)
      refine ⟨by unfold maxLen; omega, .inl ?_⟩
      conv => whnf
      refine rdz ?_; repeat' ((with_reducible apply tw) <;> intro _)
      refine ACalls.mono (post := fun av L => av = gnumR s0.data.toList ∧ L = []) hgn ?_
      rintro _ _ ⟨rfl, rfl⟩
      rcases hg : gnum s0.data.toList with _ | ⟨n, sz⟩
      · rw [gnumR_none hg]
        conv => whnf
        exact .inr ⟨.inl (rd1_none hg), rfl, _, _, _, _, _, _, _, rfl⟩
      · rw [gnumR_some hg]
        conv => whnf
        refine rdz ?_; repeat' ((with_reducible apply tw) <;> intro _)
        refine ⟨by simp, [.str s0], rfl, ?_⟩
        conv => whnf
        refine rdz ?_; repeat' ((with_reducible apply tw) <;> intro _)
        · rename_i h5
          replace h5 : (sz : Int) ≠ s0.size := h5
          exact .inr ⟨.inl ((by rw [rd1_some hg, if_neg (by omega)])), rfl, _, _, _, _, _, _, _, rfl⟩
        · rename_i h5
          replace h5 : (sz : Int) = s0.size := h5
          exact ⟨(1, _), rfl, rfl, .inr (.inl ⟨n, rfl, (by rw [rd1_some hg, if_pos (by omega)]), rfl⟩), by show 3 - 1 < 3 - 0; decide⟩
    · conv => whnf
      refine rdz ?_; repeat' ((with_reducible apply tw) <;> intro _)
      refine ⟨by simp, by simp, ?_⟩
      conv => whnf
      refine rdz ?_; repeat' ((with_reducible apply tw) <;> intro _)
      refine ⟨by simp, [.str s1], rfl, ?_⟩
      conv => whnf
      refine rdz ?_; repeat' ((with_reducible apply tw) <;> intro _)
      have hgn := getNum_ok s1.data.toList (by simp; omega)
      refine ⟨by unfold maxLen; omega, .inl ?_⟩
      conv => whnf
      refine rdz ?_; repeat' ((with_reducible apply tw) <;> intro _)
      refine ACalls.mono (post := fun av L => av = gnumR s1.data.toList ∧ L = []) hgn ?_
      rintro _ _ ⟨rfl, rfl⟩
      rcases hg : gnum s1.data.toList with _ | ⟨n, sz⟩
      · rw [gnumR_none hg]
        conv => whnf
        exact .inr ⟨.inr (.inl (rd1_none hg)), rfl, _, _, _, _, _, _, _, rfl⟩
      · rw [gnumR_some hg]
        conv => whnf
        refine rdz ?_; repeat' ((with_reducible apply tw) <;> intro _)
        refine ⟨by simp, [.str s1], rfl, ?_⟩
        conv => whnf
        refine rdz ?_; repeat' ((with_reducible apply tw) <;> intro _)
        · rename_i h5
          replace h5 : (sz : Int) ≠ s1.size := h5
          exact .inr ⟨.inr (.inl ((by rw [rd1_some hg, if_neg (by omega)]))), rfl, _, _, _, _, _, _, _, rfl⟩
        · rename_i h5
          replace h5 : (sz : Int) = s1.size := h5
          exact ⟨(2, _), rfl, rfl, .inr (.inr (.inl ⟨n0, n, rfl, e0, (by rw [rd1_some hg, if_pos (by omega)]), rfl⟩)), by show 3 - 2 < 3 - 1; decide⟩
    · conv => whnf
      refine rdz ?_; repeat' ((with_reducible apply tw) <;> intro _)
      refine ⟨by simp, by simp, ?_⟩
      conv => whnf
      refine rdz ?_; repeat' ((with_reducible apply tw) <;> intro _)
      refine ⟨by simp, [.str s2], rfl, ?_⟩
      conv => whnf
      refine rdz ?_; repeat' ((with_reducible apply tw) <;> intro _)
      have hgn := getNum_ok s2.data.toList (by simp; omega)
      refine ⟨by unfold maxLen; omega, .inl ?_⟩
      conv => whnf
      refine rdz ?_; repeat' ((with_reducible apply tw) <;> intro _)
      refine ACalls.mono (post := fun av L => av = gnumR s2.data.toList ∧ L = []) hgn ?_
      rintro _ _ ⟨rfl, rfl⟩
      rcases hg : gnum s2.data.toList with _ | ⟨n, sz⟩
      · rw [gnumR_none hg]
        conv => whnf
        exact .inr ⟨.inr (.inr (rd1_none hg)), rfl, _, _, _, _, _, _, _, rfl⟩
      · rw [gnumR_some hg]
        conv => whnf
        refine rdz ?_; repeat' ((with_reducible apply tw) <;> intro _)
        refine ⟨by simp, [.str s2], rfl, ?_⟩
        conv => whnf
        refine rdz ?_; repeat' ((with_reducible apply tw) <;> intro _)
        · rename_i h5
          replace h5 : (sz : Int) ≠ s2.size := h5
          exact .inr ⟨.inr (.inr ((by rw [rd1_some hg, if_neg (by omega)]))), rfl, _, _, _, _, _, _, _, rfl⟩
        · rename_i h5
          replace h5 : (sz : Int) = s2.size := h5
          exact ⟨(3, _), rfl, rfl, .inr (.inr (.inr ⟨n0, n1, n, rfl, e0, e1, (by rw [rd1_some hg, if_pos (by omega)]), rfl⟩)), by show 3 - 3 < 3 - 2; decide⟩
    · conv => whnf
      refine rdz ?_; repeat' ((with_reducible apply tw) <;> intro _)
      exact .inl ⟨n0, n1, n2, e0, e1, e2, rfl, rfl⟩
def rdl (s : ByteArray) : Option (List Int) := listF rint s.data.toList
def ptrsL : AB := .cells [.ptr 1 1, .ptr 1 5, .ptr 2 0]
def lN (l : List Int) : DV := .sl 1 (nums l)
theorem intLR_some {b : List UInt8} {l : List Int} (h : listF rint b = some l) : intLR b = .tup [.d (lN l), .d (.int .i64 0)] := by unfold intLR; rw [h]; rfl
theorem intLR_none {b : List UInt8} (h : listF rint b = none) : intLR b = .tup [.d (.sl 1 []), .d (.int .i64 1)] := by unfold intLR; rw [h]
def rlInv (s0 s1 s2 : ByteArray) (a b c d e f g q : DV) (k : Nat) (pc : List AV) (qc : DV) : Prop :=
  (k = 0 ∧ pc = pcs a b c d e f g ∧ qc = q) ∨ (∃ l0, k = 1 ∧ rdl s0 = some l0 ∧ pc = pcs a (lN l0) c d e f g ∧ qc = q) ∨
  (∃ l0 l1, k = 2 ∧ rdl s0 = some l0 ∧ rdl s1 = some l1 ∧ pc = pcs a (lN l0) c d e (lN l1) g ∧ qc = q) ∨
  (∃ l0 l1 l2, k = 3 ∧ rdl s0 = some l0 ∧ rdl s1 = some l1 ∧ rdl s2 = some l2 ∧ pc = pcs a (lN l0) c d e (lN l1) g ∧ qc = lN l2)
set_option maxHeartbeats 4000000 in
theorem lists_ok (s0 s1 s2 : ByteArray) (r : List ByteArray) (hr : r.length ≤ 1000000) (hs : s0.size ≤ 1000000 ∧ s1.size ≤ 1000000 ∧ s2.size ≤ 1000000) (a b c d e f g q : DV) : ACalls Tryz.prog 35 [.d (.sl 1 (strs (s0 :: s1 :: s2 :: r))), .arr 0] [ptrsL, .cells (pcs a b c d e f g), .cells [.d q]]
    (fun av L => (∃ l0 l1 l2, rdl s0 = some l0 ∧ rdl s1 = some l1 ∧ rdl s2 = some l2 ∧ av = .d (.bool true) ∧ L = [ptrsL, .cells (pcs a (lN l0) c d e (lN l1) g), .cells [.d (lN l2)]]) ∨
      ((rdl s0 = none ∨ rdl s1 = none ∨ rdl s2 = none) ∧ av = .d (.bool false) ∧ ∃ a b c d e f g q : DV, L = [ptrsL, .cells (pcs a b c d e f g), .cells [.d q]])) := by
  (refine acalls_go ttOk zOk foOk Tryz.func35 rfl Tryz.ntmps35 rfl false rfl ?_); (conv => whnf)
  refine rdz ?_; repeat' ((with_reducible apply tw) <;> intro _)
  refine loop_go ttOk zOk foOk (σ := Nat × List AV × DV) (fun s => ([(0, .d (.sl 1 (strs (s0 :: s1 :: s2 :: r)))), (9, .arr 0), (10, .d (.int .i64 3)), (11, .d (.int .i64 s.1))], [ptrsL, .cells s.2.1, .cells [.d s.2.2]])) (fun s => rlInv s0 s1 s2 a b c d e f g q s.1 s.2.1 s.2.2) (fun s => 3 - s.1) [0, 9, 10, 11] ?_ ?_
  · conv => whnf
    exact ⟨(0, pcs a b c d e f g, q), rfl, rfl, .inl ⟨rfl, rfl, rfl⟩⟩
  · rintro ⟨k, pc, qc⟩ (⟨h1, h2, h3⟩ | ⟨l0, h1, e0, h2, h3⟩ | ⟨l0, l1, h1, e0, e1, h2, h3⟩ | ⟨l0, l1, l2, h1, e0, e1, e2, h2, h3⟩)
    all_goals
      simp only at h1 h2 h3
      subst h1 h2 h3
    · conv => whnf
      refine rdz ?_; repeat' ((with_reducible apply tw) <;> intro _)
      refine ⟨by simp, by simp, ?_⟩
      conv => whnf
      refine rdz ?_; repeat' ((with_reducible apply tw) <;> intro _)
      refine ⟨by simp, [.str s0], rfl, ?_⟩
      conv => whnf
      refine rdz ?_; repeat' ((with_reducible apply tw) <;> intro _)
      have hgn := getNums_ok s0.data.toList (by simp; omega)
      refine ⟨by unfold maxLen; omega, .inl ?_⟩
      conv => whnf
      refine rdz ?_; repeat' ((with_reducible apply tw) <;> intro _)
      refine ACalls.mono (post := fun av L => av = intLR s0.data.toList ∧ L = []) hgn ?_
      rintro _ _ ⟨rfl, rfl⟩
      rcases hg : listF rint s0.data.toList with _ | n
      · rw [intLR_none hg]
        conv => whnf
        exact .inr ⟨.inl (hg), rfl, _, _, _, _, _, _, _, _, rfl⟩
      · rw [intLR_some hg]
        conv => whnf
        refine rdz ?_; repeat' ((with_reducible apply tw) <;> intro _)
        exact ⟨(1, _, _), rfl, rfl, .inr (.inl ⟨n, rfl, hg, rfl, rfl⟩), by show 3 - 1 < 3 - 0; decide⟩
    · conv => whnf
      refine rdz ?_; repeat' ((with_reducible apply tw) <;> intro _)
      refine ⟨by simp, by simp, ?_⟩
      conv => whnf
      refine rdz ?_; repeat' ((with_reducible apply tw) <;> intro _)
      refine ⟨by simp, [.str s1], rfl, ?_⟩
      conv => whnf
      refine rdz ?_; repeat' ((with_reducible apply tw) <;> intro _)
      have hgn := getNums_ok s1.data.toList (by simp; omega)
      refine ⟨by unfold maxLen; omega, .inl ?_⟩
      conv => whnf
      refine rdz ?_; repeat' ((with_reducible apply tw) <;> intro _)
      refine ACalls.mono (post := fun av L => av = intLR s1.data.toList ∧ L = []) hgn ?_
      rintro _ _ ⟨rfl, rfl⟩
      rcases hg : listF rint s1.data.toList with _ | n
      · rw [intLR_none hg]
        conv => whnf
        exact .inr ⟨.inr (.inl (hg)), rfl, _, _, _, _, _, _, _, _, rfl⟩
      · rw [intLR_some hg]
        conv => whnf
        refine rdz ?_; repeat' ((with_reducible apply tw) <;> intro _)
        exact ⟨(2, _, _), rfl, rfl, .inr (.inr (.inl ⟨l0, n, rfl, e0, hg, rfl, rfl⟩)), by show 3 - 2 < 3 - 1; decide⟩
    · conv => whnf
      refine rdz ?_; repeat' ((with_reducible apply tw) <;> intro _)
      refine ⟨by simp, by simp, ?_⟩
      conv => whnf
      refine rdz ?_; repeat' ((with_reducible apply tw) <;> intro _)
      refine ⟨by simp, [.str s2], rfl, ?_⟩
      conv => whnf
      refine rdz ?_; repeat' ((with_reducible apply tw) <;> intro _)
      have hgn := getNums_ok s2.data.toList (by simp; omega)
      refine ⟨by unfold maxLen; omega, .inl ?_⟩
      conv => whnf
      refine rdz ?_; repeat' ((with_reducible apply tw) <;> intro _)
      refine ACalls.mono (post := fun av L => av = intLR s2.data.toList ∧ L = []) hgn ?_
      rintro _ _ ⟨rfl, rfl⟩
      rcases hg : listF rint s2.data.toList with _ | n
      · rw [intLR_none hg]
        conv => whnf
        exact .inr ⟨.inr (.inr (hg)), rfl, _, _, _, _, _, _, _, _, rfl⟩
      · rw [intLR_some hg]
        conv => whnf
        refine rdz ?_; repeat' ((with_reducible apply tw) <;> intro _)
        exact ⟨(3, _, _), rfl, rfl, .inr (.inr (.inr ⟨l0, l1, n, rfl, e0, e1, hg, rfl, rfl⟩)), by show 3 - 3 < 3 - 2; decide⟩
    · conv => whnf
      refine rdz ?_; repeat' ((with_reducible apply tw) <;> intro _)
      exact .inl ⟨l0, l1, l2, e0, e1, e2, rfl, rfl⟩
def accsOf : List Int → List AccS
  | a :: b :: r => ⟨a, b⟩ :: accsOf r
  | _ => []
def prsOf : List ByteArray → List PairS
  | a :: b :: r => ⟨a, b⟩ :: prsOf r
  | _ => []
theorem accsOf_snoc : ∀ (k : Nat) (l : List Int) (a b : Int), l[2 * k]? = some a → l[2 * k + 1]? = some b → accsOf (l.take (2 * (k + 1))) = accsOf (l.take (2 * k)) ++ [⟨a, b⟩]
  | 0, x :: y :: r, a, b, h1, h2 => by simp at h1 h2; subst h1 h2; simp [accsOf]
  | 0, [], a, b, h1, h2 => by simp at h1
  | 0, [x], a, b, h1, h2 => by simp at h2
  | k + 1, [], a, b, h1, h2 => by simp at h1
  | k + 1, [x], a, b, h1, h2 => by simp at h1
  | k + 1, x :: y :: r, a, b, h1, h2 => by
    have e1 : 2 * (k + 1) = 2 * k + 1 + 1 := by omega
    have e2 : 2 * (k + 1 + 1) = 2 * (k + 1) + 1 + 1 := by omega
    rw [e1] at h1 h2
    simp only [List.getElem?_cons_succ] at h1 h2
    have := accsOf_snoc k r a b h1 h2
    rw [e2, e1] 
    simp only [List.take_succ_cons, accsOf, List.cons_append]
    rw [show 2 * k + 1 + 1 = 2 * (k + 1) by omega, this]
theorem prsOf_snoc : ∀ (k : Nat) (l : List ByteArray) (a b : ByteArray), l[2 * k]? = some a → l[2 * k + 1]? = some b → prsOf (l.take (2 * (k + 1))) = prsOf (l.take (2 * k)) ++ [⟨a, b⟩]
  | 0, x :: y :: r, a, b, h1, h2 => by simp at h1 h2; subst h1 h2; simp [prsOf]
  | 0, [], a, b, h1, h2 => by simp at h1
  | 0, [x], a, b, h1, h2 => by simp at h2
  | k + 1, [], a, b, h1, h2 => by simp at h1
  | k + 1, [x], a, b, h1, h2 => by simp at h1
  | k + 1, x :: y :: r, a, b, h1, h2 => by
    have e1 : 2 * (k + 1) = 2 * k + 1 + 1 := by omega
    have e2 : 2 * (k + 1 + 1) = 2 * (k + 1) + 1 + 1 := by omega
    rw [e1] at h1 h2
    simp only [List.getElem?_cons_succ] at h1 h2
    have := prsOf_snoc k r a b h1 h2
    rw [e2, e1] 
    simp only [List.take_succ_cons, prsOf, List.cons_append]
    rw [show 2 * k + 1 + 1 = 2 * (k + 1) by omega, this]
theorem accsOf_len (l : List Int) : (accsOf l).length ≤ l.length := by
  match l with
  | [] => simp [accsOf]
  | [x] => simp [accsOf]
  | a :: b :: r => have := accsOf_len r; simp [accsOf]; omega
theorem prsOf_len (l : List ByteArray) : (prsOf l).length ≤ l.length := by
  match l with
  | [] => simp [prsOf]
  | [x] => simp [prsOf]
  | a :: b :: r => have := prsOf_len r; simp [prsOf]; omega
theorem equal_ok (a b : List UInt8) : ACalls Tryz.prog 36 [.d (.sl 1 (u8s a)), .d (.sl 1 (u8s b))] [] (fun av L => av = .d (.bool (decide (a = b))) ∧ L = []) := by
  (refine acalls_go ttOk zOk foOk Tryz.func36 rfl Tryz.ntmps36 rfl false rfl ?_); (conv => whnf)
  refine ⟨a, rfl, ?_⟩
  conv => whnf
  refine ⟨b, rfl, ?_⟩
  conv => whnf
  have h : ∀ x : List UInt8, (⟨x.toArray⟩ : ByteArray).toList = x := fun x => by rw [ByteArray.toList_eq]
  rw [h, h]
  refine ⟨?_, rfl⟩
  congr 2
  rw [Bool.eq_iff_iff]
  simp
def zPt : AV := .agg (pcs (.int .i64 0) .nils (.int .i64 0) .nils .nils .nils (.int .i64 0))
def Dec (b : List UInt8) (p : Pt) : Prop := ∃ (s0 s1 s2 t0 t1 t2 : ByteArray) (r : List ByteArray) (n0 n1 n2 : Int) (l0 l1 l2 : List Int), listF rtext b = some (s0 :: s1 :: s2 :: t0 :: t1 :: t2 :: r) ∧ r.length % 2 = 0 ∧ (rd1 s0 = some n0 ∧ rd1 s1 = some n1 ∧ rd1 s2 = some n2) ∧ (rdl t0 = some l0 ∧ rdl t1 = some l1 ∧ rdl t2 = some l2) ∧ l2.length % 2 = 0 ∧ p = ⟨⟨n0, l0, n1⟩, prsOf r, accsOf l2, l1, n2⟩
def NoP (b : List UInt8) : Prop := ∀ p, Dec b p → ptMay p → putO p.texts = some b → False
def ParseR (b : List UInt8) (av : AV) : Prop := (∃ p : Pt, p.fit ∧ ptMay p ∧ putO p.texts = some b ∧ Dec b p ∧ av = .tup [p.av, .d (.int .i64 0)]) ∨ (NoP b ∧ av = .tup [zPt, .d (.int .i64 1)])
set_option maxHeartbeats 8000000 in
theorem parse_raw (b : List UInt8) (hb : b.length ≤ 400000) : ACalls Tryz.prog 12 [.d (.sl 1 (u8s b))] [] (fun av L => ParseR b av ∧ L = []) := by
  have hg := wget_ok b (by omega)
  refine acalls_data (post := fun av L => (∃ p : Pt, p.fit ∧ ptMay p ∧ putO p.texts = some b ∧ Dec b p ∧ av = .tup [.agg [.d (.int .i64 p.cur.round), .d (lN p.cur.done), .d (.int .i64 p.cur.count), .arr 0, .arr 1, .d (lN p.seen), .d (.int .i64 p.count)], .d (.int .i64 0)] ∧ L = [.row 88 2 (pairsD p.prs) true, .row 83 2 (accsD p.accs) true]) ∨ (NoP b ∧ av = .tup [zPt, .d (.int .i64 1)] ∧ L = [])) ?_ ?_
  · refine acalls_go ttOk zOk foOk Tryz.func12 rfl Tryz.ntmps12 rfl true rfl ?_
    conv => whnf
    refine scope_go ttOk zOk foOk (σ := Unit) (fun _ => ([(2, .ptr 0 0)], [.cells (pcs (.int .i64 0) .nils (.int .i64 0) .nils .nils .nils (.int .i64 0))])) (fun k _ => k = 0 ∧ NoP b) (fun _ _ => 0) ?_ ?_
    · rintro k rest hk _ ⟨rfl, hnp⟩
      have e := Option.some.inj (show some _ = some rest from hk)
      subst e
      clear hk
      conv => whnf
      refine rdw ?_; repeat' ((with_reducible apply tw) <;> intro _)
      exact .inr ⟨hnp, rfl, rfl⟩
    · intro pass
      conv => whnf
      refine rdw ?_; repeat' ((with_reducible apply tw) <;> intro _)
      refine hg.mono ?_
      rintro _ _ ⟨rfl, rfl⟩
      have hbadI : ∀ L : List AB, L[0]? = L[0]? := fun _ => rfl
      rcases hl : listF rtext b with _ | l
      · rw [show strLR b = _ from (by unfold strLR; rw [hl])]
        conv => whnf
        refine rdw ?_; repeat' ((with_reducible apply tw) <;> intro _)
        refine into_of [2] ?_
        conv => whnf
        exact ⟨(), rfl, rfl, rfl, fun p hd _ _ => by
            obtain ⟨s0', s1', s2', t0', t1', t2', r', n0', n1', n2', l0', l1', l2', q1, q2, ⟨q3, q4, q5⟩, ⟨q6, q7, q8⟩, q9, q10⟩ := hd
            rw [hl] at q1; cases q1⟩
      · have hll := listF_len hl
        have hls := listF_all (fun s : ByteArray => s.size ≤ b.length) (fun r h => by have := rtext_len r; exact ⟨by omega, by omega⟩) hl
        have hsl := strs_length l
        rw [show strLR b = _ from (by unfold strLR; rw [hl])]
        conv => whnf
        refine rdw ?_; repeat' ((with_reducible apply tw) <;> intro _)
        · rename_i hlt6
          replace hlt6 : (((strs l).length : Nat) : Int) < 6 := hlt6
          refine into_of [2] ?_
          conv => whnf
          exact ⟨(), rfl, rfl, rfl, fun p hd _ _ => by
            obtain ⟨s0', s1', s2', t0', t1', t2', r', n0', n1', n2', l0', l1', l2', q1, q2, ⟨q3, q4, q5⟩, ⟨q6, q7, q8⟩, q9, q10⟩ := hd
            rw [hl] at q1; cases q1
            simp [strs] at hlt6
            omega⟩
        rename_i h6
        replace h6 : ¬ (((strs l).length : Nat) : Int) < 6 := h6
        refine ⟨by decide, ?_⟩
        intro z hz
        replace hz : z = ((l.length % 2 : Nat) : Int) := by
          rw [hz, hsl]; show ((l.length : Nat) : Int).tmod 2 = _; rw [Int.tmod_eq_emod_of_nonneg (by omega)]; omega
        subst hz
        conv => whnf
        refine rdw ?_; repeat' ((with_reducible apply tw) <;> intro _)
        · rename_i hodd
          replace hodd : ((l.length % 2 : Nat) : Int) ≠ 0 := hodd
          refine into_of [2] ?_
          conv => whnf
          exact ⟨(), rfl, rfl, rfl, fun p hd _ _ => by
            obtain ⟨s0', s1', s2', t0', t1', t2', r', n0', n1', n2', l0', l1', l2', q1, q2, ⟨q3, q4, q5⟩, ⟨q6, q7, q8⟩, q9, q10⟩ := hd
            rw [hl] at q1; cases q1
            simp at hodd
            omega⟩
        rename_i h2
        replace h2 : ((l.length % 2 : Nat) : Int) = 0 := h2
        obtain ⟨s0, s1, s2, t0, t1, t2, r, rfl⟩ : ∃ s0 s1 s2 t0 t1 t2 r, l = s0 :: s1 :: s2 :: t0 :: t1 :: t2 :: r := by
          match l, hsl, h6 with
          | s0 :: s1 :: s2 :: t0 :: t1 :: t2 :: r, _, _ => exact ⟨s0, s1, s2, t0, t1, t2, r, rfl⟩
          | [], _, h => simp [strs] at h
          | [_], _, h => simp [strs] at h
          | [_, _], _, h => simp [strs] at h
          | [_, _, _], _, h => simp [strs] at h
          | [_, _, _, _], _, h => simp [strs] at h
          | [_, _, _, _, _], _, h => simp [strs] at h
        have hrl : r.length ≤ 400000 := by simp at hll; omega
        have hsz : ∀ s ∈ s0 :: s1 :: s2 :: t0 :: t1 :: t2 :: r, s.size ≤ 400000 := fun s hs => by have := hls s hs; omega
        have hrd := read_ok s0 s1 s2 (t0 :: t1 :: t2 :: r) (by simp; omega) ⟨by have := hsz s0 (by simp); omega, by have := hsz s1 (by simp); omega, by have := hsz s2 (by simp); omega⟩ (.int .i64 0) .nils (.int .i64 0) .nils .nils .nils (.int .i64 0)
        (refine Or.inr ?_; (conv => whnf))
        refine hrd.mono ?_
        rintro _ _ (⟨n0, n1, n2, e0, e1, e2, rfl, rfl⟩ | ⟨hf, rfl, x1, x2, x3, x4, x5, x6, x7, rfl⟩)
        · conv => whnf
          refine rdw ?_; repeat' ((with_reducible apply tw) <;> intro _)
          refine ⟨by decide, by show (3 : Int) ≤ ((strs (s0 :: s1 :: s2 :: t0 :: t1 :: t2 :: r)).length : Nat); omega, Int.le_refl _, ?_⟩
          have e3 : ((strs (s0 :: s1 :: s2 :: t0 :: t1 :: t2 :: r)).take (((strs (s0 :: s1 :: s2 :: t0 :: t1 :: t2 :: r)).length : Nat) : Int).toNat).drop (3 : Int).toNat = strs (t0 :: t1 :: t2 :: r) := by
            rw [Int.toNat_natCast, List.take_length]; rfl
          have hls2 := lists_ok t0 t1 t2 r (by omega) ⟨by have := hsz t0 (by simp); omega, by have := hsz t1 (by simp); omega, by have := hsz t2 (by simp); omega⟩ (.int .i64 n0) .nils (.int .i64 n1) .nils .nils .nils (.int .i64 n2) .nils
          rw [← e3] at hls2
          conv => whnf
          refine rdw ?_; repeat' ((with_reducible apply tw) <;> intro _)
          (refine Or.inr ?_; (conv => whnf))
          refine hls2.mono ?_
          rintro _ _ (⟨l0, l1, l2, f0, f1, f2, rfl, rfl⟩ | ⟨hf, rfl, x1, x2, x3, x4, x5, x6, x7, x8, rfl⟩)
          · conv => whnf
            refine rdw ?_; repeat' ((with_reducible apply tw) <;> intro _)
            have hl0 : l0.length ≤ 400000 := by have h1 := listF_len f0; have h2 := hsz t0 (by simp); simp at h1; omega
            have hl1 : l1.length ≤ 400000 := by have h1 := listF_len f1; have h2 := hsz t1 (by simp); simp at h1; omega
            have hl2 : l2.length ≤ 400000 := by have h1 := listF_len f2; have h2 := hsz t2 (by simp); simp at h1; omega
            have hnl2 := nums_length l2
            refine ⟨by decide, ?_⟩
            intro z hz
            replace hz : z = ((l2.length % 2 : Nat) : Int) := by
              rw [hz]; show (((nums l2).length : Nat) : Int).tmod 2 = _; rw [hnl2, Int.tmod_eq_emod_of_nonneg (by omega)]; omega
            subst hz
            conv => whnf
            refine rdw ?_; repeat' ((with_reducible apply tw) <;> intro _)
            · rename_i hodd2
              refine into_of [2] ?_
              conv => whnf
              exact ⟨(), rfl, rfl, rfl, fun p hd _ _ => by
                obtain ⟨s0', s1', s2', t0', t1', t2', r', n0', n1', n2', l0', l1', l2', q1, q2, ⟨q3, q4, q5⟩, ⟨q6, q7, q8⟩, q9, q10⟩ := hd
                rw [hl] at q1; cases q1
                replace hodd2 : ¬ ((l2.length % 2 : Nat) : Int) = 0 := hodd2
                rw [f2] at q8; cases q8
                omega⟩
            rename_i h3
            replace h3 : ((l2.length % 2 : Nat) : Int) = 0 := h3
            refine aw_nilrowC [(1, 3, 88, 2), (1, 4, 83, 2)] rfl ?_
            refine loop_go ttOk zOk foOk (σ := Nat) (fun k => ([(0, .d (.sl 1 (u8s b))), (2, .ptr 0 0), (4, .ptr 1 0), (5, .ptr 2 0), (7, .d (.sl 1 (strs (s0 :: s1 :: s2 :: t0 :: t1 :: t2 :: r)))), (9, .d (.int .i64 ((2 * k : Nat) : Int)))], [.cells (pcs (.int .i64 0) .nils (.int .i64 0) .nils .nils .nils (.int .i64 0)), .cells [.d (.int .i64 n0), .d (lN l0), .d (.int .i64 n1), .arr 3, .arr 4, .d (lN l1), .d (.int .i64 n2)], .cells [.d (lN l2)], .row 88 2 [] false, .row 83 2 (accsD (accsOf (l2.take (2 * k)))) false]))
              (fun k => 2 * k ≤ l2.length) (fun k => l2.length - 2 * k) [0, 2, 4, 5, 7, 9] ?_ ?_
            · conv => whnf
              exact ⟨0, rfl, rfl, Nat.zero_le _⟩
            · intro k hk
              conv => whnf
              refine rdw ?_; repeat' ((with_reducible apply tw) <;> intro _)
              · rename_i h4
                replace h4 : ((2 * k : Nat) : Int) < (((nums l2).length : Nat) : Int) := h4
                refine Exists.elim (⟨_, List.getElem?_eq_getElem (by omega)⟩ : ∃ c, l2[2 * k]? = some c) fun x hx => ?_
                refine Exists.elim (⟨_, List.getElem?_eq_getElem (by omega)⟩ : ∃ c, l2[2 * k + 1]? = some c) fun y hy => ?_
                have hal : (accsD (accsOf (l2.take (2 * k)))).length ≤ 400000 := by rw [accsD_length]; have := accsOf_len (l2.take (2 * k)); simp at this; omega
                ((with_reducible refine draw_pl ttOk zOk foOk mixedOk pl12x10 ?_ ?_); (focus kernel_rfl); (conv => whnf))
                refine rdw ?_; repeat' ((with_reducible apply tw) <;> intro _)
                ((with_reducible apply rd_intro); (focus (intro K hK; (conv => whnf); exact ⟨by omega, [.int .i64 x], (by rw [Int.toNat_natCast]; exact nums_at hx), hK⟩)); (conv => whnf))
                refine rdw ?_; repeat' ((with_reducible apply tw) <;> intro _)
                ((with_reducible apply rd_intro); (focus (intro K hK; (conv => whnf); exact ⟨by omega, [.int .i64 y], (by rw [show (((2 * k : Nat) : Int) + 1).toNat = 2 * k + 1 by omega]; exact nums_at hy), hK⟩)); (conv => whnf))
                refine rdw ?_; repeat' ((with_reducible apply tw) <;> intro _)
                refine ⟨by show ((accsD (accsOf (l2.take (2 * k)))).length + 1) * 16 ≤ _; omega, ?_⟩
                conv => whnf
                refine rdw ?_; repeat' ((with_reducible apply tw) <;> intro _)
                refine ⟨k + 1, ?_, ?_, by omega, by omega⟩
                · show [_, _, _, _, _, _] = [_, _, _, _, _, (9, AV.d (.int .i64 ((2 * (k + 1) : Nat) : Int)))]
                  rw [show ((2 * (k + 1) : Nat) : Int) = ((2 * k : Nat) : Int) + 2 by omega]
                · rw [accsOf_snoc k l2 x y hx hy]
                  simp only [accsD, List.map_append]
                  rfl
              · rename_i h4
                replace h4 : ¬ ((2 * k : Nat) : Int) < (((nums l2).length : Nat) : Int) := h4
                rw [List.take_of_length_le (by omega)]
                clear hk h4
                have hre : r.length % 2 = 0 := by simp at h2; omega
                refine loop_go ttOk zOk foOk (σ := Nat) (fun k => ([(0, .d (.sl 1 (u8s b))), (2, .ptr 0 0), (4, .ptr 1 0), (7, .d (.sl 1 (strs (s0 :: s1 :: s2 :: t0 :: t1 :: t2 :: r)))), (10, .d (.int .i64 ((6 + 2 * k : Nat) : Int)))], [.cells (pcs (.int .i64 0) .nils (.int .i64 0) .nils .nils .nils (.int .i64 0)), .cells [.d (.int .i64 n0), .d (lN l0), .d (.int .i64 n1), .arr 2, .arr 3, .d (lN l1), .d (.int .i64 n2)], .row 88 2 (pairsD (prsOf (r.take (2 * k)))) false, .row 83 2 (accsD (accsOf l2)) false]))
                  (fun k => 2 * k ≤ r.length) (fun k => r.length - 2 * k) [0, 2, 4, 7, 10] ?_ ?_
                · conv => whnf
                  exact ⟨0, rfl, rfl, Nat.zero_le _⟩
                · clear k
                  intro k hk
                  have hsl2 : (((strs (s0 :: s1 :: s2 :: t0 :: t1 :: t2 :: r)).length : Nat) : Int) = r.length + 6 := by rw [strs_length]; simp only [List.length_cons]; omega
                  conv => whnf
                  refine rdw ?_; repeat' ((with_reducible apply tw) <;> intro _)
                  · rename_i h4
                    replace h4 : ((6 + 2 * k : Nat) : Int) < (((strs (s0 :: s1 :: s2 :: t0 :: t1 :: t2 :: r)).length : Nat) : Int) := h4
                    refine Exists.elim (⟨_, List.getElem?_eq_getElem (by omega)⟩ : ∃ c, r[2 * k]? = some c) fun x hx => ?_
                    refine Exists.elim (⟨_, List.getElem?_eq_getElem (by omega)⟩ : ∃ c, r[2 * k + 1]? = some c) fun y hy => ?_
                    have hx6 : (s0 :: s1 :: s2 :: t0 :: t1 :: t2 :: r)[6 + 2 * k]? = some x := by rw [show 6 + 2 * k = 2 * k + 1 + 1 + 1 + 1 + 1 + 1 by omega]; exact hx
                    have hy6 : (s0 :: s1 :: s2 :: t0 :: t1 :: t2 :: r)[6 + 2 * k + 1]? = some y := by rw [show 6 + 2 * k + 1 = 2 * k + 1 + 1 + 1 + 1 + 1 + 1 + 1 by omega]; exact hy
                    have hal : (pairsD (prsOf (r.take (2 * k)))).length ≤ 400000 := by rw [pairsD_length]; have := prsOf_len (r.take (2 * k)); simp at this; omega
                    ((with_reducible refine draw_pl ttOk zOk foOk mixedOk pl12x14 ?_ ?_); (focus kernel_rfl); (conv => whnf))
                    refine rdw ?_; repeat' ((with_reducible apply tw) <;> intro _)
                    ((with_reducible apply rd_intro); (focus (intro K hK; (conv => whnf); exact ⟨by omega, [.str x], (by rw [Int.toNat_natCast]; exact strs_at hx6), hK⟩)); (conv => whnf))
                    refine rdw ?_; repeat' ((with_reducible apply tw) <;> intro _)
                    ((with_reducible apply rd_intro); (focus (intro K hK; (conv => whnf); exact ⟨by omega, [.str y], (by rw [show (((6 + 2 * k : Nat) : Int) + 1).toNat = 6 + 2 * k + 1 by omega]; exact strs_at hy6), hK⟩)); (conv => whnf))
                    refine rdw ?_; repeat' ((with_reducible apply tw) <;> intro _)
                    refine ⟨by show ((pairsD (prsOf (r.take (2 * k)))).length + 1) * 32 ≤ _; omega, ?_⟩
                    conv => whnf
                    refine rdw ?_; repeat' ((with_reducible apply tw) <;> intro _)
                    refine ⟨k + 1, ?_, ?_, by omega, by omega⟩
                    · show [_, _, _, _, _] = [_, _, _, _, (10, AV.d (.int .i64 ((6 + 2 * (k + 1) : Nat) : Int)))]
                      rw [show ((6 + 2 * (k + 1) : Nat) : Int) = ((6 + 2 * k : Nat) : Int) + 2 by omega]
                    · rw [prsOf_snoc k r x y hx hy]
                      simp only [pairsD, List.map_append]
                      rfl
                  · rename_i h4
                    replace h4 : ¬ ((6 + 2 * k : Nat) : Int) < (((strs (s0 :: s1 :: s2 :: t0 :: t1 :: t2 :: r)).length : Nat) : Int) := h4
                    rw [List.take_of_length_le (by omega)]
                    clear hk h4
                    obtain ⟨p, hp⟩ : ∃ p : Pt, p = ⟨⟨n0, l0, n1⟩, prsOf r, accsOf l2, l1, n2⟩ := ⟨_, rfl⟩
                    have hfit : p.fit := by
                      rw [hp]
                      exact ⟨by show l0.length ≤ _; omega, by have := prsOf_len r; show (prsOf r).length ≤ _; omega, by have := accsOf_len l2; show (accsOf l2).length ≤ _; omega, by show l1.length ≤ _; omega⟩
                    have hdec : ∀ q : Pt, q = ⟨⟨n0, l0, n1⟩, prsOf r, accsOf l2, l1, n2⟩ → Dec b q := fun q hq => ⟨s0, s1, s2, t0, t1, t2, r, n0, n1, n2, l0, l1, l2, hl, hre, ⟨e0, e1, e2⟩, ⟨f0, f1, f2⟩, by omega, hq⟩
                    have hun : ∀ q, Dec b q → q = p := fun q hd => by
                      obtain ⟨s0', s1', s2', t0', t1', t2', r', n0', n1', n2', l0', l1', l2', q1, q2, ⟨q3, q4, q5⟩, ⟨q6, q7, q8⟩, q9, q10⟩ := hd
                      rw [hl] at q1; cases q1
                      rw [e0] at q3; cases q3
                      rw [e1] at q4; cases q4
                      rw [e2] at q5; cases q5
                      rw [f0] at q6; cases q6
                      rw [f1] at q7; cases q7
                      rw [f2] at q8; cases q8
                      rw [q10, hp]
                    have hby := bytes_ok p hfit
                    rw [hp] at hby
                    refine acalls_deep ?_
                    conv => whnf
                    refine hby.mono ?_
                    rintro _ _ ⟨rfl, rfl⟩
                    by_cases hpm : ptMay p
                    · have hbr : bytesR p = putR p.texts := if_pos hpm
                      rw [← hp, hbr]
                      rcases hpo : putO p.texts with _ | c
                      · rw [putR_none hpo]
                        conv => whnf
                        refine rdw ?_; repeat' ((with_reducible apply tw) <;> intro _)
                        refine aw_at (σ := Unit) (fun _ => ([(2, .ptr 0 0)], [.cells (pcs (.int .i64 0) .nils (.int .i64 0) .nils .nils .nils (.int .i64 0))])) (fun _ => True) [2] ?_ ?_
                        · conv => whnf
                          exact ⟨(), rfl, rfl, trivial⟩
                        · intro _ _
                          exact pass 0 _ rfl () ⟨rfl, fun q hd _ hq => by rw [hun q hd, hpo] at hq; cases hq⟩
                      · rw [putR_some hpo]
                        conv => whnf
                        refine rdw ?_; repeat' ((with_reducible apply tw) <;> intro _)
                        refine (equal_ok c b).mono ?_
                        rintro _ _ ⟨rfl, rfl⟩
                        conv => whnf
                        refine rdw ?_; repeat' ((with_reducible apply tw) <;> intro _)
                        · rename_i h9
                          replace h9 : c = b := h9
                          subst h9
                          subst hp
                          exact .inl ⟨_, hfit, hpm, hpo, hdec _ rfl, rfl, rfl⟩
                        · rename_i h9
                          replace h9 : ¬ c = b := h9
                          refine aw_at (σ := Unit) (fun _ => ([(2, .ptr 0 0)], [.cells (pcs (.int .i64 0) .nils (.int .i64 0) .nils .nils .nils (.int .i64 0))])) (fun _ => True) [2] ?_ ?_
                          · conv => whnf
                            exact ⟨(), rfl, rfl, trivial⟩
                          · intro _ _
                            exact pass 0 _ rfl () ⟨rfl, fun q hd _ hq => by rw [hun q hd, hpo] at hq; cases hq; exact h9 rfl⟩
                    · have hbr : bytesR p = .tup [.d (.sl 1 []), .d (.int .i64 1)] := if_neg hpm
                      rw [← hp, hbr]
                      conv => whnf
                      refine rdw ?_; repeat' ((with_reducible apply tw) <;> intro _)
                      refine aw_at (σ := Unit) (fun _ => ([(2, .ptr 0 0)], [.cells (pcs (.int .i64 0) .nils (.int .i64 0) .nils .nils .nils (.int .i64 0))])) (fun _ => True) [2] ?_ ?_
                      · conv => whnf
                        exact ⟨(), rfl, rfl, trivial⟩
                      · intro _ _
                        exact pass 0 _ rfl () ⟨rfl, fun q hd hq _ => hpm (by rw [← hun q hd]; exact hq)⟩
          · conv => whnf
            refine rdw ?_; repeat' ((with_reducible apply tw) <;> intro _)
            refine into_of [2] ?_
            conv => whnf
            exact ⟨(), rfl, rfl, rfl, fun p hd _ _ => by
              obtain ⟨s0', s1', s2', t0', t1', t2', r', n0', n1', n2', l0', l1', l2', q1, q2, ⟨q3, q4, q5⟩, ⟨q6, q7, q8⟩, q9, q10⟩ := hd
              rw [hl] at q1; cases q1
              rcases hf with h | h | h
              · rw [h] at q6; cases q6
              · rw [h] at q7; cases q7
              · rw [h] at q8; cases q8⟩
        · conv => whnf
          refine rdw ?_; repeat' ((with_reducible apply tw) <;> intro _)
          refine into_of [2] ?_
          conv => whnf
          exact ⟨(), rfl, rfl, rfl, fun p hd _ _ => by
            obtain ⟨s0', s1', s2', t0', t1', t2', r', n0', n1', n2', l0', l1', l2', q1, q2, ⟨q3, q4, q5⟩, ⟨q6, q7, q8⟩, q9, q10⟩ := hd
            rw [hl] at q1; cases q1
            rcases hf with h | h | h
            · rw [h] at q3; cases q3
            · rw [h] at q4; cases q4
            · rw [h] at q5; cases q5⟩
  · rintro av L (⟨p, h1, h2, h3, h4, rfl, rfl⟩ | ⟨hnp, rfl, rfl⟩)
    · conv => whnf
      exact ⟨.inl ⟨p, h1, h2, h3, h4, rfl⟩, rfl⟩
    · conv => whnf
      exact ⟨.inr ⟨hnp, rfl⟩, rfl⟩
theorem num24_ok (e : Int) : ACalls Tryz.prog 13 [.d (.int .i64 e)] [] (fun av L => av = .d (.int .i64 e) ∧ L = []) := by
  (refine acalls_go ttOk zOk foOk Tryz.func13 rfl Tryz.ntmps13 rfl false rfl ?_); (conv => whnf)
  exact ⟨rfl, rfl⟩
def p4 : Pt := ⟨⟨4, [], 0⟩, [], [], [], 0⟩
def b4 : List UInt8 := [6, 1, 4, 1, 0, 1, 0, 1, 0, 1, 0, 1, 0]
theorem put4 : putO p4.texts = some b4 := by kernel_rfl
theorem may4 : ptMay p4 :=
  ⟨⟨⟨by decide, by decide, by decide⟩, ⟨List.Pairwise.nil, fun x h => (by cases h)⟩, ⟨by decide, by decide⟩⟩,
   ⟨⟨⟨Nat.zero_le _, fun i p h => (by simp [p4] at h)⟩, ⟨Nat.zero_le _, fun i p h => (by simp [p4] at h)⟩⟩, fun x h => (by cases h), List.nodup_nil, ⟨by decide, by decide⟩⟩⟩
theorem dec4 : Dec b4 p4 := ⟨⟨#[4]⟩, ⟨#[0]⟩, ⟨#[0]⟩, ⟨#[0]⟩, ⟨#[0]⟩, ⟨#[0]⟩, [], 4, 0, 0, [], [], [], by kernel_rfl, rfl, ⟨by kernel_rfl, by kernel_rfl, by kernel_rfl⟩, ⟨by kernel_rfl, by kernel_rfl, by kernel_rfl⟩, rfl, rfl⟩
theorem dec_one {b : List UInt8} {p q : Pt} (hp : Dec b p) (hq : Dec b q) : p = q := by
  obtain ⟨s0, s1, s2, t0, t1, t2, r, n0, n1, n2, l0, l1, l2, hl, hre, ⟨e0, e1, e2⟩, ⟨f0, f1, f2⟩, he, rfl⟩ := hp
  obtain ⟨s0', s1', s2', t0', t1', t2', r', n0', n1', n2', l0', l1', l2', q1, q2, ⟨q3, q4, q5⟩, ⟨q6, q7, q8⟩, q9, rfl⟩ := hq
  rw [hl] at q1; cases q1
  rw [e0] at q3; cases q3
  rw [e1] at q4; cases q4
  rw [e2] at q5; cases q5
  rw [f0] at q6; cases q6
  rw [f1] at q7; cases q7
  rw [f2] at q8; cases q8
  rfl
theorem fit4 : p4.fit := ⟨Nat.zero_le _, Nat.zero_le _, Nat.zero_le _, Nat.zero_le _⟩
theorem bytes4 : ACalls Tryz.prog 11 [.agg [.d (.int .i64 4), .d .nils, .d (.int .i64 0), .d .nils, .d .nils, .d .nils, .d (.int .i64 0)]] [] (fun av L => av = .tup [.d (.sl 1 (u8s b4)), .d (.int .i64 0)] ∧ L = []) := by
  have h := bytes_ok p4 fit4
  rw [show bytesR p4 = .tup [.d (.sl 1 (u8s b4)), .d (.int .i64 0)] from (if_pos may4).trans (putR_some put4)] at h
  exact acalls_nw h (.cons (.agg (.cons (.refl _) (.cons (.nils 1 (by decide)) (.cons (.refl _) (.cons (.nils 2 (by decide)) (.cons (.nils 2 (by decide)) (.cons (.nils 1 (by decide)) (.cons (.refl _) .nil)))))))) .nil)
theorem wakes24 : ACalls Tryz.prog 16 [] [] (fun av L => av = .d (.bool true) ∧ L = []) := by
  have hp := parse_raw b4 (by decide)
  have h0 := num24_ok 0
  (refine acalls_go ttOk zOk foOk Tryz.func16 rfl Tryz.ntmps16 rfl false rfl ?_); (conv => whnf)
  refine rdz ?_; repeat' ((with_reducible apply tw) <;> intro _)
  refine bytes4.mono ?_
  rintro _ _ ⟨rfl, rfl⟩
  conv => whnf
  refine rdz ?_; repeat' ((with_reducible apply tw) <;> intro _)
  refine hp.mono ?_
  rintro _ _ ⟨⟨p, h1, h2, h3, h4, rfl⟩ | ⟨hn, rfl⟩, rfl⟩
  · obtain rfl := dec_one h4 dec4
    conv => whnf
    refine rdz ?_; repeat' ((with_reducible apply tw) <;> intro _)
    refine h0.mono ?_
    rintro _ _ ⟨rfl, rfl⟩
    conv => whnf
    refine rdz ?_; repeat' ((with_reducible apply tw) <;> intro _)
    refine h0.mono ?_
    rintro _ _ ⟨rfl, rfl⟩
    conv => whnf
    refine rdz ?_; repeat' ((with_reducible apply tw) <;> intro _)
    exact ⟨rfl, rfl⟩
  · exact (hn p4 dec4 may4 put4).elim
end Go.Proofs.YtmmngmnmghpfaaaGreat
