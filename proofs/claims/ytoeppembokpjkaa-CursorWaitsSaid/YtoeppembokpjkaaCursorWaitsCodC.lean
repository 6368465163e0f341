/- Part of the proof of CursorWaits: the contracts of the functions. -/
import Derived.Test.YtoeppembokpjkaaCursorWaitsCodB

set_option linter.unusedVariables false
set_option linter.unusedSimpArgs false
namespace Go.Proofs.Ytoeppembokpjkaa
open Go.Ab Go.RowKit Go.MapKept
attribute [local irreducible] ACalls AW ADraw Into fltB fnear
set_option maxRecDepth 100000
/-! ## the page's own: numbers, headers, certificates -/
theorem rMay_ok (n : Int) : ACalls Try.prog 31 [.d (.int .i64 n)] [] (fun av L => av = .d (.bool (isN n)) ∧ L = []) := by
  unfold isN
  refine acalls_go ttOk zOk foOk Try.func31 rfl Try.ntmps31 rfl false rfl ?_
  conv => whnf
  repeat' (first | ((with_reducible apply rd_intro); (focus (intro K hK; (conv => whnf); first | exact hK | (intro z hz; rw [wrapI (by omega)] at hz; subst hz; exact hK))); (conv => whnf)) | ((with_reducible apply gd_and); (focus ((conv => whnf) <;> first | rfl | (intro K hK; (conv => whnf); first | exact hK | (intro z hz; rw [wrapI (by omega)] at hz; subst hz; exact hK)))); (conv => whnf)) | ((with_reducible apply z_wrap); (focus omega); (conv => whnf)) | ((with_reducible refine mt_dec (fun _ => ?_) (fun _ => ?_)) <;> (conv => whnf)) | ((with_reducible refine mt_eq (fun _ => ?_) (fun _ => ?_)) <;> (conv => whnf)) | ((with_reducible refine mt_ne (fun _ => ?_) (fun _ => ?_)) <;> (conv => whnf)) | ((with_reducible refine mt_not (fun _ => ?_) (fun _ => ?_)) <;> (conv => whnf)) | ((with_reducible refine mt_any (fun _ => ?_) (fun _ => ?_)) <;> (conv => whnf)))
  · rename_i h1 h2
    refine ⟨by decide, ?_⟩
    intro z hz
    have hz2 := tmod_pos (by omega) hz
    clear hz
    subst hz2
    conv => whnf
    exact ⟨boolEq (by simp; omega), rfl⟩
  · rename_i h1 h2
    exact ⟨by rw [decide_eq_false (by omega)]; rfl, rfl⟩
  · rename_i h1
    exact ⟨by rw [decide_eq_false (by omega)]; rfl, rfl⟩
theorem rQuorum_ok (n : Int) (hn : isN n = true) : ACalls Try.prog 54 [.d (.int .i64 n)] [] (fun av L => av = .d (.int .i64 (2 * ((n - 1) / 3) + 1)) ∧ L = []) := by
  have hn' := of_decide_eq_true hn
  refine acalls_go ttOk zOk foOk Try.func54 rfl Try.ntmps54 rfl false rfl ?_
  conv => whnf
  refine ⟨by decide, ?_⟩
  intro z hz
  have : z = (n - 1) / 3 := by rw [hz, Int.tdiv_eq_ediv_of_nonneg (by omega), wrapI (by omega)]; omega
  clear hz
  subst this
  conv => whnf
  repeat' (first | ((with_reducible apply rd_intro); (focus (intro K hK; (conv => whnf); first | exact hK | (intro z hz; rw [wrapI (by omega)] at hz; subst hz; exact hK))); (conv => whnf)) | ((with_reducible apply gd_and); (focus ((conv => whnf) <;> first | rfl | (intro K hK; (conv => whnf); first | exact hK | (intro z hz; rw [wrapI (by omega)] at hz; subst hz; exact hK)))); (conv => whnf)) | ((with_reducible apply z_wrap); (focus omega); (conv => whnf)) | ((with_reducible refine mt_dec (fun _ => ?_) (fun _ => ?_)) <;> (conv => whnf)) | ((with_reducible refine mt_eq (fun _ => ?_) (fun _ => ?_)) <;> (conv => whnf)) | ((with_reducible refine mt_ne (fun _ => ?_) (fun _ => ?_)) <;> (conv => whnf)) | ((with_reducible refine mt_not (fun _ => ?_) (fun _ => ?_)) <;> (conv => whnf)) | ((with_reducible refine mt_any (fun _ => ?_) (fun _ => ?_)) <;> (conv => whnf)))
  exact ⟨rfl, rfl⟩
theorem rDigest_ok (n : Int) : ACalls Try.prog 51 [.d (.int .i64 n)] [] (fun av L => av = .d (.bool (decide (1 ≤ n ∧ n ≤ 65536))) ∧ L = []) := by
  refine acalls_go ttOk zOk foOk Try.func51 rfl Try.ntmps51 rfl false rfl ?_
  conv => whnf
  repeat' (first | ((with_reducible apply rd_intro); (focus (intro K hK; (conv => whnf); first | exact hK | (intro z hz; rw [wrapI (by omega)] at hz; subst hz; exact hK))); (conv => whnf)) | ((with_reducible apply gd_and); (focus ((conv => whnf) <;> first | rfl | (intro K hK; (conv => whnf); first | exact hK | (intro z hz; rw [wrapI (by omega)] at hz; subst hz; exact hK)))); (conv => whnf)) | ((with_reducible apply z_wrap); (focus omega); (conv => whnf)) | ((with_reducible refine mt_dec (fun _ => ?_) (fun _ => ?_)) <;> (conv => whnf)) | ((with_reducible refine mt_eq (fun _ => ?_) (fun _ => ?_)) <;> (conv => whnf)) | ((with_reducible refine mt_ne (fun _ => ?_) (fun _ => ?_)) <;> (conv => whnf)) | ((with_reducible refine mt_not (fun _ => ?_) (fun _ => ?_)) <;> (conv => whnf)) | ((with_reducible refine mt_any (fun _ => ?_) (fun _ => ?_)) <;> (conv => whnf)))
  · rename_i h1
    exact ⟨boolEq (by simp; omega), rfl⟩
  · rename_i h1
    exact ⟨by rw [decide_eq_false (by omega)]; rfl, rfl⟩
theorem rBefore_ok (r a s b : Int) : ACalls Try.prog 33 [.d (.int .i64 r), .d (.int .i64 a), .d (.int .i64 s), .d (.int .i64 b)] [] (fun av L => av = .d (.bool (decide (r < s ∨ r = s ∧ a < b))) ∧ L = []) := by
  refine acalls_go ttOk zOk foOk Try.func33 rfl Try.ntmps33 rfl false rfl ?_
  conv => whnf
  repeat' (first | ((with_reducible apply rd_intro); (focus (intro K hK; (conv => whnf); first | exact hK | (intro z hz; rw [wrapI (by omega)] at hz; subst hz; exact hK))); (conv => whnf)) | ((with_reducible apply gd_and); (focus ((conv => whnf) <;> first | rfl | (intro K hK; (conv => whnf); first | exact hK | (intro z hz; rw [wrapI (by omega)] at hz; subst hz; exact hK)))); (conv => whnf)) | ((with_reducible apply z_wrap); (focus omega); (conv => whnf)) | ((with_reducible refine mt_dec (fun _ => ?_) (fun _ => ?_)) <;> (conv => whnf)) | ((with_reducible refine mt_eq (fun _ => ?_) (fun _ => ?_)) <;> (conv => whnf)) | ((with_reducible refine mt_ne (fun _ => ?_) (fun _ => ?_)) <;> (conv => whnf)) | ((with_reducible refine mt_not (fun _ => ?_) (fun _ => ?_)) <;> (conv => whnf)) | ((with_reducible refine mt_any (fun _ => ?_) (fun _ => ?_)) <;> (conv => whnf)))
  · rename_i h1
    exact ⟨by rw [decide_eq_true (.inl h1 : r < s ∨ r = s ∧ a < b)]; rfl, rfl⟩
  · rename_i h1 h2
    exact ⟨boolEq (by simp; omega), rfl⟩
  · rename_i h1 h2
    exact ⟨by rw [decide_eq_false (by omega)]; rfl, rfl⟩
theorem rising_take_succ {l : List Int} {j : Nat} {y x : Int} (hy : l[j]? = some y) (hx : l[j + 1]? = some x) : risingI (l.take (j + 2)) ↔ risingI (l.take (j + 1)) ∧ y < x := by
  rw [show l.take (j + 2) = l.take (j + 1) ++ [x] by rw [List.take_add_one, hx]; rfl, rising_snoc]
  constructor
  · rintro ⟨h1, h2⟩
    exact ⟨h1, h2 y (by rw [List.take_add_one, hy]; simp)⟩
  · rintro ⟨h1, h2⟩
    exact ⟨h1, fun z hz => by have := rising_last h1 hy z hz; omega⟩
open Classical in
theorem rRising_ok (l : List Int) (hl : few l) : ACalls Try.prog 52 [.d (.sl 1 (nums l))] [] (fun av L => av = .d (.bool (decide (risingI l))) ∧ L = []) := by
  have hll := nums_length l
  unfold few at hl
  refine acalls_go ttOk zOk foOk Try.func52 rfl Try.ntmps52 rfl false rfl ?_
  conv => whnf
  refine loop_go ttOk zOk foOk (σ := Nat) (fun j => ([(0, .d (.sl 1 (nums l))), (3, .d (.int .i64 ((j : Int) + 1)))], [])) (fun j => j ≤ l.length ∧ risingI (l.take (j + 1))) (fun j => l.length - j) [0, 3] ?_ ?_
  · conv => whnf
    refine ⟨0, rfl, rfl, Nat.zero_le _, ?_⟩
    cases l with
    | nil => simp [risingI]
    | cons a t => simp [risingI]
  · rintro j ⟨hj, hr⟩
    conv => whnf
    repeat' (first | ((with_reducible apply rd_intro); (focus (intro K hK; (conv => whnf); first | exact hK | (intro z hz; rw [wrapI (by omega)] at hz; subst hz; exact hK))); (conv => whnf)) | ((with_reducible apply gd_and); (focus ((conv => whnf) <;> first | rfl | (intro K hK; (conv => whnf); first | exact hK | (intro z hz; rw [wrapI (by omega)] at hz; subst hz; exact hK)))); (conv => whnf)) | ((with_reducible apply z_wrap); (focus omega); (conv => whnf)) | ((with_reducible refine mt_dec (fun _ => ?_) (fun _ => ?_)) <;> (conv => whnf)) | ((with_reducible refine mt_eq (fun _ => ?_) (fun _ => ?_)) <;> (conv => whnf)) | ((with_reducible refine mt_ne (fun _ => ?_) (fun _ => ?_)) <;> (conv => whnf)) | ((with_reducible refine mt_not (fun _ => ?_) (fun _ => ?_)) <;> (conv => whnf)) | ((with_reducible refine mt_any (fun _ => ?_) (fun _ => ?_)) <;> (conv => whnf)))
    · rename_i h
      obtain ⟨y, hy⟩ : ∃ y, l[j]? = some y := ⟨_, List.getElem?_eq_getElem (by omega)⟩
      obtain ⟨x, hx⟩ : ∃ x, l[j + 1]? = some x := ⟨_, List.getElem?_eq_getElem (by omega)⟩
      have hs := rising_take_succ hy hx
      ((with_reducible refine draw_pl ttOk zOk foOk mixedOk pl52x4 ?_ ?_); (focus kernel_rfl); (conv => whnf))
      repeat' (first | ((with_reducible apply rd_intro); (focus (intro K hK; (conv => whnf); first | exact hK | (intro z hz; rw [wrapI (by omega)] at hz; subst hz; exact hK))); (conv => whnf)) | ((with_reducible apply gd_and); (focus ((conv => whnf) <;> first | rfl | (intro K hK; (conv => whnf); first | exact hK | (intro z hz; rw [wrapI (by omega)] at hz; subst hz; exact hK)))); (conv => whnf)) | ((with_reducible apply z_wrap); (focus omega); (conv => whnf)) | ((with_reducible refine mt_dec (fun _ => ?_) (fun _ => ?_)) <;> (conv => whnf)) | ((with_reducible refine mt_eq (fun _ => ?_) (fun _ => ?_)) <;> (conv => whnf)) | ((with_reducible refine mt_ne (fun _ => ?_) (fun _ => ?_)) <;> (conv => whnf)) | ((with_reducible refine mt_not (fun _ => ?_) (fun _ => ?_)) <;> (conv => whnf)) | ((with_reducible refine mt_any (fun _ => ?_) (fun _ => ?_)) <;> (conv => whnf)))
      ((with_reducible apply rd_intro); (focus (intro K hK; (conv => whnf); exact ⟨by omega, [.int .i64 x], (by rw [show ((j : Int) + 1).toNat = j + 1 by omega]; exact nums_at hx), hK⟩)); (conv => whnf))
      repeat' (first | ((with_reducible apply rd_intro); (focus (intro K hK; (conv => whnf); first | exact hK | (intro z hz; rw [wrapI (by omega)] at hz; subst hz; exact hK))); (conv => whnf)) | ((with_reducible apply gd_and); (focus ((conv => whnf) <;> first | rfl | (intro K hK; (conv => whnf); first | exact hK | (intro z hz; rw [wrapI (by omega)] at hz; subst hz; exact hK)))); (conv => whnf)) | ((with_reducible apply z_wrap); (focus omega); (conv => whnf)) | ((with_reducible refine mt_dec (fun _ => ?_) (fun _ => ?_)) <;> (conv => whnf)) | ((with_reducible refine mt_eq (fun _ => ?_) (fun _ => ?_)) <;> (conv => whnf)) | ((with_reducible refine mt_ne (fun _ => ?_) (fun _ => ?_)) <;> (conv => whnf)) | ((with_reducible refine mt_not (fun _ => ?_) (fun _ => ?_)) <;> (conv => whnf)) | ((with_reducible refine mt_any (fun _ => ?_) (fun _ => ?_)) <;> (conv => whnf)))
      ((with_reducible apply rd_intro); (focus (intro K hK; (conv => whnf); exact ⟨by omega, [.int .i64 y], (by rw [show ((j : Int) + 1 - 1).toNat = j by omega]; exact nums_at hy), hK⟩)); (conv => whnf))
      repeat' (first | ((with_reducible apply rd_intro); (focus (intro K hK; (conv => whnf); first | exact hK | (intro z hz; rw [wrapI (by omega)] at hz; subst hz; exact hK))); (conv => whnf)) | ((with_reducible apply gd_and); (focus ((conv => whnf) <;> first | rfl | (intro K hK; (conv => whnf); first | exact hK | (intro z hz; rw [wrapI (by omega)] at hz; subst hz; exact hK)))); (conv => whnf)) | ((with_reducible apply z_wrap); (focus omega); (conv => whnf)) | ((with_reducible refine mt_dec (fun _ => ?_) (fun _ => ?_)) <;> (conv => whnf)) | ((with_reducible refine mt_eq (fun _ => ?_) (fun _ => ?_)) <;> (conv => whnf)) | ((with_reducible refine mt_ne (fun _ => ?_) (fun _ => ?_)) <;> (conv => whnf)) | ((with_reducible refine mt_not (fun _ => ?_) (fun _ => ?_)) <;> (conv => whnf)) | ((with_reducible refine mt_any (fun _ => ?_) (fun _ => ?_)) <;> (conv => whnf)))
      · rename_i h2
        exact ⟨by rw [decide_eq_false (fun h3 => by have := (hs.1 (h3.sublist (List.take_sublist ..))).2; omega)]; rfl, rfl⟩
      · rename_i h2
        exact ⟨j + 1, rfl, rfl, ⟨by omega, hs.2 ⟨hr, by omega⟩⟩, by omega⟩
    · rename_i h
      rw [List.take_of_length_le (by omega)] at hr
      exact ⟨by rw [decide_eq_true hr]; rfl, rfl⟩
open Classical in
theorem rBetween_ok (l : List Int) (hl : few l) (a b : Int) : ACalls Try.prog 53 [.d (.sl 1 (nums l)), .d (.int .i64 a), .d (.int .i64 b)] [] (fun av L => av = .d (.bool (decide (∀ x ∈ l, a ≤ x ∧ x ≤ b))) ∧ L = []) := by
  have hll := nums_length l
  unfold few at hl
  refine acalls_go ttOk zOk foOk Try.func53 rfl Try.ntmps53 rfl false rfl ?_
  conv => whnf
  refine loop_go ttOk zOk foOk (σ := Nat) (fun j => ([(0, .d (.sl 1 (nums l))), (1, .d (.int .i64 a)), (2, .d (.int .i64 b)), (7, .d (.int .i64 j))], [])) (fun j => j ≤ l.length ∧ ∀ x ∈ l.take j, a ≤ x ∧ x ≤ b) (fun j => l.length - j) [0, 1, 2, 7] ?_ ?_
  · conv => whnf
    exact ⟨0, rfl, rfl, Nat.zero_le _, by simp⟩
  · rintro j ⟨hj, hr⟩
    conv => whnf
    repeat' (first | ((with_reducible apply rd_intro); (focus (intro K hK; (conv => whnf); first | exact hK | (intro z hz; rw [wrapI (by omega)] at hz; subst hz; exact hK))); (conv => whnf)) | ((with_reducible apply gd_and); (focus ((conv => whnf) <;> first | rfl | (intro K hK; (conv => whnf); first | exact hK | (intro z hz; rw [wrapI (by omega)] at hz; subst hz; exact hK)))); (conv => whnf)) | ((with_reducible apply z_wrap); (focus omega); (conv => whnf)) | ((with_reducible refine mt_dec (fun _ => ?_) (fun _ => ?_)) <;> (conv => whnf)) | ((with_reducible refine mt_eq (fun _ => ?_) (fun _ => ?_)) <;> (conv => whnf)) | ((with_reducible refine mt_ne (fun _ => ?_) (fun _ => ?_)) <;> (conv => whnf)) | ((with_reducible refine mt_not (fun _ => ?_) (fun _ => ?_)) <;> (conv => whnf)) | ((with_reducible refine mt_any (fun _ => ?_) (fun _ => ?_)) <;> (conv => whnf)))
    · rename_i h
      obtain ⟨x, hx⟩ : ∃ x, l[j]? = some x := ⟨_, List.getElem?_eq_getElem (by omega)⟩
      refine ⟨by omega, [.int .i64 x], nums_at hx, ?_⟩
      conv => whnf
      repeat' (first | ((with_reducible apply rd_intro); (focus (intro K hK; (conv => whnf); first | exact hK | (intro z hz; rw [wrapI (by omega)] at hz; subst hz; exact hK))); (conv => whnf)) | ((with_reducible apply gd_and); (focus ((conv => whnf) <;> first | rfl | (intro K hK; (conv => whnf); first | exact hK | (intro z hz; rw [wrapI (by omega)] at hz; subst hz; exact hK)))); (conv => whnf)) | ((with_reducible apply z_wrap); (focus omega); (conv => whnf)) | ((with_reducible refine mt_dec (fun _ => ?_) (fun _ => ?_)) <;> (conv => whnf)) | ((with_reducible refine mt_eq (fun _ => ?_) (fun _ => ?_)) <;> (conv => whnf)) | ((with_reducible refine mt_ne (fun _ => ?_) (fun _ => ?_)) <;> (conv => whnf)) | ((with_reducible refine mt_not (fun _ => ?_) (fun _ => ?_)) <;> (conv => whnf)) | ((with_reducible refine mt_any (fun _ => ?_) (fun _ => ?_)) <;> (conv => whnf)))
      · rename_i h2
        exact ⟨by rw [decide_eq_false (fun h3 => by have := h3 x (List.mem_of_getElem? hx); omega)]; rfl, rfl⟩
      · rename_i h2
        refine ⟨by omega, [.int .i64 x], nums_at hx, ?_⟩
        conv => whnf
        repeat' (first | ((with_reducible apply rd_intro); (focus (intro K hK; (conv => whnf); first | exact hK | (intro z hz; rw [wrapI (by omega)] at hz; subst hz; exact hK))); (conv => whnf)) | ((with_reducible apply gd_and); (focus ((conv => whnf) <;> first | rfl | (intro K hK; (conv => whnf); first | exact hK | (intro z hz; rw [wrapI (by omega)] at hz; subst hz; exact hK)))); (conv => whnf)) | ((with_reducible apply z_wrap); (focus omega); (conv => whnf)) | ((with_reducible refine mt_dec (fun _ => ?_) (fun _ => ?_)) <;> (conv => whnf)) | ((with_reducible refine mt_eq (fun _ => ?_) (fun _ => ?_)) <;> (conv => whnf)) | ((with_reducible refine mt_ne (fun _ => ?_) (fun _ => ?_)) <;> (conv => whnf)) | ((with_reducible refine mt_not (fun _ => ?_) (fun _ => ?_)) <;> (conv => whnf)) | ((with_reducible refine mt_any (fun _ => ?_) (fun _ => ?_)) <;> (conv => whnf)))
        · rename_i h3
          exact ⟨by rw [decide_eq_false (fun h4 => by have := h4 x (List.mem_of_getElem? hx); omega)]; rfl, rfl⟩
        · rename_i h3
          refine ⟨j + 1, rfl, rfl, ⟨by omega, fun z hz => ?_⟩, by omega⟩
          rw [List.take_add_one, hx] at hz
          rcases List.mem_append.1 hz with hz | hz
          · exact hr z hz
          · simp at hz; omega
    · rename_i h
      rw [List.take_of_length_le (by omega)] at hr
      exact ⟨by rw [decide_eq_true hr]; rfl, rfl⟩
open Classical in
theorem rDigests_ok (l : List Int) (hl : few l) : ACalls Try.prog 91 [.d (.sl 1 (nums l))] [] (fun av L => av = .d (.bool (decide (∀ x ∈ l, 1 ≤ x ∧ x ≤ 65536))) ∧ L = []) := by
  refine acalls_go ttOk zOk foOk Try.func91 rfl Try.ntmps91 rfl false rfl ?_
  conv => whnf
  refine (rBetween_ok l hl 1 65536).mono ?_
  rintro _ _ ⟨rfl, rfl⟩
  conv => whnf
  exact ⟨rfl, rfl⟩
open Classical in
theorem rdigests_ok (l : List Int) (hl : few l) (m : Int) : ACalls Try.prog 77 [.d (.sl 1 (nums l)), .d (.int .i64 m)] [] (fun av L => av = .d (.bool (decide ((l.length : Int) ≤ m ∧ riseB l 1 65536))) ∧ L = []) := by
  have hll := nums_length l
  refine acalls_go ttOk zOk foOk Try.func77 rfl Try.ntmps77 rfl false rfl ?_
  conv => whnf
  rw [hll]
  repeat' (first | ((with_reducible apply rd_intro); (focus (intro K hK; (conv => whnf); first | exact hK | (intro z hz; rw [wrapI (by omega)] at hz; subst hz; exact hK))); (conv => whnf)) | ((with_reducible apply gd_and); (focus ((conv => whnf) <;> first | rfl | (intro K hK; (conv => whnf); first | exact hK | (intro z hz; rw [wrapI (by omega)] at hz; subst hz; exact hK)))); (conv => whnf)) | ((with_reducible apply z_wrap); (focus omega); (conv => whnf)) | ((with_reducible refine mt_dec (fun _ => ?_) (fun _ => ?_)) <;> (conv => whnf)) | ((with_reducible refine mt_eq (fun _ => ?_) (fun _ => ?_)) <;> (conv => whnf)) | ((with_reducible refine mt_ne (fun _ => ?_) (fun _ => ?_)) <;> (conv => whnf)) | ((with_reducible refine mt_not (fun _ => ?_) (fun _ => ?_)) <;> (conv => whnf)) | ((with_reducible refine mt_any (fun _ => ?_) (fun _ => ?_)) <;> (conv => whnf)))
  · rename_i h1
    refine (rDigests_ok l hl).mono ?_
    rintro _ _ ⟨rfl, rfl⟩
    conv => whnf
    repeat' (first | ((with_reducible apply rd_intro); (focus (intro K hK; (conv => whnf); first | exact hK | (intro z hz; rw [wrapI (by omega)] at hz; subst hz; exact hK))); (conv => whnf)) | ((with_reducible apply gd_and); (focus ((conv => whnf) <;> first | rfl | (intro K hK; (conv => whnf); first | exact hK | (intro z hz; rw [wrapI (by omega)] at hz; subst hz; exact hK)))); (conv => whnf)) | ((with_reducible apply z_wrap); (focus omega); (conv => whnf)) | ((with_reducible refine mt_dec (fun _ => ?_) (fun _ => ?_)) <;> (conv => whnf)) | ((with_reducible refine mt_eq (fun _ => ?_) (fun _ => ?_)) <;> (conv => whnf)) | ((with_reducible refine mt_ne (fun _ => ?_) (fun _ => ?_)) <;> (conv => whnf)) | ((with_reducible refine mt_not (fun _ => ?_) (fun _ => ?_)) <;> (conv => whnf)) | ((with_reducible refine mt_any (fun _ => ?_) (fun _ => ?_)) <;> (conv => whnf)))
    · rename_i h2
      refine (rRising_ok l hl).mono ?_
      rintro _ _ ⟨rfl, rfl⟩
      conv => whnf
      exact ⟨boolEq (by simp only [decide_eq_true_iff]; exact ⟨fun h => ⟨h1, h, h2⟩, fun h => h.2.1⟩), rfl⟩
    · rename_i h2
      exact ⟨by rw [decide_eq_false (fun h => h2 h.2.2)]; rfl, rfl⟩
  · rename_i h1
    exact ⟨by rw [decide_eq_false (fun h => h1 h.1)]; rfl, rfl⟩
end Go.Proofs.Ytoeppembokpjkaa

namespace Go.Proofs.Ytoeppembokpjkaa
open Go.Ab Go.RowKit Go.MapKept
attribute [local irreducible] ACalls AW ADraw Into fltB fnear
set_option maxRecDepth 100000
def quo (n : Int) : Int := 2 * ((n - 1) / 3) + 1
/-- a header that may be -/
structure okHead (n : Int) (c : Cert) : Prop where
  isn : isN n = true
  author : 1 ≤ c.author ∧ c.author ≤ n
  round : 1 ≤ c.round ∧ c.round ≤ 1099511627776
  bats : (c.bats.length : Int) ≤ 8 ∧ riseB c.bats 1 65536
  pars : (c.pars.length : Int) ≤ n ∧ riseB c.pars 1 65536
  one : c.round = 1 → c.pars = []
  many : c.round ≠ 1 → (c.pars.length : Int) ≥ quo n
structure okCert (n : Int) (c : Cert) : Prop where
  head : okHead n c
  digest : 1 ≤ c.digest ∧ c.digest ≤ 65536
  sigs : riseB c.sigs 1 n
  enough : (c.sigs.length : Int) ≥ quo n
structure fewL (c : Cert) : Prop where
  bats : few c.bats
  pars : few c.pars
  sigs : few c.sigs
open Classical in
theorem rHeader_ok (c : Cert) (hf : fewL c) (n : Int) : ACalls Try.prog 50 [c.hav, .d (.int .i64 n)] [] (fun av L => av = .d (.bool (decide (okHead n c))) ∧ L = []) := by
  have hpl := nums_length c.pars
  refine acalls_go ttOk zOk foOk Try.func50 rfl Try.ntmps50 rfl false rfl ?_
  conv => whnf
  refine (rMay_ok n).mono ?_
  rintro _ _ ⟨rfl, rfl⟩
  cases hn : isN n with
  | false =>
    conv => whnf
    exact ⟨by rw [decide_eq_false (fun h => by have := h.isn; rw [hn] at this; cases this)]; rfl, rfl⟩
  | true =>
    have hn' := of_decide_eq_true hn
    conv => whnf
    repeat' (first | ((with_reducible apply rd_intro); (focus (intro K hK; (conv => whnf); first | exact hK | (intro z hz; rw [wrapI (by omega)] at hz; subst hz; exact hK))); (conv => whnf)) | ((with_reducible apply gd_and); (focus ((conv => whnf) <;> first | rfl | (intro K hK; (conv => whnf); first | exact hK | (intro z hz; rw [wrapI (by omega)] at hz; subst hz; exact hK)))); (conv => whnf)) | ((with_reducible apply z_wrap); (focus omega); (conv => whnf)) | ((with_reducible refine mt_dec (fun _ => ?_) (fun _ => ?_)) <;> (conv => whnf)) | ((with_reducible refine mt_eq (fun _ => ?_) (fun _ => ?_)) <;> (conv => whnf)) | ((with_reducible refine mt_ne (fun _ => ?_) (fun _ => ?_)) <;> (conv => whnf)) | ((with_reducible refine mt_not (fun _ => ?_) (fun _ => ?_)) <;> (conv => whnf)) | ((with_reducible refine mt_any (fun _ => ?_) (fun _ => ?_)) <;> (conv => whnf)))
    · rename_i h
      exact ⟨by rw [decide_eq_false (fun h1 => by have := h1.author; omega)]; rfl, rfl⟩
    · rename_i h1 h
      exact ⟨by rw [decide_eq_false (fun h1 => by have := h1.author; omega)]; rfl, rfl⟩
    · rename_i h1 h2 h
      exact ⟨by rw [decide_eq_false (fun h1 => by have := h1.round; omega)]; rfl, rfl⟩
    · rename_i h1 h2 h3 h
      exact ⟨by rw [decide_eq_false (fun h1 => by have := h1.round; omega)]; rfl, rfl⟩
    · rename_i h1 h2 h3 h4
      refine (rdigests_ok c.bats hf.bats 8).mono ?_
      rintro _ _ ⟨rfl, rfl⟩
      conv => whnf
      repeat' (first | ((with_reducible apply rd_intro); (focus (intro K hK; (conv => whnf); first | exact hK | (intro z hz; rw [wrapI (by omega)] at hz; subst hz; exact hK))); (conv => whnf)) | ((with_reducible apply gd_and); (focus ((conv => whnf) <;> first | rfl | (intro K hK; (conv => whnf); first | exact hK | (intro z hz; rw [wrapI (by omega)] at hz; subst hz; exact hK)))); (conv => whnf)) | ((with_reducible apply z_wrap); (focus omega); (conv => whnf)) | ((with_reducible refine mt_dec (fun _ => ?_) (fun _ => ?_)) <;> (conv => whnf)) | ((with_reducible refine mt_eq (fun _ => ?_) (fun _ => ?_)) <;> (conv => whnf)) | ((with_reducible refine mt_ne (fun _ => ?_) (fun _ => ?_)) <;> (conv => whnf)) | ((with_reducible refine mt_not (fun _ => ?_) (fun _ => ?_)) <;> (conv => whnf)) | ((with_reducible refine mt_any (fun _ => ?_) (fun _ => ?_)) <;> (conv => whnf)))
      · rename_i h5
        exact ⟨by rw [decide_eq_false (fun h => of_decide_eq_false h5 h.bats)]; rfl, rfl⟩
      · rename_i h5
        replace h5 := of_decide_eq_true h5
        refine (rdigests_ok c.pars hf.pars n).mono ?_
        rintro _ _ ⟨rfl, rfl⟩
        conv => whnf
        repeat' (first | ((with_reducible apply rd_intro); (focus (intro K hK; (conv => whnf); first | exact hK | (intro z hz; rw [wrapI (by omega)] at hz; subst hz; exact hK))); (conv => whnf)) | ((with_reducible apply gd_and); (focus ((conv => whnf) <;> first | rfl | (intro K hK; (conv => whnf); first | exact hK | (intro z hz; rw [wrapI (by omega)] at hz; subst hz; exact hK)))); (conv => whnf)) | ((with_reducible apply z_wrap); (focus omega); (conv => whnf)) | ((with_reducible refine mt_dec (fun _ => ?_) (fun _ => ?_)) <;> (conv => whnf)) | ((with_reducible refine mt_eq (fun _ => ?_) (fun _ => ?_)) <;> (conv => whnf)) | ((with_reducible refine mt_ne (fun _ => ?_) (fun _ => ?_)) <;> (conv => whnf)) | ((with_reducible refine mt_not (fun _ => ?_) (fun _ => ?_)) <;> (conv => whnf)) | ((with_reducible refine mt_any (fun _ => ?_) (fun _ => ?_)) <;> (conv => whnf)))
        · rename_i h6
          exact ⟨by rw [decide_eq_false (fun h => of_decide_eq_false h6 h.pars)]; rfl, rfl⟩
        · rename_i h6 h7
          replace h6 := of_decide_eq_true h6
          refine ⟨boolEq ?_, rfl⟩
          simp only [beq_iff_eq, decide_eq_true_iff, hpl]
          constructor
          · intro h8
            exact ⟨hn, by omega, by omega, h5, h6, fun _ => List.eq_nil_of_length_eq_zero (by omega), fun h => absurd h7 h⟩
          · intro h8
            rw [h8.one h7]; rfl
        · rename_i h6 h7
          replace h6 := of_decide_eq_true h6
          ((with_reducible refine draw_pl ttOk zOk foOk mixedOk pl50x5 ?_ ?_); (focus kernel_rfl); (conv => whnf))
          repeat' (first | ((with_reducible apply rd_intro); (focus (intro K hK; (conv => whnf); first | exact hK | (intro z hz; rw [wrapI (by omega)] at hz; subst hz; exact hK))); (conv => whnf)) | ((with_reducible apply gd_and); (focus ((conv => whnf) <;> first | rfl | (intro K hK; (conv => whnf); first | exact hK | (intro z hz; rw [wrapI (by omega)] at hz; subst hz; exact hK)))); (conv => whnf)) | ((with_reducible apply z_wrap); (focus omega); (conv => whnf)) | ((with_reducible refine mt_dec (fun _ => ?_) (fun _ => ?_)) <;> (conv => whnf)) | ((with_reducible refine mt_eq (fun _ => ?_) (fun _ => ?_)) <;> (conv => whnf)) | ((with_reducible refine mt_ne (fun _ => ?_) (fun _ => ?_)) <;> (conv => whnf)) | ((with_reducible refine mt_not (fun _ => ?_) (fun _ => ?_)) <;> (conv => whnf)) | ((with_reducible refine mt_any (fun _ => ?_) (fun _ => ?_)) <;> (conv => whnf)))
          refine (rQuorum_ok n hn).mono ?_
          rintro _ _ ⟨rfl, rfl⟩
          conv => whnf
          repeat' (first | ((with_reducible apply rd_intro); (focus (intro K hK; (conv => whnf); first | exact hK | (intro z hz; rw [wrapI (by omega)] at hz; subst hz; exact hK))); (conv => whnf)) | ((with_reducible apply gd_and); (focus ((conv => whnf) <;> first | rfl | (intro K hK; (conv => whnf); first | exact hK | (intro z hz; rw [wrapI (by omega)] at hz; subst hz; exact hK)))); (conv => whnf)) | ((with_reducible apply z_wrap); (focus omega); (conv => whnf)) | ((with_reducible refine mt_dec (fun _ => ?_) (fun _ => ?_)) <;> (conv => whnf)) | ((with_reducible refine mt_eq (fun _ => ?_) (fun _ => ?_)) <;> (conv => whnf)) | ((with_reducible refine mt_ne (fun _ => ?_) (fun _ => ?_)) <;> (conv => whnf)) | ((with_reducible refine mt_not (fun _ => ?_) (fun _ => ?_)) <;> (conv => whnf)) | ((with_reducible refine mt_any (fun _ => ?_) (fun _ => ?_)) <;> (conv => whnf)))
          refine ⟨boolEq ?_, rfl⟩
          simp only [decide_eq_true_iff, hpl]
          constructor
          · intro h8
            exact ⟨hn, by omega, by omega, h5, h6, fun h => absurd h h7, fun _ => h8⟩
          · intro h8
            exact h8.many h7
open Classical in
theorem rCert_ok (c : Cert) (hf : fewL c) (n : Int) : ACalls Try.prog 32 [c.av, .d (.int .i64 n)] [] (fun av L => av = .d (.bool (decide (okCert n c))) ∧ L = []) := by
  have hsl := nums_length c.sigs
  refine acalls_go ttOk zOk foOk Try.func32 rfl Try.ntmps32 rfl false rfl ?_
  conv => whnf
  ((with_reducible refine draw_pl ttOk zOk foOk mixedOk pl32x1 ?_ ?_); (focus kernel_rfl); (conv => whnf))
  repeat' (first | ((with_reducible apply rd_intro); (focus (intro K hK; (conv => whnf); first | exact hK | (intro z hz; rw [wrapI (by omega)] at hz; subst hz; exact hK))); (conv => whnf)) | ((with_reducible apply gd_and); (focus ((conv => whnf) <;> first | rfl | (intro K hK; (conv => whnf); first | exact hK | (intro z hz; rw [wrapI (by omega)] at hz; subst hz; exact hK)))); (conv => whnf)) | ((with_reducible apply z_wrap); (focus omega); (conv => whnf)) | ((with_reducible refine mt_dec (fun _ => ?_) (fun _ => ?_)) <;> (conv => whnf)) | ((with_reducible refine mt_eq (fun _ => ?_) (fun _ => ?_)) <;> (conv => whnf)) | ((with_reducible refine mt_ne (fun _ => ?_) (fun _ => ?_)) <;> (conv => whnf)) | ((with_reducible refine mt_not (fun _ => ?_) (fun _ => ?_)) <;> (conv => whnf)) | ((with_reducible refine mt_any (fun _ => ?_) (fun _ => ?_)) <;> (conv => whnf)))
  refine (rHeader_ok c hf n).mono ?_
  rintro _ _ ⟨rfl, rfl⟩
  conv => whnf
  repeat' (first | ((with_reducible apply rd_intro); (focus (intro K hK; (conv => whnf); first | exact hK | (intro z hz; rw [wrapI (by omega)] at hz; subst hz; exact hK))); (conv => whnf)) | ((with_reducible apply gd_and); (focus ((conv => whnf) <;> first | rfl | (intro K hK; (conv => whnf); first | exact hK | (intro z hz; rw [wrapI (by omega)] at hz; subst hz; exact hK)))); (conv => whnf)) | ((with_reducible apply z_wrap); (focus omega); (conv => whnf)) | ((with_reducible refine mt_dec (fun _ => ?_) (fun _ => ?_)) <;> (conv => whnf)) | ((with_reducible refine mt_eq (fun _ => ?_) (fun _ => ?_)) <;> (conv => whnf)) | ((with_reducible refine mt_ne (fun _ => ?_) (fun _ => ?_)) <;> (conv => whnf)) | ((with_reducible refine mt_not (fun _ => ?_) (fun _ => ?_)) <;> (conv => whnf)) | ((with_reducible refine mt_any (fun _ => ?_) (fun _ => ?_)) <;> (conv => whnf)))
  · rename_i h1
    refine (rDigest_ok c.digest).mono ?_
    rintro _ _ ⟨rfl, rfl⟩
    conv => whnf
    repeat' (first | ((with_reducible apply rd_intro); (focus (intro K hK; (conv => whnf); first | exact hK | (intro z hz; rw [wrapI (by omega)] at hz; subst hz; exact hK))); (conv => whnf)) | ((with_reducible apply gd_and); (focus ((conv => whnf) <;> first | rfl | (intro K hK; (conv => whnf); first | exact hK | (intro z hz; rw [wrapI (by omega)] at hz; subst hz; exact hK)))); (conv => whnf)) | ((with_reducible apply z_wrap); (focus omega); (conv => whnf)) | ((with_reducible refine mt_dec (fun _ => ?_) (fun _ => ?_)) <;> (conv => whnf)) | ((with_reducible refine mt_eq (fun _ => ?_) (fun _ => ?_)) <;> (conv => whnf)) | ((with_reducible refine mt_ne (fun _ => ?_) (fun _ => ?_)) <;> (conv => whnf)) | ((with_reducible refine mt_not (fun _ => ?_) (fun _ => ?_)) <;> (conv => whnf)) | ((with_reducible refine mt_any (fun _ => ?_) (fun _ => ?_)) <;> (conv => whnf)))
    · rename_i h2
      refine (rRising_ok c.sigs hf.sigs).mono ?_
      rintro _ _ ⟨rfl, rfl⟩
      conv => whnf
      repeat' (first | ((with_reducible apply rd_intro); (focus (intro K hK; (conv => whnf); first | exact hK | (intro z hz; rw [wrapI (by omega)] at hz; subst hz; exact hK))); (conv => whnf)) | ((with_reducible apply gd_and); (focus ((conv => whnf) <;> first | rfl | (intro K hK; (conv => whnf); first | exact hK | (intro z hz; rw [wrapI (by omega)] at hz; subst hz; exact hK)))); (conv => whnf)) | ((with_reducible apply z_wrap); (focus omega); (conv => whnf)) | ((with_reducible refine mt_dec (fun _ => ?_) (fun _ => ?_)) <;> (conv => whnf)) | ((with_reducible refine mt_eq (fun _ => ?_) (fun _ => ?_)) <;> (conv => whnf)) | ((with_reducible refine mt_ne (fun _ => ?_) (fun _ => ?_)) <;> (conv => whnf)) | ((with_reducible refine mt_not (fun _ => ?_) (fun _ => ?_)) <;> (conv => whnf)) | ((with_reducible refine mt_any (fun _ => ?_) (fun _ => ?_)) <;> (conv => whnf)))
      · rename_i h3
        refine (rBetween_ok c.sigs hf.sigs 1 n).mono ?_
        rintro _ _ ⟨rfl, rfl⟩
        conv => whnf
        repeat' (first | ((with_reducible apply rd_intro); (focus (intro K hK; (conv => whnf); first | exact hK | (intro z hz; rw [wrapI (by omega)] at hz; subst hz; exact hK))); (conv => whnf)) | ((with_reducible apply gd_and); (focus ((conv => whnf) <;> first | rfl | (intro K hK; (conv => whnf); first | exact hK | (intro z hz; rw [wrapI (by omega)] at hz; subst hz; exact hK)))); (conv => whnf)) | ((with_reducible apply z_wrap); (focus omega); (conv => whnf)) | ((with_reducible refine mt_dec (fun _ => ?_) (fun _ => ?_)) <;> (conv => whnf)) | ((with_reducible refine mt_eq (fun _ => ?_) (fun _ => ?_)) <;> (conv => whnf)) | ((with_reducible refine mt_ne (fun _ => ?_) (fun _ => ?_)) <;> (conv => whnf)) | ((with_reducible refine mt_not (fun _ => ?_) (fun _ => ?_)) <;> (conv => whnf)) | ((with_reducible refine mt_any (fun _ => ?_) (fun _ => ?_)) <;> (conv => whnf)))
        · rename_i h4
          refine (rQuorum_ok n h1.isn).mono ?_
          rintro _ _ ⟨rfl, rfl⟩
          conv => whnf
          repeat' (first | ((with_reducible apply rd_intro); (focus (intro K hK; (conv => whnf); first | exact hK | (intro z hz; rw [wrapI (by omega)] at hz; subst hz; exact hK))); (conv => whnf)) | ((with_reducible apply gd_and); (focus ((conv => whnf) <;> first | rfl | (intro K hK; (conv => whnf); first | exact hK | (intro z hz; rw [wrapI (by omega)] at hz; subst hz; exact hK)))); (conv => whnf)) | ((with_reducible apply z_wrap); (focus omega); (conv => whnf)) | ((with_reducible refine mt_dec (fun _ => ?_) (fun _ => ?_)) <;> (conv => whnf)) | ((with_reducible refine mt_eq (fun _ => ?_) (fun _ => ?_)) <;> (conv => whnf)) | ((with_reducible refine mt_ne (fun _ => ?_) (fun _ => ?_)) <;> (conv => whnf)) | ((with_reducible refine mt_not (fun _ => ?_) (fun _ => ?_)) <;> (conv => whnf)) | ((with_reducible refine mt_any (fun _ => ?_) (fun _ => ?_)) <;> (conv => whnf)))
          refine ⟨boolEq ?_, rfl⟩
          simp only [decide_eq_true_iff, hsl]
          exact ⟨fun h => ⟨h1, h2, ⟨h3, h4⟩, h⟩, fun h => h.enough⟩
        · rename_i h4
          exact ⟨by rw [decide_eq_false (fun h => h4 h.sigs.2)]; rfl, rfl⟩
      · rename_i h3
        exact ⟨by rw [decide_eq_false (fun h => h3 h.sigs.1)]; rfl, rfl⟩
    · rename_i h2
      exact ⟨by rw [decide_eq_false (fun h => h2 h.digest)]; rfl, rfl⟩
  · rename_i h1
    exact ⟨by rw [decide_eq_false (fun h => h1 h.head)]; rfl, rfl⟩
end Go.Proofs.Ytoeppembokpjkaa

namespace Go.Proofs.Ytoeppembokpjkaa
open Go.Ab Go.RowKit Go.MapKept
attribute [local irreducible] ACalls AW ADraw Into fltB fnear
set_option maxRecDepth 100000
structure okForm (n : Int) (c : Cert) : Prop where
  author : 1 ≤ c.author ∧ c.author ≤ n
  round : 1 ≤ c.round ∧ c.round ≤ 1099511627776
  bats : (c.bats.length : Int) ≤ 8 ∧ riseB c.bats 1 65536
  pars : (c.pars.length : Int) ≤ n ∧ riseB c.pars 1 65536
  one : c.round = 1 → c.pars = []
open Classical in
theorem form_ok (c : Cert) (hf : fewL c) (n : Int) : ACalls Try.prog 92 [c.hav, .d (.int .i64 n)] [] (fun av L => av = .d (.bool (decide (okForm n c))) ∧ L = []) := by
  have hpl := nums_length c.pars
  have hbl := nums_length c.bats
  refine acalls_go ttOk zOk foOk Try.func92 rfl Try.ntmps92 rfl false rfl ?_
  conv => whnf
  repeat' (first | ((with_reducible apply rd_intro); (focus (intro K hK; (conv => whnf); first | exact hK | (intro z hz; rw [wrapI (by omega)] at hz; subst hz; exact hK))); (conv => whnf)) | ((with_reducible apply gd_and); (focus ((conv => whnf) <;> first | rfl | (intro K hK; (conv => whnf); first | exact hK | (intro z hz; rw [wrapI (by omega)] at hz; subst hz; exact hK)))); (conv => whnf)) | ((with_reducible apply z_wrap); (focus omega); (conv => whnf)) | ((with_reducible refine mt_dec (fun _ => ?_) (fun _ => ?_)) <;> (conv => whnf)) | ((with_reducible refine mt_eq (fun _ => ?_) (fun _ => ?_)) <;> (conv => whnf)) | ((with_reducible refine mt_ne (fun _ => ?_) (fun _ => ?_)) <;> (conv => whnf)) | ((with_reducible refine mt_not (fun _ => ?_) (fun _ => ?_)) <;> (conv => whnf)) | ((with_reducible refine mt_any (fun _ => ?_) (fun _ => ?_)) <;> (conv => whnf)))
  · rename_i h
    exact ⟨by rw [decide_eq_false (fun h1 => by have := h1.author; omega)]; rfl, rfl⟩
  · rename_i h1 h
    exact ⟨by rw [decide_eq_false (fun h1 => by have := h1.author; omega)]; rfl, rfl⟩
  · rename_i h1 h2 h
    exact ⟨by rw [decide_eq_false (fun h1 => by have := h1.round; omega)]; rfl, rfl⟩
  · rename_i h1 h2 h3 h
    exact ⟨by rw [decide_eq_false (fun h1 => by have := h1.round; omega)]; rfl, rfl⟩
  · rename_i h1 h2 h3 h4 h
    exact ⟨by rw [decide_eq_false (fun h1 => by have := h1.bats.1; omega)]; rfl, rfl⟩
  · rename_i h1 h2 h3 h4 h5
    refine (digests_ok c.bats hf.bats).mono ?_
    rintro _ _ ⟨rfl, rfl⟩
    conv => whnf
    repeat' (first | ((with_reducible apply rd_intro); (focus (intro K hK; (conv => whnf); first | exact hK | (intro z hz; rw [wrapI (by omega)] at hz; subst hz; exact hK))); (conv => whnf)) | ((with_reducible apply gd_and); (focus ((conv => whnf) <;> first | rfl | (intro K hK; (conv => whnf); first | exact hK | (intro z hz; rw [wrapI (by omega)] at hz; subst hz; exact hK)))); (conv => whnf)) | ((with_reducible apply z_wrap); (focus omega); (conv => whnf)) | ((with_reducible refine mt_dec (fun _ => ?_) (fun _ => ?_)) <;> (conv => whnf)) | ((with_reducible refine mt_eq (fun _ => ?_) (fun _ => ?_)) <;> (conv => whnf)) | ((with_reducible refine mt_ne (fun _ => ?_) (fun _ => ?_)) <;> (conv => whnf)) | ((with_reducible refine mt_not (fun _ => ?_) (fun _ => ?_)) <;> (conv => whnf)) | ((with_reducible refine mt_any (fun _ => ?_) (fun _ => ?_)) <;> (conv => whnf)))
    · rename_i h6
      refine (digests_ok c.pars hf.pars).mono ?_
      rintro _ _ ⟨rfl, rfl⟩
      conv => whnf
      repeat' (first | ((with_reducible apply rd_intro); (focus (intro K hK; (conv => whnf); first | exact hK | (intro z hz; rw [wrapI (by omega)] at hz; subst hz; exact hK))); (conv => whnf)) | ((with_reducible apply gd_and); (focus ((conv => whnf) <;> first | rfl | (intro K hK; (conv => whnf); first | exact hK | (intro z hz; rw [wrapI (by omega)] at hz; subst hz; exact hK)))); (conv => whnf)) | ((with_reducible apply z_wrap); (focus omega); (conv => whnf)) | ((with_reducible refine mt_dec (fun _ => ?_) (fun _ => ?_)) <;> (conv => whnf)) | ((with_reducible refine mt_eq (fun _ => ?_) (fun _ => ?_)) <;> (conv => whnf)) | ((with_reducible refine mt_ne (fun _ => ?_) (fun _ => ?_)) <;> (conv => whnf)) | ((with_reducible refine mt_not (fun _ => ?_) (fun _ => ?_)) <;> (conv => whnf)) | ((with_reducible refine mt_any (fun _ => ?_) (fun _ => ?_)) <;> (conv => whnf)))
      · rename_i h7 h8 h9
        exact ⟨by rw [decide_eq_true ⟨by omega, by omega, ⟨by omega, h6⟩, ⟨by omega, h7⟩, fun h => absurd h (by omega)⟩]; rfl, rfl⟩
      · rename_i h7 h8 h9
        refine ⟨boolEq ?_, rfl⟩
        simp only [beq_iff_eq, decide_eq_true_iff, hpl]
        exact ⟨fun h => ⟨by omega, by omega, ⟨by omega, h6⟩, ⟨by omega, h7⟩, fun _ => List.eq_nil_of_length_eq_zero (by omega)⟩, fun h => by rw [h.one (by omega)]; rfl⟩
      · rename_i h7 h8
        exact ⟨by rw [decide_eq_false (fun h => by have := h.pars.1; omega)]; rfl, rfl⟩
      · rename_i h7
        exact ⟨by rw [decide_eq_false (fun h => h7 h.pars.2)]; rfl, rfl⟩
    · rename_i h6
      exact ⟨by rw [decide_eq_false (fun h => h6 h.bats.2)]; rfl, rfl⟩
open Classical in
theorem hMay_ok (c : Cert) (hf : fewL c) (n : Int) : ACalls Try.prog 78 [c.hav, .d (.int .i64 n)] [] (fun av L => av = .d (.bool (decide (okHead n c))) ∧ L = []) := by
  have hpl := nums_length c.pars
  refine acalls_go ttOk zOk foOk Try.func78 rfl Try.ntmps78 rfl false rfl ?_
  conv => whnf
  ((with_reducible refine draw_pl ttOk zOk foOk mixedOk pl78x1 ?_ ?_); (focus kernel_rfl); (conv => whnf))
  repeat' (first | ((with_reducible apply rd_intro); (focus (intro K hK; (conv => whnf); first | exact hK | (intro z hz; rw [wrapI (by omega)] at hz; subst hz; exact hK))); (conv => whnf)) | ((with_reducible apply gd_and); (focus ((conv => whnf) <;> first | rfl | (intro K hK; (conv => whnf); first | exact hK | (intro z hz; rw [wrapI (by omega)] at hz; subst hz; exact hK)))); (conv => whnf)) | ((with_reducible apply z_wrap); (focus omega); (conv => whnf)) | ((with_reducible refine mt_dec (fun _ => ?_) (fun _ => ?_)) <;> (conv => whnf)) | ((with_reducible refine mt_eq (fun _ => ?_) (fun _ => ?_)) <;> (conv => whnf)) | ((with_reducible refine mt_ne (fun _ => ?_) (fun _ => ?_)) <;> (conv => whnf)) | ((with_reducible refine mt_not (fun _ => ?_) (fun _ => ?_)) <;> (conv => whnf)) | ((with_reducible refine mt_any (fun _ => ?_) (fun _ => ?_)) <;> (conv => whnf)))
  refine (is_ok n).mono ?_
  rintro _ _ ⟨rfl, rfl⟩
  obtain ⟨b, hb⟩ : ∃ b, isN n = b := ⟨_, rfl⟩
  rw [hb]
  conv => whnf
  repeat' (first | ((with_reducible apply rd_intro); (focus (intro K hK; (conv => whnf); first | exact hK | (intro z hz; rw [wrapI (by omega)] at hz; subst hz; exact hK))); (conv => whnf)) | ((with_reducible apply gd_and); (focus ((conv => whnf) <;> first | rfl | (intro K hK; (conv => whnf); first | exact hK | (intro z hz; rw [wrapI (by omega)] at hz; subst hz; exact hK)))); (conv => whnf)) | ((with_reducible apply z_wrap); (focus omega); (conv => whnf)) | ((with_reducible refine mt_dec (fun _ => ?_) (fun _ => ?_)) <;> (conv => whnf)) | ((with_reducible refine mt_eq (fun _ => ?_) (fun _ => ?_)) <;> (conv => whnf)) | ((with_reducible refine mt_ne (fun _ => ?_) (fun _ => ?_)) <;> (conv => whnf)) | ((with_reducible refine mt_not (fun _ => ?_) (fun _ => ?_)) <;> (conv => whnf)) | ((with_reducible refine mt_any (fun _ => ?_) (fun _ => ?_)) <;> (conv => whnf)))
  · rename_i h1
    rw [h1] at hb
    have hn' := of_decide_eq_true hb
    refine (form_ok c hf n).mono ?_
    rintro _ _ ⟨rfl, rfl⟩
    conv => whnf
    repeat' (first | ((with_reducible apply rd_intro); (focus (intro K hK; (conv => whnf); first | exact hK | (intro z hz; rw [wrapI (by omega)] at hz; subst hz; exact hK))); (conv => whnf)) | ((with_reducible apply gd_and); (focus ((conv => whnf) <;> first | rfl | (intro K hK; (conv => whnf); first | exact hK | (intro z hz; rw [wrapI (by omega)] at hz; subst hz; exact hK)))); (conv => whnf)) | ((with_reducible apply z_wrap); (focus omega); (conv => whnf)) | ((with_reducible refine mt_dec (fun _ => ?_) (fun _ => ?_)) <;> (conv => whnf)) | ((with_reducible refine mt_eq (fun _ => ?_) (fun _ => ?_)) <;> (conv => whnf)) | ((with_reducible refine mt_ne (fun _ => ?_) (fun _ => ?_)) <;> (conv => whnf)) | ((with_reducible refine mt_not (fun _ => ?_) (fun _ => ?_)) <;> (conv => whnf)) | ((with_reducible refine mt_any (fun _ => ?_) (fun _ => ?_)) <;> (conv => whnf)))
    · rename_i h2 h3
      exact ⟨by rw [decide_eq_true ⟨hb, h2.author, h2.round, h2.bats, h2.pars, h2.one, fun h => absurd h3 h⟩]; rfl, rfl⟩
    · rename_i h2 h3
      refine (q_ok n ⟨by omega, by omega⟩).mono ?_
      rintro _ _ ⟨rfl, rfl⟩
      conv => whnf
      repeat' (first | ((with_reducible apply rd_intro); (focus (intro K hK; (conv => whnf); first | exact hK | (intro z hz; rw [wrapI (by omega)] at hz; subst hz; exact hK))); (conv => whnf)) | ((with_reducible apply gd_and); (focus ((conv => whnf) <;> first | rfl | (intro K hK; (conv => whnf); first | exact hK | (intro z hz; rw [wrapI (by omega)] at hz; subst hz; exact hK)))); (conv => whnf)) | ((with_reducible apply z_wrap); (focus omega); (conv => whnf)) | ((with_reducible refine mt_dec (fun _ => ?_) (fun _ => ?_)) <;> (conv => whnf)) | ((with_reducible refine mt_eq (fun _ => ?_) (fun _ => ?_)) <;> (conv => whnf)) | ((with_reducible refine mt_ne (fun _ => ?_) (fun _ => ?_)) <;> (conv => whnf)) | ((with_reducible refine mt_not (fun _ => ?_) (fun _ => ?_)) <;> (conv => whnf)) | ((with_reducible refine mt_any (fun _ => ?_) (fun _ => ?_)) <;> (conv => whnf)))
      refine ⟨boolEq ?_, rfl⟩
      simp only [decide_eq_true_iff, hpl]
      exact ⟨fun h => ⟨hb, h2.author, h2.round, h2.bats, h2.pars, h2.one, fun _ => h⟩, fun h => h.many h3⟩
    · rename_i h2
      exact ⟨by rw [decide_eq_false (fun h => h2 ⟨h.author, h.round, h.bats, h.pars, h.one⟩)]; rfl, rfl⟩
  · rename_i h1
    rw [h1] at hb
    exact ⟨by rw [decide_eq_false (fun h => by have := h.isn; rw [hb] at this; cases this)]; rfl, rfl⟩
open Classical in
theorem mayCert_ok (c : Cert) (hf : fewL c) (n : Int) : ACalls Try.prog 56 [c.av, .d (.int .i64 n)] [] (fun av L => av = .d (.bool (decide (okCert n c))) ∧ L = []) := by
  have hsl := nums_length c.sigs
  refine acalls_go ttOk zOk foOk Try.func56 rfl Try.ntmps56 rfl false rfl ?_
  conv => whnf
  ((with_reducible refine draw_pl ttOk zOk foOk mixedOk pl56x1 ?_ ?_); (focus kernel_rfl); (conv => whnf))
  repeat' (first | ((with_reducible apply rd_intro); (focus (intro K hK; (conv => whnf); first | exact hK | (intro z hz; rw [wrapI (by omega)] at hz; subst hz; exact hK))); (conv => whnf)) | ((with_reducible apply gd_and); (focus ((conv => whnf) <;> first | rfl | (intro K hK; (conv => whnf); first | exact hK | (intro z hz; rw [wrapI (by omega)] at hz; subst hz; exact hK)))); (conv => whnf)) | ((with_reducible apply z_wrap); (focus omega); (conv => whnf)) | ((with_reducible refine mt_dec (fun _ => ?_) (fun _ => ?_)) <;> (conv => whnf)) | ((with_reducible refine mt_eq (fun _ => ?_) (fun _ => ?_)) <;> (conv => whnf)) | ((with_reducible refine mt_ne (fun _ => ?_) (fun _ => ?_)) <;> (conv => whnf)) | ((with_reducible refine mt_not (fun _ => ?_) (fun _ => ?_)) <;> (conv => whnf)) | ((with_reducible refine mt_any (fun _ => ?_) (fun _ => ?_)) <;> (conv => whnf)))
  refine (hMay_ok c hf n).mono ?_
  rintro _ _ ⟨rfl, rfl⟩
  conv => whnf
  repeat' (first | ((with_reducible apply rd_intro); (focus (intro K hK; (conv => whnf); first | exact hK | (intro z hz; rw [wrapI (by omega)] at hz; subst hz; exact hK))); (conv => whnf)) | ((with_reducible apply gd_and); (focus ((conv => whnf) <;> first | rfl | (intro K hK; (conv => whnf); first | exact hK | (intro z hz; rw [wrapI (by omega)] at hz; subst hz; exact hK)))); (conv => whnf)) | ((with_reducible apply z_wrap); (focus omega); (conv => whnf)) | ((with_reducible refine mt_dec (fun _ => ?_) (fun _ => ?_)) <;> (conv => whnf)) | ((with_reducible refine mt_eq (fun _ => ?_) (fun _ => ?_)) <;> (conv => whnf)) | ((with_reducible refine mt_ne (fun _ => ?_) (fun _ => ?_)) <;> (conv => whnf)) | ((with_reducible refine mt_not (fun _ => ?_) (fun _ => ?_)) <;> (conv => whnf)) | ((with_reducible refine mt_any (fun _ => ?_) (fun _ => ?_)) <;> (conv => whnf)))
  · rename_i h1
    have hn' := of_decide_eq_true h1.isn
    refine (digest_ok c.digest).mono ?_
    rintro _ _ ⟨rfl, rfl⟩
    conv => whnf
    repeat' (first | ((with_reducible apply rd_intro); (focus (intro K hK; (conv => whnf); first | exact hK | (intro z hz; rw [wrapI (by omega)] at hz; subst hz; exact hK))); (conv => whnf)) | ((with_reducible apply gd_and); (focus ((conv => whnf) <;> first | rfl | (intro K hK; (conv => whnf); first | exact hK | (intro z hz; rw [wrapI (by omega)] at hz; subst hz; exact hK)))); (conv => whnf)) | ((with_reducible apply z_wrap); (focus omega); (conv => whnf)) | ((with_reducible refine mt_dec (fun _ => ?_) (fun _ => ?_)) <;> (conv => whnf)) | ((with_reducible refine mt_eq (fun _ => ?_) (fun _ => ?_)) <;> (conv => whnf)) | ((with_reducible refine mt_ne (fun _ => ?_) (fun _ => ?_)) <;> (conv => whnf)) | ((with_reducible refine mt_not (fun _ => ?_) (fun _ => ?_)) <;> (conv => whnf)) | ((with_reducible refine mt_any (fun _ => ?_) (fun _ => ?_)) <;> (conv => whnf)))
    · rename_i h2
      refine (crising_ok c.sigs hf.sigs 1 n).mono ?_
      rintro _ _ ⟨rfl, rfl⟩
      conv => whnf
      repeat' (first | ((with_reducible apply rd_intro); (focus (intro K hK; (conv => whnf); first | exact hK | (intro z hz; rw [wrapI (by omega)] at hz; subst hz; exact hK))); (conv => whnf)) | ((with_reducible apply gd_and); (focus ((conv => whnf) <;> first | rfl | (intro K hK; (conv => whnf); first | exact hK | (intro z hz; rw [wrapI (by omega)] at hz; subst hz; exact hK)))); (conv => whnf)) | ((with_reducible apply z_wrap); (focus omega); (conv => whnf)) | ((with_reducible refine mt_dec (fun _ => ?_) (fun _ => ?_)) <;> (conv => whnf)) | ((with_reducible refine mt_eq (fun _ => ?_) (fun _ => ?_)) <;> (conv => whnf)) | ((with_reducible refine mt_ne (fun _ => ?_) (fun _ => ?_)) <;> (conv => whnf)) | ((with_reducible refine mt_not (fun _ => ?_) (fun _ => ?_)) <;> (conv => whnf)) | ((with_reducible refine mt_any (fun _ => ?_) (fun _ => ?_)) <;> (conv => whnf)))
      · rename_i h3
        refine (q_ok n ⟨by omega, by omega⟩).mono ?_
        rintro _ _ ⟨rfl, rfl⟩
        conv => whnf
        repeat' (first | ((with_reducible apply rd_intro); (focus (intro K hK; (conv => whnf); first | exact hK | (intro z hz; rw [wrapI (by omega)] at hz; subst hz; exact hK))); (conv => whnf)) | ((with_reducible apply gd_and); (focus ((conv => whnf) <;> first | rfl | (intro K hK; (conv => whnf); first | exact hK | (intro z hz; rw [wrapI (by omega)] at hz; subst hz; exact hK)))); (conv => whnf)) | ((with_reducible apply z_wrap); (focus omega); (conv => whnf)) | ((with_reducible refine mt_dec (fun _ => ?_) (fun _ => ?_)) <;> (conv => whnf)) | ((with_reducible refine mt_eq (fun _ => ?_) (fun _ => ?_)) <;> (conv => whnf)) | ((with_reducible refine mt_ne (fun _ => ?_) (fun _ => ?_)) <;> (conv => whnf)) | ((with_reducible refine mt_not (fun _ => ?_) (fun _ => ?_)) <;> (conv => whnf)) | ((with_reducible refine mt_any (fun _ => ?_) (fun _ => ?_)) <;> (conv => whnf)))
        refine ⟨boolEq ?_, rfl⟩
        simp only [decide_eq_true_iff, hsl]
        exact ⟨fun h => ⟨h1, h2, h3, h⟩, fun h => h.enough⟩
      · rename_i h3
        exact ⟨by rw [decide_eq_false (fun h => h3 h.sigs)]; rfl, rfl⟩
    · rename_i h2
      exact ⟨by rw [decide_eq_false (fun h => h2 h.digest)]; rfl, rfl⟩
  · rename_i h1
    exact ⟨by rw [decide_eq_false (fun h => h1 h.head)]; rfl, rfl⟩
end Go.Proofs.Ytoeppembokpjkaa

namespace Go.Proofs.Ytoeppembokpjkaa
open Go.Ab Go.RowKit
/-! ## chains of anchors -/
theorem dig_inj {l : List Cert} (h : (l.map (·.digest)).Nodup) {x y : Cert} (hx : x ∈ l) (hy : y ∈ l) (e : x.digest = y.digest) : x = y := by
  induction l with
  | nil => cases hx
  | cons z r ih =>
    rw [List.map_cons, List.nodup_cons] at h
    rcases List.mem_cons.1 hx with hx1 | hx1
    · rcases List.mem_cons.1 hy with hy1 | hy1
      · rw [hx1, hy1]
      · exact absurd (List.mem_map.2 ⟨y, hy1, by rw [← e, hx1]⟩) h.1
    · rcases List.mem_cons.1 hy with hy1 | hy1
      · exact absurd (List.mem_map.2 ⟨x, hx1, by rw [e, hy1]⟩) h.1
      · exact ih h.2 hx1 hy1
/-- the certificate of a digest -/
def certOf (d : Dag) (x : Int) : Option Cert := (getC d.certs x).bind fun i => d.certs[i]?
theorem certOf_mem {d : Dag} (h : (d.certs.map (·.digest)).Nodup) {c : Cert} (hc : c ∈ d.certs) : certOf d c.digest = some c := by
  unfold certOf
  cases hg : getC d.certs c.digest with
  | none =>
    unfold getC at hg
    rw [List.findIdx?_eq_none_iff] at hg
    have := hg c hc
    simp at this
  | some i =>
    obtain ⟨c', h1, h2⟩ := getC_some hg
    rw [Option.bind_some, h1, dig_inj h (List.mem_of_getElem? h1) hc h2]
theorem certOf_some {d : Dag} {x : Int} {c : Cert} (h : certOf d x = some c) : c ∈ d.certs ∧ c.digest = x ∧ ∃ i, getC d.certs x = some i ∧ d.certs[i]? = some c := by
  unfold certOf at h
  cases hg : getC d.certs x with
  | none => rw [hg] at h; cases h
  | some i =>
    rw [hg, Option.bind_some] at h
    obtain ⟨c', h1, h2⟩ := getC_some hg
    rw [h1] at h; cases h
    exact ⟨List.mem_of_getElem? h1, h2, i, rfl, h1⟩
theorem anchor_cert {d : Dag} (hw : d.well) {r : Int} (h : anchorI d r ≠ 0) : ∃ c, certOf d (anchorI d r) = some c ∧ c.round = r ∧ c.author = leadI d.nodes r := by
  unfold anchorI at h ⊢
  cases hc : atC d.certs r (leadI d.nodes r) with
  | none => rw [hc] at h; exact absurd rfl h
  | some c =>
    have h1 := List.find?_some hc
    simp only [decide_eq_true_eq] at h1
    exact ⟨c, certOf_mem hw.dig (List.mem_of_find?_eq_some hc), h1⟩
theorem anchor_pos {d : Dag} (hw : d.well) {r : Int} : anchorI d r ≠ 0 ↔ (atC d.certs r (leadI d.nodes r)).isSome = true := by
  unfold anchorI
  cases hc : atC d.certs r (leadI d.nodes r) with
  | none => simp
  | some c =>
    have := hw.pos c (List.mem_of_find?_eq_some hc)
    show c.digest ≠ 0 ↔ _
    simp
    omega
/-- the round of a digest's certificate -/
def roundOf (d : Dag) (x : Int) : Int := (certOf d x).elim 0 (·.round)
theorem anchor_round {d : Dag} (hw : d.well) {r : Int} (h : anchorI d r ≠ 0) : roundOf d (anchorI d r) = r := by
  obtain ⟨c, h1, h2, _⟩ := anchor_cert hw h
  rw [roundOf, h1]; exact h2
/-- digests of certificates that are there, of rounds in between, each above the next one -/
theorem backR_all {d : Dag} (hw : d.well) (after : Int) : ∀ (r : Int) (i : Nat), (∀ x ∈ backR d after r i, ∃ q, after < q ∧ q ≤ r - 2 ∧ x = anchorI d q ∧ anchorI d q ≠ 0) ∧ (backR d after r i).Pairwise fun x y => roundOf d y < roundOf d x := by
  intro r i
  induction r, i using backR.induct (d := d) (after := after) with
  | case1 r i h => rw [back_end h]; exact ⟨by simp, List.Pairwise.nil⟩
  | case2 r i h h2 ih =>
    rw [back_no h h2]
    exact ⟨fun x hx => by obtain ⟨q, h3, h4, h5⟩ := ih.1 x hx; exact ⟨q, h3, by omega, h5⟩, ih.2⟩
  | case3 r i h h2 h3 =>
    obtain ⟨j, c, h4, _⟩ := anchor_get h2
    rw [h3] at h4; cases h4
  | case4 r i h h2 j h3 h4 ih =>
    rw [back_yes h h2 h3, if_pos h4]
    refine ⟨fun x hx => ?_, List.pairwise_cons.2 ⟨fun y hy => ?_, ih.2⟩⟩
    · rcases List.mem_cons.1 hx with rfl | hx
      · exact ⟨r - 2, by omega, by omega, rfl, h2⟩
      · obtain ⟨q, h5, h6, h7⟩ := ih.1 x hx; exact ⟨q, h5, by omega, h7⟩
    · obtain ⟨q, h5, h6, rfl, h8⟩ := ih.1 y hy
      rw [anchor_round hw h2, anchor_round hw h8]
      omega
  | case5 r i h h2 j h3 h4 ih =>
    rw [back_yes h h2 h3, if_neg h4]
    exact ⟨fun x hx => by obtain ⟨q, h5, h6, h7⟩ := ih.1 x hx; exact ⟨q, h5, by omega, h7⟩, ih.2⟩
theorem backI_all {d : Dag} (hw : d.well) {after r : Int} (hr : after < r) (h0 : anchorI d r ≠ 0) : (∀ x ∈ backI d after r, ∃ q, after < q ∧ q ≤ r ∧ x = anchorI d q ∧ anchorI d q ≠ 0) ∧ (backI d after r).Pairwise (fun x y => roundOf d x < roundOf d y) ∧ (backI d after r).getLast? = some (anchorI d r) := by
  unfold backI
  obtain ⟨h1, h2⟩ := backR_all hw after r ((getC d.certs (anchorI d r)).getD 0)
  refine ⟨fun x hx => ?_, ?_, by simp⟩
  · rcases List.mem_cons.1 (List.mem_reverse.1 hx) with rfl | hx
    · exact ⟨r, hr, Int.le_refl _, rfl, h0⟩
    · obtain ⟨q, h3, h4, h5⟩ := h1 x hx; exact ⟨q, h3, by omega, h5⟩
  · rw [List.pairwise_reverse]
    refine List.pairwise_cons.2 ⟨fun y hy => ?_, h2⟩
    obtain ⟨q, h3, h4, rfl, h6⟩ := h1 y hy
    rw [anchor_round hw h0, anchor_round hw h6]
    omega
/-! ## putting out -/
def Wk.putA (d : Dag) (w : Wk) (a : Int) : Wk := match getC d.certs a with | some i => (match d.certs[i]? with | some c => w.put d i c | none => w) | none => w
theorem putA_eq {d : Dag} {w : Wk} {a : Int} {i : Nat} {c : Cert} (h : getC d.certs a = some i) (h2 : d.certs[i]? = some c) : w.putA d a = w.put d i c := by unfold Wk.putA; rw [h]; simp only [h2]
def Wk.putL (d : Dag) (w : Wk) (l : List Int) : Wk := l.foldl (fun w a => w.putA d a) w
def below (d : Dag) (r : Int) : Nat := (d.certs.filter fun c => decide (c.round ≤ r)).length
theorem below_lt {d : Dag} {c : Cert} (h : c ∈ d.certs) {r : Int} (hr : r < c.round) : below d r + 1 ≤ below d c.round := by
  unfold below
  obtain ⟨l, hl⟩ : ∃ l, d.certs = l := ⟨_, rfl⟩
  rw [hl] at h ⊢
  clear hl
  induction l with
  | nil => cases h
  | cons x t ih =>
    have hmono : (t.filter fun c' => decide (c'.round ≤ r)).length ≤ (t.filter fun c' => decide (c'.round ≤ c.round)).length := by
      rw [← List.countP_eq_length_filter, ← List.countP_eq_length_filter]
      exact List.countP_mono_left fun y _ hy => by simp at hy ⊢; omega
    rcases List.mem_cons.1 h with rfl | h
    · simp only [List.filter_cons, decide_eq_true_eq]
      rw [if_neg (by omega), if_pos (by omega), List.length_cons]
      omega
    · have := ih h
      simp only [List.filter_cons, decide_eq_true_eq]
      by_cases h1 : x.round ≤ r
      · rw [if_pos h1, if_pos (by omega), List.length_cons, List.length_cons]; omega
      · rw [if_neg h1]
        split
        · rw [List.length_cons]; omega
        · exact this
theorem below_le (d : Dag) (r : Int) : below d r ≤ d.certs.length := List.length_filter_le ..
/-- what holds of one that goes on -/
structure Wk.okay (d : Dag) (w : Wk) : Prop where
  fine : w.fine d
  outs : w.outs.length ≤ 65536 * below d w.c.round
theorem Wk.okay.put {d : Dag} (hw : d.well) {w : Wk} (h : w.okay d) {i : Nat} {c : Cert} (hc : d.certs[i]? = some c) (hr : w.c.round < c.round) : (w.put d i c).okay d := by
  refine ⟨h.fine.put hw i c, ?_⟩
  have h1 := below_lt (List.mem_of_getElem? hc) hr
  have h2 : (behindI d i c.round w.c.done).length ≤ 65536 := by
    have h1 := List.length_filter_le (fun x => !decide (x ∈ w.c.done)) (riseI d i (c.round - 8))
    have h2 := rise_len d i (c.round - 8)
    have h3 := hw.len
    unfold behindI
    omega
  have h3 := h.outs
  show (w.outs ++ _).length ≤ 65536 * below d c.round
  rw [List.length_append]
  omega
theorem Wk.okay.outs' {d : Dag} (hw : d.well) {w : Wk} (h : w.okay d) : w.outs.length ≤ 4294967296 := by
  have h1 := h.outs
  have h2 := below_le d w.c.round
  have h3 := hw.len
  omega
end Go.Proofs.Ytoeppembokpjkaa

namespace Go.Proofs.Ytoeppembokpjkaa
open Go.Ab Go.RowKit Go.MapKept
attribute [local irreducible] ACalls AW ADraw Into fltB fnear
set_option maxRecDepth 100000
/-! ## maps of numbers to numbers -/
def mapP (ps : List (Int × Int)) : List (KV × MV) := ps.map fun p => (.one (.int .i64 p.1), .v (.one (.int .i64 p.2)))
def lookP (k : Int) : List (Int × Int) → Option Int
  | [] => none
  | p :: r => if p.1 = k then some p.2 else lookP k r
theorem mapP_find (k : Int) : ∀ (ps : List (Int × Int)) (j : Nat), ∃ r, mfind (.one (.int .i64 k)) (mapP ps) j = some r ∧ ((∃ v i, lookP k ps = some v ∧ r = some (i, .v (.one (.int .i64 v)))) ∨ (lookP k ps = none ∧ r = none))
  | [], j => ⟨none, rfl, .inr ⟨rfl, rfl⟩⟩
  | p :: t, j => by
    obtain ⟨r, h1, h2⟩ := mapP_find k t (j + 1)
    have e : mfind (.one (.int .i64 k)) (mapP (p :: t)) j = match some (k == p.1) with
        | some true => some (some (j, .v (.one (.int .i64 p.2))))
        | some false => mfind (.one (.int .i64 k)) (mapP t) (j + 1)
        | none => none := rfl
    by_cases h : p.1 = k
    · rw [e, show (k == p.1) = true by simp [h]]
      exact ⟨_, rfl, .inl ⟨p.2, j, by rw [lookP, if_pos h], rfl⟩⟩
    · rw [e, show (k == p.1) = false by simpa using Ne.symm h]
      refine ⟨r, h1, ?_⟩
      rw [lookP, if_neg h]
      exact h2
theorem lookP_none {k : Int} : ∀ {ps : List (Int × Int)}, (∀ p ∈ ps, p.1 ≠ k) → lookP k ps = none
  | [], _ => rfl
  | p :: r, h => by rw [lookP, if_neg (h p (by simp)), lookP_none fun q hq => h q (by simp [hq])]
theorem lookP_some {k v : Int} : ∀ {ps : List (Int × Int)}, (ps.map (·.1)).Nodup → (k, v) ∈ ps → lookP k ps = some v
  | p :: r, hn, h => by
    rw [List.map_cons, List.nodup_cons] at hn
    rcases List.mem_cons.1 h with h | h
    · subst h; rw [lookP, if_pos rfl]
    · rw [lookP, if_neg (fun e => hn.1 (List.mem_map.2 ⟨_, h, e.symm⟩)), lookP_some hn.2 h]
theorem mapP_new {k v : Int} {ps : List (Int × Int)} (h : lookP k ps = none) : ∃ r, mfind (.one (.int .i64 k)) (mapP ps) 0 = some r ∧ mputAt (mapP ps) r (.one (.int .i64 k)) (.v (.one (.int .i64 v))) = mapP (ps ++ [(k, v)]) := by
  obtain ⟨r, h1, ⟨w, i, h2, _⟩ | ⟨_, rfl⟩⟩ := mapP_find k ps 0
  · rw [h] at h2; cases h2
  · exact ⟨none, h1, by simp [mputAt, mapP]⟩
/-! ## a DAG that may be -/
structure Valid (d : Dag) : Prop where
  nodes : isN d.nodes = true
  low : 0 ≤ d.low ∧ d.low ≤ 1099511627776
  len : d.certs.length ≤ 65536
  certs : ∀ c ∈ d.certs, okCert d.nodes c
  above : ∀ c ∈ d.certs, d.low < c.round
  sorted : sortedC d.certs
  dig : (d.certs.map (·.digest)).Nodup
  here : ∀ c ∈ d.certs, c.round > d.low + 1 → ∀ x ∈ c.pars, ∃ c' ∈ d.certs, c'.digest = x ∧ c'.round = c.round - 1
theorem Valid.well {d : Dag} (h : Valid d) : d.well := by
  have hn := of_decide_eq_true h.nodes
  have hr : ∀ c ∈ d.certs, 1 ≤ c.round ∧ c.round ≤ 1099511627776 := fun c hc => (h.certs c hc).head.round
  have ha : ∀ c ∈ d.certs, 1 ≤ c.author ∧ c.author ≤ d.nodes := fun c hc => (h.certs c hc).head.author
  have hl := h.len
  refine ⟨⟨by unfold few; omega, h.sorted, fun c hc => ⟨⟨by have := hr c hc; omega, by have := hr c hc; omega⟩, ⟨by have := ha c hc; omega, by have := ha c hc; omega⟩⟩, fun c hc => ⟨(ha c hc).1, by have := ha c hc; omega⟩⟩, ⟨by omega, by omega⟩, fun c hc => by have := (h.certs c hc).head.pars.1; unfold few; omega, h.low, ?_, h.len, h.dig, fun c hc => (h.certs c hc).digest.1⟩
  unfold topR
  cases hg : d.certs.getLast? with
  | none => decide
  | some c => exact (hr c (List.mem_of_getLast? hg)).2
theorem Valid.fewL {d : Dag} (h : Valid d) {c : Cert} (hc : c ∈ d.certs) : fewL c := by
  have hn := of_decide_eq_true h.nodes
  have h1 := h.certs c hc
  have h2 := h1.head.bats.1
  have h3 := h1.head.pars.1
  refine ⟨by unfold few; omega, by unfold few; omega, ?_⟩
  have := rising_nodup h1.sigs.1
  have := sub_len (m := (List.range 17).map fun n : Nat => (n : Int)) this fun x hx => by
    have := h1.sigs.2 x hx
    exact List.mem_map.2 ⟨x.toNat, by simp; omega, by omega⟩
  simp at this
  unfold few
  omega
def seenP (l : List Cert) : List (Int × Int) := l.map fun c => (c.digest, c.round)
theorem seen_keys (l : List Cert) : (seenP l).map (·.1) = l.map (·.digest) := by simp [seenP]
theorem Valid.fresh {d : Dag} (h : Valid d) {j : Nat} {c : Cert} (hc : d.certs[j]? = some c) : lookP c.digest (seenP (d.certs.take j)) = none := by
  refine lookP_none fun p hp e => ?_
  obtain ⟨c', hc', rfl⟩ := List.mem_map.1 hp
  have h1 := h.dig
  have h2 : d.certs.take (j + 1) = d.certs.take j ++ [c] := by rw [List.take_add_one, hc]; rfl
  have h3 : ((d.certs.take (j + 1)).map (·.digest)).Nodup := h1.sublist ((List.take_sublist ..).map _)
  rw [h2, List.map_append, List.nodup_append] at h3
  exact h3.2.2 c'.digest (List.mem_map.2 ⟨c', hc', rfl⟩) c.digest (by simp) e
theorem Valid.parent {d : Dag} (h : Valid d) {j : Nat} {c : Cert} (hc : d.certs[j]? = some c) (hr : c.round > d.low + 1) {x : Int} (hx : x ∈ c.pars) : lookP x (seenP (d.certs.take j)) = some (c.round - 1) := by
  obtain ⟨c', h1, h2, h3⟩ := h.here c (List.mem_of_getElem? hc) hr x hx
  obtain ⟨i, hi⟩ := List.getElem?_of_mem h1
  have hjl : j < d.certs.length := by
    rcases Nat.lt_or_ge j d.certs.length with h | h
    · exact h
    · rw [List.getElem?_eq_none h] at hc; cases hc
  have hil : i < d.certs.length := by
    rcases Nat.lt_or_ge i d.certs.length with h | h
    · exact h
    · rw [List.getElem?_eq_none h] at hi; cases hi
  have hij : i < j := by
    rcases Nat.lt_trichotomy i j with h4 | h4 | h4
    · exact h4
    · subst h4; rw [hc] at hi; cases hi; omega
    · have := List.pairwise_iff_getElem.1 h.sorted j i hjl hil h4
      rw [List.getElem?_eq_getElem hjl] at hc
      rw [List.getElem?_eq_getElem hil] at hi
      cases hc; cases hi
      have := before_iff.1 this
      omega
  refine lookP_some ?_ ?_
  · rw [seen_keys]; exact h.dig.sublist ((List.take_sublist ..).map _)
  · refine List.mem_map.2 ⟨c', ?_, by rw [h2, h3]⟩
    rw [List.mem_take_iff_getElem]
    rw [List.getElem?_eq_getElem hil] at hi
    exact ⟨i, by omega, Option.some.inj hi⟩
end Go.Proofs.Ytoeppembokpjkaa

namespace Go.Proofs.Ytoeppembokpjkaa
open Go.Ab Go.RowKit Go.MapKept
attribute [local irreducible] ACalls AW ADraw Into fltB fnear
set_option maxRecDepth 100000
/-- going on, as data -/
def Wk.goF (d : Dag) : Nat → Wk → Wk
  | 0, w => w
  | n + 1, w => if nextC d w.c.round > 0 then Wk.goF d n (w.putL d (backI d w.c.round (nextC d w.c.round))) else w
theorem goF_end {d : Dag} {w : Wk} (h : ¬ nextC d w.c.round > 0) : ∀ n, Wk.goF d n w = w
  | 0 => rfl
  | n + 1 => by rw [Wk.goF, if_neg h]
def zCur : AB := .cells [.d (.int .i64 0), .d .nils, .d (.int .i64 0)]
def Wk.cellsAt (d : Dag) (w : Wk) (i j : Nat) : AB := .cells (w.cells d i j)
/-- the outer loop's state: b: nothing was put out yet -/
def goSt (d : Dag) (done0 : List Int) : Bool × Wk → AF × List AB
  | (true, w) => ([(2, .ptr 1 0), (4, .ptr 2 0), (6, .ptr 3 0), (7, .d (.int .i64 (nextC d w.c.round)))], [.row 3 1 (nums w.c.done) false, .cells d.cells, zCur, .cells (w.cells d 0 4), .row 3 1 (nums w.outs) false])
  | (false, w) => ([(2, .ptr 1 0), (4, .ptr 2 0), (6, .ptr 3 0), (7, .d (.int .i64 (nextC d w.c.round)))], [.row 3 1 (nums done0) true, .cells d.cells, zCur, .cells (w.cells d 4 5), .row 3 1 (nums w.c.done) false, .row 3 1 (nums w.outs) false])
def goIn (d : Dag) (done0 : List Int) (l : List Int) : Bool × Wk × Nat → AF × List AB
  | (true, w, j) => ([(2, .ptr 1 0), (4, .ptr 2 0), (6, .ptr 3 0), (37, .arr 4), (38, .d (.int .i64 l.length)), (39, .d (.int .i64 j))], [.row 3 1 (nums w.c.done) false, .cells d.cells, zCur, .cells (w.cells d 0 5), .row 3 1 (nums l) false, .row 3 1 (nums w.outs) false])
  | (false, w, j) => ([(2, .ptr 1 0), (4, .ptr 2 0), (6, .ptr 3 0), (37, .arr 4), (38, .d (.int .i64 l.length)), (39, .d (.int .i64 j))], [.row 3 1 (nums done0) true, .cells d.cells, zCur, .cells (w.cells d 5 6), .row 3 1 (nums l) false, .row 3 1 (nums w.c.done) false, .row 3 1 (nums w.outs) false])
theorem nextR_spec (d : Dag) : ∀ r : Int, nextR d r = 0 ∨ (r ≤ nextR d r ∧ nextR d r < topR d.certs ∧ settled d (nextR d r) = true ∧ nextR d r % 2 = r % 2) := by
  intro r
  induction r using nextR.induct (d := d) with
  | case1 r h => exact .inl (next_top h)
  | case2 r h h2 => rw [next_here h h2]; exact .inr ⟨by omega, by omega, h2, rfl⟩
  | case3 r h h2 ih =>
    rw [next_on h (by simpa using h2)]
    rcases ih with ih | ⟨i1, i2, i3, i4⟩
    · exact .inl ih
    · exact .inr ⟨by omega, i2, i3, by omega⟩
theorem settled_anchor {d : Dag} (hn : 0 < d.nodes) {r : Int} (h : settled d r = true) : anchorI d r ≠ 0 := by
  intro h0
  unfold settled at h
  have hv : votes d r = 0 := by
    unfold votes
    rw [h0]
    rw [List.filter_eq_nil_iff.2]
    · rfl
    · intro c _; simp
  rw [hv] at h
  simp at h
  omega
theorem nextC_spec {d : Dag} (hw : d.well) {after : Int} (ha : 0 ≤ after) (he : after % 2 = 0) (h : nextC d after > 0) : after < nextC d after ∧ nextC d after < topR d.certs ∧ settled d (nextC d after) = true ∧ nextC d after % 2 = 0 ∧ anchorI d (nextC d after) ≠ 0 ∧ 2 ≤ nextC d after := by
  have hl := hw.low
  rcases nextR_spec d (max after (d.low - d.low % 2) + 2) with h1 | ⟨h1, h2, h3, h4⟩
  · unfold nextC at h; omega
  · unfold nextC at h ⊢
    have h5 : (d.low - d.low % 2) % 2 = 0 := by omega
    have h6 : (max after (d.low - d.low % 2) + 2) % 2 = 0 := by
      rcases Int.le_total after (d.low - d.low % 2) with h7 | h7
      · rw [Int.max_eq_right h7]; omega
      · rw [Int.max_eq_left h7]; omega
    exact ⟨by omega, h2, h3, by omega, settled_anchor hw.nodes.1 h3, by omega⟩
structure goInv (d : Dag) (done0 : List Int) (fin : Wk) (b : Bool) (w : Wk) : Prop where
  okay : w.okay d
  round : 0 ≤ w.c.round ∧ w.c.round ≤ 1099511627776 ∧ w.c.round % 2 = 0
  first : b = true → w.c.done = done0
  fin : ∃ n : Nat, topR d.certs - w.c.round ≤ n ∧ fin = Wk.goF d n w
structure goInI (d : Dag) (done0 : List Int) (w0 : Wk) (l : List Int) (b : Bool) (w : Wk) (j : Nat) : Prop where
  okay : w.okay d
  le : j ≤ l.length
  first : b = true → w.c.done = done0
  is : w = w0.putL d (l.take j)
  next : ∀ x ∈ l.drop j, w.c.round < roundOf d x
  last : ∀ x, 0 < j → l[j - 1]? = some x → w.c.round = roundOf d x
structure Chain (d : Dag) (w0 : Wk) (l : List Int) : Prop where
  all : ∀ x ∈ l, ∃ q, w0.c.round < q ∧ q ≤ nextC d w0.c.round ∧ x = anchorI d q ∧ anchorI d q ≠ 0
  up : l.Pairwise fun x y => roundOf d x < roundOf d y
  last : l.getLast? = some (anchorI d (nextC d w0.c.round))
theorem Chain.at {d : Dag} (hw : d.well) {w0 : Wk} {l : List Int} (h : Chain d w0 l) {j : Nat} (hj : j < l.length) : ∃ x i c, l[j]? = some x ∧ getC d.certs x = some i ∧ d.certs[i]? = some c ∧ roundOf d x = c.round := by
  obtain ⟨q, q1, q2, hxq, q3⟩ := h.all l[j] (List.getElem_mem hj)
  obtain ⟨c2, hco, hcr, _⟩ := anchor_cert hw q3
  rw [← hxq] at hco
  obtain ⟨hcm, hcd, i, hg, hc2⟩ := certOf_some hco
  exact ⟨l[j], i, c2, List.getElem?_eq_getElem hj, hg, hc2, by rw [roundOf, hco]; rfl⟩
theorem Chain.len {d : Dag} (hw : d.well) {w0 : Wk} {l : List Int} (h : Chain d w0 l) : l.length ≤ d.certs.length := by
  have hn : l.Nodup := h.up.imp fun {a b} hab e => by rw [e] at hab; omega
  have := sub_len (m := d.certs.map (·.digest)) hn fun x hx => by
    obtain ⟨q, _, _, rfl, q3⟩ := h.all x hx
    obtain ⟨c, hc, _⟩ := anchor_cert hw q3
    obtain ⟨h1, h2, _⟩ := certOf_some hc
    exact List.mem_map.2 ⟨c, h1, h2⟩
  simpa using this
theorem goInI.start {d : Dag} (hw : d.well) {done0 : List Int} {w : Wk} {l : List Int} (h : Chain d w l) (hok : w.okay d) {b : Bool} (hb : b = true → w.c.done = done0) : goInI d done0 w l b w 0 := by
  refine ⟨hok, Nat.zero_le _, hb, rfl, ?_, fun x h => absurd h (Nat.lt_irrefl 0)⟩
  intro x hx
  obtain ⟨q, q1, q2, rfl, q3⟩ := h.all x (by simpa using hx)
  rw [anchor_round hw q3]; exact q1
theorem goInI.step {d : Dag} (hw : d.well) {done0 : List Int} {w0 : Wk} {l : List Int} (hch : Chain d w0 l) {b : Bool} {w : Wk} {j : Nat} (h : goInI d done0 w0 l b w j) (hj : j < l.length) {x : Int} {i : Nat} {c : Cert} (hx : l[j]? = some x) (hg : getC d.certs x = some i) (hc : d.certs[i]? = some c) (hr : roundOf d x = c.round) : goInI d done0 w0 l false (w.put d i c) (j + 1) := by
  have hlt : w.c.round < c.round := by rw [← hr]; exact h.next x (by rw [List.mem_iff_getElem?]; exact ⟨0, by rw [List.getElem?_drop]; simpa using hx⟩)
  refine ⟨h.okay.put hw hc hlt, by omega, (fun h => by cases h), ?_, ?_, ?_⟩
  · rw [List.take_add_one, hx, Wk.putL, Option.toList_some, List.foldl_append, List.foldl_cons, List.foldl_nil]
    show _ = Wk.putA d (w0.putL d (l.take j)) x
    rw [← h.is, putA_eq hg hc]
  · intro y hy
    show c.round < _
    rw [← hr]
    have hp : (l.drop j).Pairwise (fun x y => roundOf d x < roundOf d y) := hch.up.sublist (List.drop_sublist ..)
    rw [List.drop_eq_getElem_cons hj] at hp
    have := (List.pairwise_cons.1 hp).1 y hy
    rw [List.getElem?_eq_getElem hj] at hx
    rw [← Option.some.inj hx]
    exact this
  · intro y _ hy
    rw [Nat.add_sub_cancel, hx] at hy
    cases hy
    exact hr.symm
theorem goInI.done {d : Dag} (hw : d.well) {done0 : List Int} {w0 : Wk} {l : List Int} (hch : Chain d w0 l) (hpos : nextC d w0.c.round > 0) (h0 : 0 ≤ w0.c.round) (he : w0.c.round % 2 = 0) {fin : Wk} {b : Bool} {w : Wk} {j : Nat} (h : goInI d done0 w0 l b w j) (hj : ¬ (j : Int) < l.length) (hl : backI d w0.c.round (nextC d w0.c.round) = l)
    (hfin : ∃ n : Nat, topR d.certs - w0.c.round ≤ n ∧ fin = Wk.goF d n w0) : goInv d done0 fin b w ∧ (topR d.certs - w.c.round).toNat < (topR d.certs - w0.c.round).toNat := by
  obtain ⟨s1, s2, s3, s4, s5, s6⟩ := nextC_spec hw h0 he hpos
  have hjl : j = l.length := by have := h.le; omega
  subst hjl
  have his := h.is
  rw [List.take_length] at his
  have hlast : l[l.length - 1]? = some (anchorI d (nextC d w0.c.round)) := by rw [← List.getLast?_eq_getElem?]; exact hch.last
  have hlen0 : 0 < l.length := by
    rcases Nat.eq_zero_or_pos l.length with h | h
    · rw [List.length_eq_zero_iff.1 h] at hlast; cases hlast
    · exact h
  have hround : w.c.round = nextC d w0.c.round := by rw [h.last _ hlen0 hlast, anchor_round hw s5]
  have htop := hw.top
  refine ⟨⟨h.okay, ⟨by omega, by omega, by omega⟩, h.first, ?_⟩, by omega⟩
  obtain ⟨n, h4, h5⟩ := hfin
  cases n with
  | zero => exact absurd h4 (by omega)
  | succ m =>
    rw [Wk.goF, if_pos hpos, hl, ← his] at h5
    exact ⟨m, by omega, h5⟩
theorem goInv.chain {d : Dag} (hw : d.well) {done0 : List Int} {fin : Wk} {b : Bool} {w : Wk} (h : goInv d done0 fin b w) (hpos : nextC d w.c.round > 0) : Chain d w (backI d w.c.round (nextC d w.c.round)) := by
  obtain ⟨s1, s2, s3, s4, s5, s6⟩ := nextC_spec hw h.round.1 h.round.2.2 hpos
  obtain ⟨a1, a2, a3⟩ := backI_all hw s1 s5
  exact ⟨a1, a2, a3⟩
set_option maxHeartbeats 4000000 in
theorem go_ok (d : Dag) (hw : d.well) (c : Cursor) (hr : 0 ≤ c.round ∧ c.round ≤ 1099511627776) (he : c.round % 2 = 0) (hok : (Wk.mk c []).okay d) (fin : Wk) (hfin : fin = Wk.goF d (topR d.certs).toNat ⟨c, []⟩) :
    ACalls Try.prog 38 [d.av, .agg [.d (.int .i64 c.round), .arr 0, .d (.int .i64 c.count)]] [.row 3 1 (nums c.done) false] (fun av L => (fin.c.done = c.done ∧ av = .tup [.agg [.d (.int .i64 fin.c.round), .arr 0, .d (.int .i64 fin.c.count)], .arr 1] ∧ L = [.row 3 1 (nums fin.c.done) false, .row 3 1 (nums fin.outs) false]) ∨ (av = .tup [.agg [.d (.int .i64 fin.c.round), .arr 1, .d (.int .i64 fin.c.count)], .arr 2] ∧ L = [.row 3 1 (nums c.done) true, .row 3 1 (nums fin.c.done) false, .row 3 1 (nums fin.outs) false])) := by
  refine acalls_go ttOk zOk foOk Try.func38 rfl Try.ntmps38 rfl true rfl ?_
  conv => whnf
  ((with_reducible refine draw_pl ttOk zOk foOk mixedOk pl38x2 ?_ ?_); (focus kernel_rfl); (conv => whnf))
  repeat' (first | ((with_reducible apply rd_intro); (focus (intro K hK; (conv => whnf); first | exact hK | (intro z hz; rw [wrapI (by omega)] at hz; subst hz; exact hK))); (conv => whnf)) | ((with_reducible apply gd_and); (focus ((conv => whnf) <;> first | rfl | (intro K hK; (conv => whnf); first | exact hK | (intro z hz; rw [wrapI (by omega)] at hz; subst hz; exact hK)))); (conv => whnf)) | ((with_reducible apply z_wrap); (focus omega); (conv => whnf)) | ((with_reducible refine mt_dec (fun _ => ?_) (fun _ => ?_)) <;> (conv => whnf)) | ((with_reducible refine mt_eq (fun _ => ?_) (fun _ => ?_)) <;> (conv => whnf)) | ((with_reducible refine mt_ne (fun _ => ?_) (fun _ => ?_)) <;> (conv => whnf)) | ((with_reducible refine mt_not (fun _ => ?_) (fun _ => ?_)) <;> (conv => whnf)) | ((with_reducible refine mt_any (fun _ => ?_) (fun _ => ?_)) <;> (conv => whnf)))
  refine (next_ok d hw c.round hr).mono ?_
  rintro _ _ ⟨rfl, rfl⟩
  conv => whnf
  repeat' (first | ((with_reducible apply rd_intro); (focus (intro K hK; (conv => whnf); first | exact hK | (intro z hz; rw [wrapI (by omega)] at hz; subst hz; exact hK))); (conv => whnf)) | ((with_reducible apply gd_and); (focus ((conv => whnf) <;> first | rfl | (intro K hK; (conv => whnf); first | exact hK | (intro z hz; rw [wrapI (by omega)] at hz; subst hz; exact hK)))); (conv => whnf)) | ((with_reducible apply z_wrap); (focus omega); (conv => whnf)) | ((with_reducible refine mt_dec (fun _ => ?_) (fun _ => ?_)) <;> (conv => whnf)) | ((with_reducible refine mt_eq (fun _ => ?_) (fun _ => ?_)) <;> (conv => whnf)) | ((with_reducible refine mt_ne (fun _ => ?_) (fun _ => ?_)) <;> (conv => whnf)) | ((with_reducible refine mt_not (fun _ => ?_) (fun _ => ?_)) <;> (conv => whnf)) | ((with_reducible refine mt_any (fun _ => ?_) (fun _ => ?_)) <;> (conv => whnf)))
  refine loop_go ttOk zOk foOk (σ := Bool × Wk) (goSt d c.done) (fun s => goInv d c.done fin s.1 s.2) (fun s => (topR d.certs - s.2.c.round).toNat) [2, 4, 6, 7] ?_ ?_
  · conv => whnf
    exact ⟨(true, ⟨c, []⟩), rfl, rfl, hok, ⟨hr.1, hr.2, he⟩, fun _ => rfl, (topR d.certs).toNat, by show topR d.certs - c.round ≤ ((topR d.certs).toNat : Int); omega, hfin⟩
  · rintro ⟨b, w⟩ hin0
    have h0 : goInv d c.done fin b w := hin0
    clear hin0
    cases b with
    | true =>
      conv => whnf
      repeat' (first | ((with_reducible apply rd_intro); (focus (intro K hK; (conv => whnf); first | exact hK | (intro z hz; rw [wrapI (by omega)] at hz; subst hz; exact hK))); (conv => whnf)) | ((with_reducible apply gd_and); (focus ((conv => whnf) <;> first | rfl | (intro K hK; (conv => whnf); first | exact hK | (intro z hz; rw [wrapI (by omega)] at hz; subst hz; exact hK)))); (conv => whnf)) | ((with_reducible apply z_wrap); (focus omega); (conv => whnf)) | ((with_reducible refine mt_dec (fun _ => ?_) (fun _ => ?_)) <;> (conv => whnf)) | ((with_reducible refine mt_eq (fun _ => ?_) (fun _ => ?_)) <;> (conv => whnf)) | ((with_reducible refine mt_ne (fun _ => ?_) (fun _ => ?_)) <;> (conv => whnf)) | ((with_reducible refine mt_not (fun _ => ?_) (fun _ => ?_)) <;> (conv => whnf)) | ((with_reducible refine mt_any (fun _ => ?_) (fun _ => ?_)) <;> (conv => whnf)))
      · rename_i hpos
        have hsp := nextC_spec hw h0.round.1 h0.round.2.2 hpos
        have htop := hw.top
        have hch := h0.chain hw hpos
        ((with_reducible refine draw_pl ttOk zOk foOk mixedOk pl38x5 ?_ ?_); (focus kernel_rfl); (conv => whnf))
        repeat' (first | ((with_reducible apply rd_intro); (focus (intro K hK; (conv => whnf); first | exact hK | (intro z hz; rw [wrapI (by omega)] at hz; subst hz; exact hK))); (conv => whnf)) | ((with_reducible apply gd_and); (focus ((conv => whnf) <;> first | rfl | (intro K hK; (conv => whnf); first | exact hK | (intro z hz; rw [wrapI (by omega)] at hz; subst hz; exact hK)))); (conv => whnf)) | ((with_reducible apply z_wrap); (focus omega); (conv => whnf)) | ((with_reducible refine mt_dec (fun _ => ?_) (fun _ => ?_)) <;> (conv => whnf)) | ((with_reducible refine mt_eq (fun _ => ?_) (fun _ => ?_)) <;> (conv => whnf)) | ((with_reducible refine mt_ne (fun _ => ?_) (fun _ => ?_)) <;> (conv => whnf)) | ((with_reducible refine mt_not (fun _ => ?_) (fun _ => ?_)) <;> (conv => whnf)) | ((with_reducible refine mt_any (fun _ => ?_) (fun _ => ?_)) <;> (conv => whnf)))
        refine (back_ok d hw w.c.round (nextC d w.c.round) h0.round.1 hsp.1 hsp.2.2.2.1 ⟨hsp.2.2.2.2.2, by have := hsp.2.1; omega⟩ hsp.2.2.2.2.1).mono ?_
        rintro _ _ ⟨rfl, rfl⟩
        obtain ⟨l, hl⟩ : ∃ l, backI d w.c.round (nextC d w.c.round) = l := ⟨_, rfl⟩
        rw [hl] at hch ⊢
        have hnl := nums_length l
        conv => whnf
        repeat' (first | ((with_reducible apply rd_intro); (focus (intro K hK; (conv => whnf); first | exact hK | (intro z hz; rw [wrapI (by omega)] at hz; subst hz; exact hK))); (conv => whnf)) | ((with_reducible apply gd_and); (focus ((conv => whnf) <;> first | rfl | (intro K hK; (conv => whnf); first | exact hK | (intro z hz; rw [wrapI (by omega)] at hz; subst hz; exact hK)))); (conv => whnf)) | ((with_reducible apply z_wrap); (focus omega); (conv => whnf)) | ((with_reducible refine mt_dec (fun _ => ?_) (fun _ => ?_)) <;> (conv => whnf)) | ((with_reducible refine mt_eq (fun _ => ?_) (fun _ => ?_)) <;> (conv => whnf)) | ((with_reducible refine mt_ne (fun _ => ?_) (fun _ => ?_)) <;> (conv => whnf)) | ((with_reducible refine mt_not (fun _ => ?_) (fun _ => ?_)) <;> (conv => whnf)) | ((with_reducible refine mt_any (fun _ => ?_) (fun _ => ?_)) <;> (conv => whnf)))
        refine loop_go ttOk zOk foOk (σ := Bool × Wk × Nat) (goIn d c.done l) (fun s => goInI d c.done w l s.1 s.2.1 s.2.2) (fun s => l.length - s.2.2) [2, 4, 6, 37, 38, 39] ?_ ?_
        · conv => whnf
          exact ⟨(true, w, 0), by rw [hnl]; rfl, rfl, goInI.start hw hch h0.okay h0.first⟩
        · rintro ⟨b2, w2, j⟩ hin1
          have hin : goInI d c.done w l b2 w2 j := hin1
          clear hin1
          cases b2 with
          | true =>
            conv => whnf
            repeat' (first | ((with_reducible apply rd_intro); (focus (intro K hK; (conv => whnf); first | exact hK | (intro z hz; rw [wrapI (by omega)] at hz; subst hz; exact hK))); (conv => whnf)) | ((with_reducible apply gd_and); (focus ((conv => whnf) <;> first | rfl | (intro K hK; (conv => whnf); first | exact hK | (intro z hz; rw [wrapI (by omega)] at hz; subst hz; exact hK)))); (conv => whnf)) | ((with_reducible apply z_wrap); (focus omega); (conv => whnf)) | ((with_reducible refine mt_dec (fun _ => ?_) (fun _ => ?_)) <;> (conv => whnf)) | ((with_reducible refine mt_eq (fun _ => ?_) (fun _ => ?_)) <;> (conv => whnf)) | ((with_reducible refine mt_ne (fun _ => ?_) (fun _ => ?_)) <;> (conv => whnf)) | ((with_reducible refine mt_not (fun _ => ?_) (fun _ => ?_)) <;> (conv => whnf)) | ((with_reducible refine mt_any (fun _ => ?_) (fun _ => ?_)) <;> (conv => whnf)))
            · rename_i hjl
              have hjn : j < l.length := Int.ofNat_lt.1 hjl
              refine Exists.elim (hch.at hw hjn) fun x hx => Exists.elim hx fun i hx => Exists.elim hx fun c2 hx => ?_
              have hlen := hch.len hw
              have hlen2 := hw.len
              have hst := hin.step hw hch hjn hx.1 hx.2.1 hx.2.2.1 hx.2.2.2
              refine ⟨Int.natCast_nonneg _, by rw [Int.toNat_natCast, hnl]; exact hjn, ?_⟩
              conv => whnf
              refine ⟨_, by rw [Int.toNat_natCast]; exact nums_at hx.1, ?_⟩
              conv => whnf
              repeat' (first | ((with_reducible apply rd_intro); (focus (intro K hK; (conv => whnf); first | exact hK | (intro z hz; rw [wrapI (by omega)] at hz; subst hz; exact hK))); (conv => whnf)) | ((with_reducible apply gd_and); (focus ((conv => whnf) <;> first | rfl | (intro K hK; (conv => whnf); first | exact hK | (intro z hz; rw [wrapI (by omega)] at hz; subst hz; exact hK)))); (conv => whnf)) | ((with_reducible apply z_wrap); (focus omega); (conv => whnf)) | ((with_reducible refine mt_dec (fun _ => ?_) (fun _ => ?_)) <;> (conv => whnf)) | ((with_reducible refine mt_eq (fun _ => ?_) (fun _ => ?_)) <;> (conv => whnf)) | ((with_reducible refine mt_ne (fun _ => ?_) (fun _ => ?_)) <;> (conv => whnf)) | ((with_reducible refine mt_not (fun _ => ?_) (fun _ => ?_)) <;> (conv => whnf)) | ((with_reducible refine mt_any (fun _ => ?_) (fun _ => ?_)) <;> (conv => whnf)))
              refine (put_ok d hw w2 x hx.2.1 hx.2.2.1 hin.okay.fine.rising hin.okay.fine.few (hin.okay.outs' hw) hin.okay.fine.count).mono ?_
              rintro _ _ ⟨rfl, rfl⟩
              conv => whnf
              repeat' (first | ((with_reducible apply rd_intro); (focus (intro K hK; (conv => whnf); first | exact hK | (intro z hz; rw [wrapI (by omega)] at hz; subst hz; exact hK))); (conv => whnf)) | ((with_reducible apply gd_and); (focus ((conv => whnf) <;> first | rfl | (intro K hK; (conv => whnf); first | exact hK | (intro z hz; rw [wrapI (by omega)] at hz; subst hz; exact hK)))); (conv => whnf)) | ((with_reducible apply z_wrap); (focus omega); (conv => whnf)) | ((with_reducible refine mt_dec (fun _ => ?_) (fun _ => ?_)) <;> (conv => whnf)) | ((with_reducible refine mt_eq (fun _ => ?_) (fun _ => ?_)) <;> (conv => whnf)) | ((with_reducible refine mt_ne (fun _ => ?_) (fun _ => ?_)) <;> (conv => whnf)) | ((with_reducible refine mt_not (fun _ => ?_) (fun _ => ?_)) <;> (conv => whnf)) | ((with_reducible refine mt_any (fun _ => ?_) (fun _ => ?_)) <;> (conv => whnf)))
              exact ⟨(false, w2.put d i c2, j + 1), rfl, by rw [goIn, ← hin.first rfl]; rfl, hst, by show l.length - (j + 1) < l.length - j; omega⟩
            · rename_i hjl
              have hdn := hin.done hw hch hpos h0.round.1 h0.round.2.2 (fin := fin) hjl hl h0.fin
              have hr2 := hdn.1.round
              ((with_reducible refine draw_pl ttOk zOk foOk mixedOk pl38x4 ?_ ?_); (focus kernel_rfl); (conv => whnf))
              repeat' (first | ((with_reducible apply rd_intro); (focus (intro K hK; (conv => whnf); first | exact hK | (intro z hz; rw [wrapI (by omega)] at hz; subst hz; exact hK))); (conv => whnf)) | ((with_reducible apply gd_and); (focus ((conv => whnf) <;> first | rfl | (intro K hK; (conv => whnf); first | exact hK | (intro z hz; rw [wrapI (by omega)] at hz; subst hz; exact hK)))); (conv => whnf)) | ((with_reducible apply z_wrap); (focus omega); (conv => whnf)) | ((with_reducible refine mt_dec (fun _ => ?_) (fun _ => ?_)) <;> (conv => whnf)) | ((with_reducible refine mt_eq (fun _ => ?_) (fun _ => ?_)) <;> (conv => whnf)) | ((with_reducible refine mt_ne (fun _ => ?_) (fun _ => ?_)) <;> (conv => whnf)) | ((with_reducible refine mt_not (fun _ => ?_) (fun _ => ?_)) <;> (conv => whnf)) | ((with_reducible refine mt_any (fun _ => ?_) (fun _ => ?_)) <;> (conv => whnf)))
              refine (next_ok d hw w2.c.round ⟨hr2.1, hr2.2.1⟩).mono ?_
              rintro _ _ ⟨rfl, rfl⟩
              conv => whnf
              repeat' (first | ((with_reducible apply rd_intro); (focus (intro K hK; (conv => whnf); first | exact hK | (intro z hz; rw [wrapI (by omega)] at hz; subst hz; exact hK))); (conv => whnf)) | ((with_reducible apply gd_and); (focus ((conv => whnf) <;> first | rfl | (intro K hK; (conv => whnf); first | exact hK | (intro z hz; rw [wrapI (by omega)] at hz; subst hz; exact hK)))); (conv => whnf)) | ((with_reducible apply z_wrap); (focus omega); (conv => whnf)) | ((with_reducible refine mt_dec (fun _ => ?_) (fun _ => ?_)) <;> (conv => whnf)) | ((with_reducible refine mt_eq (fun _ => ?_) (fun _ => ?_)) <;> (conv => whnf)) | ((with_reducible refine mt_ne (fun _ => ?_) (fun _ => ?_)) <;> (conv => whnf)) | ((with_reducible refine mt_not (fun _ => ?_) (fun _ => ?_)) <;> (conv => whnf)) | ((with_reducible refine mt_any (fun _ => ?_) (fun _ => ?_)) <;> (conv => whnf)))
              exact ⟨(true, w2), rfl, rfl, hdn.1, hdn.2⟩
          | false =>
            conv => whnf
            repeat' (first | ((with_reducible apply rd_intro); (focus (intro K hK; (conv => whnf); first | exact hK | (intro z hz; rw [wrapI (by omega)] at hz; subst hz; exact hK))); (conv => whnf)) | ((with_reducible apply gd_and); (focus ((conv => whnf) <;> first | rfl | (intro K hK; (conv => whnf); first | exact hK | (intro z hz; rw [wrapI (by omega)] at hz; subst hz; exact hK)))); (conv => whnf)) | ((with_reducible apply z_wrap); (focus omega); (conv => whnf)) | ((with_reducible refine mt_dec (fun _ => ?_) (fun _ => ?_)) <;> (conv => whnf)) | ((with_reducible refine mt_eq (fun _ => ?_) (fun _ => ?_)) <;> (conv => whnf)) | ((with_reducible refine mt_ne (fun _ => ?_) (fun _ => ?_)) <;> (conv => whnf)) | ((with_reducible refine mt_not (fun _ => ?_) (fun _ => ?_)) <;> (conv => whnf)) | ((with_reducible refine mt_any (fun _ => ?_) (fun _ => ?_)) <;> (conv => whnf)))
            · rename_i hjl
              have hjn : j < l.length := Int.ofNat_lt.1 hjl
              refine Exists.elim (hch.at hw hjn) fun x hx => Exists.elim hx fun i hx => Exists.elim hx fun c2 hx => ?_
              have hlen := hch.len hw
              have hlen2 := hw.len
              have hst := hin.step hw hch hjn hx.1 hx.2.1 hx.2.2.1 hx.2.2.2
              refine ⟨Int.natCast_nonneg _, by rw [Int.toNat_natCast, hnl]; exact hjn, ?_⟩
              conv => whnf
              refine ⟨_, by rw [Int.toNat_natCast]; exact nums_at hx.1, ?_⟩
              conv => whnf
              repeat' (first | ((with_reducible apply rd_intro); (focus (intro K hK; (conv => whnf); first | exact hK | (intro z hz; rw [wrapI (by omega)] at hz; subst hz; exact hK))); (conv => whnf)) | ((with_reducible apply gd_and); (focus ((conv => whnf) <;> first | rfl | (intro K hK; (conv => whnf); first | exact hK | (intro z hz; rw [wrapI (by omega)] at hz; subst hz; exact hK)))); (conv => whnf)) | ((with_reducible apply z_wrap); (focus omega); (conv => whnf)) | ((with_reducible refine mt_dec (fun _ => ?_) (fun _ => ?_)) <;> (conv => whnf)) | ((with_reducible refine mt_eq (fun _ => ?_) (fun _ => ?_)) <;> (conv => whnf)) | ((with_reducible refine mt_ne (fun _ => ?_) (fun _ => ?_)) <;> (conv => whnf)) | ((with_reducible refine mt_not (fun _ => ?_) (fun _ => ?_)) <;> (conv => whnf)) | ((with_reducible refine mt_any (fun _ => ?_) (fun _ => ?_)) <;> (conv => whnf)))
              refine (put_ok d hw w2 x hx.2.1 hx.2.2.1 hin.okay.fine.rising hin.okay.fine.few (hin.okay.outs' hw) hin.okay.fine.count).mono ?_
              rintro _ _ ⟨rfl, rfl⟩
              conv => whnf
              repeat' (first | ((with_reducible apply rd_intro); (focus (intro K hK; (conv => whnf); first | exact hK | (intro z hz; rw [wrapI (by omega)] at hz; subst hz; exact hK))); (conv => whnf)) | ((with_reducible apply gd_and); (focus ((conv => whnf) <;> first | rfl | (intro K hK; (conv => whnf); first | exact hK | (intro z hz; rw [wrapI (by omega)] at hz; subst hz; exact hK)))); (conv => whnf)) | ((with_reducible apply z_wrap); (focus omega); (conv => whnf)) | ((with_reducible refine mt_dec (fun _ => ?_) (fun _ => ?_)) <;> (conv => whnf)) | ((with_reducible refine mt_eq (fun _ => ?_) (fun _ => ?_)) <;> (conv => whnf)) | ((with_reducible refine mt_ne (fun _ => ?_) (fun _ => ?_)) <;> (conv => whnf)) | ((with_reducible refine mt_not (fun _ => ?_) (fun _ => ?_)) <;> (conv => whnf)) | ((with_reducible refine mt_any (fun _ => ?_) (fun _ => ?_)) <;> (conv => whnf)))
              exact ⟨(false, w2.put d i c2, j + 1), rfl, rfl, hst, by show l.length - (j + 1) < l.length - j; omega⟩
            · rename_i hjl
              have hdn := hin.done hw hch hpos h0.round.1 h0.round.2.2 (fin := fin) hjl hl h0.fin
              have hr2 := hdn.1.round
              ((with_reducible refine draw_pl ttOk zOk foOk mixedOk pl38x4 ?_ ?_); (focus kernel_rfl); (conv => whnf))
              repeat' (first | ((with_reducible apply rd_intro); (focus (intro K hK; (conv => whnf); first | exact hK | (intro z hz; rw [wrapI (by omega)] at hz; subst hz; exact hK))); (conv => whnf)) | ((with_reducible apply gd_and); (focus ((conv => whnf) <;> first | rfl | (intro K hK; (conv => whnf); first | exact hK | (intro z hz; rw [wrapI (by omega)] at hz; subst hz; exact hK)))); (conv => whnf)) | ((with_reducible apply z_wrap); (focus omega); (conv => whnf)) | ((with_reducible refine mt_dec (fun _ => ?_) (fun _ => ?_)) <;> (conv => whnf)) | ((with_reducible refine mt_eq (fun _ => ?_) (fun _ => ?_)) <;> (conv => whnf)) | ((with_reducible refine mt_ne (fun _ => ?_) (fun _ => ?_)) <;> (conv => whnf)) | ((with_reducible refine mt_not (fun _ => ?_) (fun _ => ?_)) <;> (conv => whnf)) | ((with_reducible refine mt_any (fun _ => ?_) (fun _ => ?_)) <;> (conv => whnf)))
              refine (next_ok d hw w2.c.round ⟨hr2.1, hr2.2.1⟩).mono ?_
              rintro _ _ ⟨rfl, rfl⟩
              conv => whnf
              repeat' (first | ((with_reducible apply rd_intro); (focus (intro K hK; (conv => whnf); first | exact hK | (intro z hz; rw [wrapI (by omega)] at hz; subst hz; exact hK))); (conv => whnf)) | ((with_reducible apply gd_and); (focus ((conv => whnf) <;> first | rfl | (intro K hK; (conv => whnf); first | exact hK | (intro z hz; rw [wrapI (by omega)] at hz; subst hz; exact hK)))); (conv => whnf)) | ((with_reducible apply z_wrap); (focus omega); (conv => whnf)) | ((with_reducible refine mt_dec (fun _ => ?_) (fun _ => ?_)) <;> (conv => whnf)) | ((with_reducible refine mt_eq (fun _ => ?_) (fun _ => ?_)) <;> (conv => whnf)) | ((with_reducible refine mt_ne (fun _ => ?_) (fun _ => ?_)) <;> (conv => whnf)) | ((with_reducible refine mt_not (fun _ => ?_) (fun _ => ?_)) <;> (conv => whnf)) | ((with_reducible refine mt_any (fun _ => ?_) (fun _ => ?_)) <;> (conv => whnf)))
              exact ⟨(false, w2), rfl, rfl, hdn.1, hdn.2⟩
      · rename_i hpos
        have hfe : fin = w := Exists.elim h0.fin fun n hn => hn.2.trans (goF_end hpos n)
        ((with_reducible refine draw_pl ttOk zOk foOk mixedOk pl38x10 ?_ ?_); (focus kernel_rfl); (conv => whnf))
        repeat' (first | ((with_reducible apply rd_intro); (focus (intro K hK; (conv => whnf); first | exact hK | (intro z hz; rw [wrapI (by omega)] at hz; subst hz; exact hK))); (conv => whnf)) | ((with_reducible apply gd_and); (focus ((conv => whnf) <;> first | rfl | (intro K hK; (conv => whnf); first | exact hK | (intro z hz; rw [wrapI (by omega)] at hz; subst hz; exact hK)))); (conv => whnf)) | ((with_reducible apply z_wrap); (focus omega); (conv => whnf)) | ((with_reducible refine mt_dec (fun _ => ?_) (fun _ => ?_)) <;> (conv => whnf)) | ((with_reducible refine mt_eq (fun _ => ?_) (fun _ => ?_)) <;> (conv => whnf)) | ((with_reducible refine mt_ne (fun _ => ?_) (fun _ => ?_)) <;> (conv => whnf)) | ((with_reducible refine mt_not (fun _ => ?_) (fun _ => ?_)) <;> (conv => whnf)) | ((with_reducible refine mt_any (fun _ => ?_) (fun _ => ?_)) <;> (conv => whnf)))
        exact .inl ⟨by rw [hfe]; exact h0.first rfl, by rw [hfe], by rw [hfe]⟩
    | false =>
      conv => whnf
      repeat' (first | ((with_reducible apply rd_intro); (focus (intro K hK; (conv => whnf); first | exact hK | (intro z hz; rw [wrapI (by omega)] at hz; subst hz; exact hK))); (conv => whnf)) | ((with_reducible apply gd_and); (focus ((conv => whnf) <;> first | rfl | (intro K hK; (conv => whnf); first | exact hK | (intro z hz; rw [wrapI (by omega)] at hz; subst hz; exact hK)))); (conv => whnf)) | ((with_reducible apply z_wrap); (focus omega); (conv => whnf)) | ((with_reducible refine mt_dec (fun _ => ?_) (fun _ => ?_)) <;> (conv => whnf)) | ((with_reducible refine mt_eq (fun _ => ?_) (fun _ => ?_)) <;> (conv => whnf)) | ((with_reducible refine mt_ne (fun _ => ?_) (fun _ => ?_)) <;> (conv => whnf)) | ((with_reducible refine mt_not (fun _ => ?_) (fun _ => ?_)) <;> (conv => whnf)) | ((with_reducible refine mt_any (fun _ => ?_) (fun _ => ?_)) <;> (conv => whnf)))
      · rename_i hpos
        have hsp := nextC_spec hw h0.round.1 h0.round.2.2 hpos
        have htop := hw.top
        have hch := h0.chain hw hpos
        ((with_reducible refine draw_pl ttOk zOk foOk mixedOk pl38x5 ?_ ?_); (focus kernel_rfl); (conv => whnf))
        repeat' (first | ((with_reducible apply rd_intro); (focus (intro K hK; (conv => whnf); first | exact hK | (intro z hz; rw [wrapI (by omega)] at hz; subst hz; exact hK))); (conv => whnf)) | ((with_reducible apply gd_and); (focus ((conv => whnf) <;> first | rfl | (intro K hK; (conv => whnf); first | exact hK | (intro z hz; rw [wrapI (by omega)] at hz; subst hz; exact hK)))); (conv => whnf)) | ((with_reducible apply z_wrap); (focus omega); (conv => whnf)) | ((with_reducible refine mt_dec (fun _ => ?_) (fun _ => ?_)) <;> (conv => whnf)) | ((with_reducible refine mt_eq (fun _ => ?_) (fun _ => ?_)) <;> (conv => whnf)) | ((with_reducible refine mt_ne (fun _ => ?_) (fun _ => ?_)) <;> (conv => whnf)) | ((with_reducible refine mt_not (fun _ => ?_) (fun _ => ?_)) <;> (conv => whnf)) | ((with_reducible refine mt_any (fun _ => ?_) (fun _ => ?_)) <;> (conv => whnf)))
        refine (back_ok d hw w.c.round (nextC d w.c.round) h0.round.1 hsp.1 hsp.2.2.2.1 ⟨hsp.2.2.2.2.2, by have := hsp.2.1; omega⟩ hsp.2.2.2.2.1).mono ?_
        rintro _ _ ⟨rfl, rfl⟩
        obtain ⟨l, hl⟩ : ∃ l, backI d w.c.round (nextC d w.c.round) = l := ⟨_, rfl⟩
        rw [hl] at hch ⊢
        have hnl := nums_length l
        conv => whnf
        repeat' (first | ((with_reducible apply rd_intro); (focus (intro K hK; (conv => whnf); first | exact hK | (intro z hz; rw [wrapI (by omega)] at hz; subst hz; exact hK))); (conv => whnf)) | ((with_reducible apply gd_and); (focus ((conv => whnf) <;> first | rfl | (intro K hK; (conv => whnf); first | exact hK | (intro z hz; rw [wrapI (by omega)] at hz; subst hz; exact hK)))); (conv => whnf)) | ((with_reducible apply z_wrap); (focus omega); (conv => whnf)) | ((with_reducible refine mt_dec (fun _ => ?_) (fun _ => ?_)) <;> (conv => whnf)) | ((with_reducible refine mt_eq (fun _ => ?_) (fun _ => ?_)) <;> (conv => whnf)) | ((with_reducible refine mt_ne (fun _ => ?_) (fun _ => ?_)) <;> (conv => whnf)) | ((with_reducible refine mt_not (fun _ => ?_) (fun _ => ?_)) <;> (conv => whnf)) | ((with_reducible refine mt_any (fun _ => ?_) (fun _ => ?_)) <;> (conv => whnf)))
        refine loop_go ttOk zOk foOk (σ := Bool × Wk × Nat) (goIn d c.done l) (fun s => goInI d c.done w l s.1 s.2.1 s.2.2) (fun s => l.length - s.2.2) [2, 4, 6, 37, 38, 39] ?_ ?_
        · conv => whnf
          exact ⟨(false, w, 0), by rw [hnl]; rfl, rfl, goInI.start hw hch h0.okay h0.first⟩
        · rintro ⟨b2, w2, j⟩ hin1
          have hin : goInI d c.done w l b2 w2 j := hin1
          clear hin1
          cases b2 with
          | true =>
            conv => whnf
            repeat' (first | ((with_reducible apply rd_intro); (focus (intro K hK; (conv => whnf); first | exact hK | (intro z hz; rw [wrapI (by omega)] at hz; subst hz; exact hK))); (conv => whnf)) | ((with_reducible apply gd_and); (focus ((conv => whnf) <;> first | rfl | (intro K hK; (conv => whnf); first | exact hK | (intro z hz; rw [wrapI (by omega)] at hz; subst hz; exact hK)))); (conv => whnf)) | ((with_reducible apply z_wrap); (focus omega); (conv => whnf)) | ((with_reducible refine mt_dec (fun _ => ?_) (fun _ => ?_)) <;> (conv => whnf)) | ((with_reducible refine mt_eq (fun _ => ?_) (fun _ => ?_)) <;> (conv => whnf)) | ((with_reducible refine mt_ne (fun _ => ?_) (fun _ => ?_)) <;> (conv => whnf)) | ((with_reducible refine mt_not (fun _ => ?_) (fun _ => ?_)) <;> (conv => whnf)) | ((with_reducible refine mt_any (fun _ => ?_) (fun _ => ?_)) <;> (conv => whnf)))
            · rename_i hjl
              have hjn : j < l.length := Int.ofNat_lt.1 hjl
              refine Exists.elim (hch.at hw hjn) fun x hx => Exists.elim hx fun i hx => Exists.elim hx fun c2 hx => ?_
              have hlen := hch.len hw
              have hlen2 := hw.len
              have hst := hin.step hw hch hjn hx.1 hx.2.1 hx.2.2.1 hx.2.2.2
              refine ⟨Int.natCast_nonneg _, by rw [Int.toNat_natCast, hnl]; exact hjn, ?_⟩
              conv => whnf
              refine ⟨_, by rw [Int.toNat_natCast]; exact nums_at hx.1, ?_⟩
              conv => whnf
              repeat' (first | ((with_reducible apply rd_intro); (focus (intro K hK; (conv => whnf); first | exact hK | (intro z hz; rw [wrapI (by omega)] at hz; subst hz; exact hK))); (conv => whnf)) | ((with_reducible apply gd_and); (focus ((conv => whnf) <;> first | rfl | (intro K hK; (conv => whnf); first | exact hK | (intro z hz; rw [wrapI (by omega)] at hz; subst hz; exact hK)))); (conv => whnf)) | ((with_reducible apply z_wrap); (focus omega); (conv => whnf)) | ((with_reducible refine mt_dec (fun _ => ?_) (fun _ => ?_)) <;> (conv => whnf)) | ((with_reducible refine mt_eq (fun _ => ?_) (fun _ => ?_)) <;> (conv => whnf)) | ((with_reducible refine mt_ne (fun _ => ?_) (fun _ => ?_)) <;> (conv => whnf)) | ((with_reducible refine mt_not (fun _ => ?_) (fun _ => ?_)) <;> (conv => whnf)) | ((with_reducible refine mt_any (fun _ => ?_) (fun _ => ?_)) <;> (conv => whnf)))
              refine (put_ok d hw w2 x hx.2.1 hx.2.2.1 hin.okay.fine.rising hin.okay.fine.few (hin.okay.outs' hw) hin.okay.fine.count).mono ?_
              rintro _ _ ⟨rfl, rfl⟩
              conv => whnf
              repeat' (first | ((with_reducible apply rd_intro); (focus (intro K hK; (conv => whnf); first | exact hK | (intro z hz; rw [wrapI (by omega)] at hz; subst hz; exact hK))); (conv => whnf)) | ((with_reducible apply gd_and); (focus ((conv => whnf) <;> first | rfl | (intro K hK; (conv => whnf); first | exact hK | (intro z hz; rw [wrapI (by omega)] at hz; subst hz; exact hK)))); (conv => whnf)) | ((with_reducible apply z_wrap); (focus omega); (conv => whnf)) | ((with_reducible refine mt_dec (fun _ => ?_) (fun _ => ?_)) <;> (conv => whnf)) | ((with_reducible refine mt_eq (fun _ => ?_) (fun _ => ?_)) <;> (conv => whnf)) | ((with_reducible refine mt_ne (fun _ => ?_) (fun _ => ?_)) <;> (conv => whnf)) | ((with_reducible refine mt_not (fun _ => ?_) (fun _ => ?_)) <;> (conv => whnf)) | ((with_reducible refine mt_any (fun _ => ?_) (fun _ => ?_)) <;> (conv => whnf)))
              exact ⟨(false, w2.put d i c2, j + 1), rfl, by rw [goIn, ← hin.first rfl]; rfl, hst, by show l.length - (j + 1) < l.length - j; omega⟩
            · rename_i hjl
              have hdn := hin.done hw hch hpos h0.round.1 h0.round.2.2 (fin := fin) hjl hl h0.fin
              have hr2 := hdn.1.round
              ((with_reducible refine draw_pl ttOk zOk foOk mixedOk pl38x4 ?_ ?_); (focus kernel_rfl); (conv => whnf))
              repeat' (first | ((with_reducible apply rd_intro); (focus (intro K hK; (conv => whnf); first | exact hK | (intro z hz; rw [wrapI (by omega)] at hz; subst hz; exact hK))); (conv => whnf)) | ((with_reducible apply gd_and); (focus ((conv => whnf) <;> first | rfl | (intro K hK; (conv => whnf); first | exact hK | (intro z hz; rw [wrapI (by omega)] at hz; subst hz; exact hK)))); (conv => whnf)) | ((with_reducible apply z_wrap); (focus omega); (conv => whnf)) | ((with_reducible refine mt_dec (fun _ => ?_) (fun _ => ?_)) <;> (conv => whnf)) | ((with_reducible refine mt_eq (fun _ => ?_) (fun _ => ?_)) <;> (conv => whnf)) | ((with_reducible refine mt_ne (fun _ => ?_) (fun _ => ?_)) <;> (conv => whnf)) | ((with_reducible refine mt_not (fun _ => ?_) (fun _ => ?_)) <;> (conv => whnf)) | ((with_reducible refine mt_any (fun _ => ?_) (fun _ => ?_)) <;> (conv => whnf)))
              refine (next_ok d hw w2.c.round ⟨hr2.1, hr2.2.1⟩).mono ?_
              rintro _ _ ⟨rfl, rfl⟩
              conv => whnf
              repeat' (first | ((with_reducible apply rd_intro); (focus (intro K hK; (conv => whnf); first | exact hK | (intro z hz; rw [wrapI (by omega)] at hz; subst hz; exact hK))); (conv => whnf)) | ((with_reducible apply gd_and); (focus ((conv => whnf) <;> first | rfl | (intro K hK; (conv => whnf); first | exact hK | (intro z hz; rw [wrapI (by omega)] at hz; subst hz; exact hK)))); (conv => whnf)) | ((with_reducible apply z_wrap); (focus omega); (conv => whnf)) | ((with_reducible refine mt_dec (fun _ => ?_) (fun _ => ?_)) <;> (conv => whnf)) | ((with_reducible refine mt_eq (fun _ => ?_) (fun _ => ?_)) <;> (conv => whnf)) | ((with_reducible refine mt_ne (fun _ => ?_) (fun _ => ?_)) <;> (conv => whnf)) | ((with_reducible refine mt_not (fun _ => ?_) (fun _ => ?_)) <;> (conv => whnf)) | ((with_reducible refine mt_any (fun _ => ?_) (fun _ => ?_)) <;> (conv => whnf)))
              exact ⟨(true, w2), rfl, rfl, hdn.1, hdn.2⟩
          | false =>
            conv => whnf
            repeat' (first | ((with_reducible apply rd_intro); (focus (intro K hK; (conv => whnf); first | exact hK | (intro z hz; rw [wrapI (by omega)] at hz; subst hz; exact hK))); (conv => whnf)) | ((with_reducible apply gd_and); (focus ((conv => whnf) <;> first | rfl | (intro K hK; (conv => whnf); first | exact hK | (intro z hz; rw [wrapI (by omega)] at hz; subst hz; exact hK)))); (conv => whnf)) | ((with_reducible apply z_wrap); (focus omega); (conv => whnf)) | ((with_reducible refine mt_dec (fun _ => ?_) (fun _ => ?_)) <;> (conv => whnf)) | ((with_reducible refine mt_eq (fun _ => ?_) (fun _ => ?_)) <;> (conv => whnf)) | ((with_reducible refine mt_ne (fun _ => ?_) (fun _ => ?_)) <;> (conv => whnf)) | ((with_reducible refine mt_not (fun _ => ?_) (fun _ => ?_)) <;> (conv => whnf)) | ((with_reducible refine mt_any (fun _ => ?_) (fun _ => ?_)) <;> (conv => whnf)))
            · rename_i hjl
              have hjn : j < l.length := Int.ofNat_lt.1 hjl
              refine Exists.elim (hch.at hw hjn) fun x hx => Exists.elim hx fun i hx => Exists.elim hx fun c2 hx => ?_
              have hlen := hch.len hw
              have hlen2 := hw.len
              have hst := hin.step hw hch hjn hx.1 hx.2.1 hx.2.2.1 hx.2.2.2
              refine ⟨Int.natCast_nonneg _, by rw [Int.toNat_natCast, hnl]; exact hjn, ?_⟩
              conv => whnf
              refine ⟨_, by rw [Int.toNat_natCast]; exact nums_at hx.1, ?_⟩
              conv => whnf
              repeat' (first | ((with_reducible apply rd_intro); (focus (intro K hK; (conv => whnf); first | exact hK | (intro z hz; rw [wrapI (by omega)] at hz; subst hz; exact hK))); (conv => whnf)) | ((with_reducible apply gd_and); (focus ((conv => whnf) <;> first | rfl | (intro K hK; (conv => whnf); first | exact hK | (intro z hz; rw [wrapI (by omega)] at hz; subst hz; exact hK)))); (conv => whnf)) | ((with_reducible apply z_wrap); (focus omega); (conv => whnf)) | ((with_reducible refine mt_dec (fun _ => ?_) (fun _ => ?_)) <;> (conv => whnf)) | ((with_reducible refine mt_eq (fun _ => ?_) (fun _ => ?_)) <;> (conv => whnf)) | ((with_reducible refine mt_ne (fun _ => ?_) (fun _ => ?_)) <;> (conv => whnf)) | ((with_reducible refine mt_not (fun _ => ?_) (fun _ => ?_)) <;> (conv => whnf)) | ((with_reducible refine mt_any (fun _ => ?_) (fun _ => ?_)) <;> (conv => whnf)))
              refine (put_ok d hw w2 x hx.2.1 hx.2.2.1 hin.okay.fine.rising hin.okay.fine.few (hin.okay.outs' hw) hin.okay.fine.count).mono ?_
              rintro _ _ ⟨rfl, rfl⟩
              conv => whnf
              repeat' (first | ((with_reducible apply rd_intro); (focus (intro K hK; (conv => whnf); first | exact hK | (intro z hz; rw [wrapI (by omega)] at hz; subst hz; exact hK))); (conv => whnf)) | ((with_reducible apply gd_and); (focus ((conv => whnf) <;> first | rfl | (intro K hK; (conv => whnf); first | exact hK | (intro z hz; rw [wrapI (by omega)] at hz; subst hz; exact hK)))); (conv => whnf)) | ((with_reducible apply z_wrap); (focus omega); (conv => whnf)) | ((with_reducible refine mt_dec (fun _ => ?_) (fun _ => ?_)) <;> (conv => whnf)) | ((with_reducible refine mt_eq (fun _ => ?_) (fun _ => ?_)) <;> (conv => whnf)) | ((with_reducible refine mt_ne (fun _ => ?_) (fun _ => ?_)) <;> (conv => whnf)) | ((with_reducible refine mt_not (fun _ => ?_) (fun _ => ?_)) <;> (conv => whnf)) | ((with_reducible refine mt_any (fun _ => ?_) (fun _ => ?_)) <;> (conv => whnf)))
              exact ⟨(false, w2.put d i c2, j + 1), rfl, rfl, hst, by show l.length - (j + 1) < l.length - j; omega⟩
            · rename_i hjl
              have hdn := hin.done hw hch hpos h0.round.1 h0.round.2.2 (fin := fin) hjl hl h0.fin
              have hr2 := hdn.1.round
              ((with_reducible refine draw_pl ttOk zOk foOk mixedOk pl38x4 ?_ ?_); (focus kernel_rfl); (conv => whnf))
              repeat' (first | ((with_reducible apply rd_intro); (focus (intro K hK; (conv => whnf); first | exact hK | (intro z hz; rw [wrapI (by omega)] at hz; subst hz; exact hK))); (conv => whnf)) | ((with_reducible apply gd_and); (focus ((conv => whnf) <;> first | rfl | (intro K hK; (conv => whnf); first | exact hK | (intro z hz; rw [wrapI (by omega)] at hz; subst hz; exact hK)))); (conv => whnf)) | ((with_reducible apply z_wrap); (focus omega); (conv => whnf)) | ((with_reducible refine mt_dec (fun _ => ?_) (fun _ => ?_)) <;> (conv => whnf)) | ((with_reducible refine mt_eq (fun _ => ?_) (fun _ => ?_)) <;> (conv => whnf)) | ((with_reducible refine mt_ne (fun _ => ?_) (fun _ => ?_)) <;> (conv => whnf)) | ((with_reducible refine mt_not (fun _ => ?_) (fun _ => ?_)) <;> (conv => whnf)) | ((with_reducible refine mt_any (fun _ => ?_) (fun _ => ?_)) <;> (conv => whnf)))
              refine (next_ok d hw w2.c.round ⟨hr2.1, hr2.2.1⟩).mono ?_
              rintro _ _ ⟨rfl, rfl⟩
              conv => whnf
              repeat' (first | ((with_reducible apply rd_intro); (focus (intro K hK; (conv => whnf); first | exact hK | (intro z hz; rw [wrapI (by omega)] at hz; subst hz; exact hK))); (conv => whnf)) | ((with_reducible apply gd_and); (focus ((conv => whnf) <;> first | rfl | (intro K hK; (conv => whnf); first | exact hK | (intro z hz; rw [wrapI (by omega)] at hz; subst hz; exact hK)))); (conv => whnf)) | ((with_reducible apply z_wrap); (focus omega); (conv => whnf)) | ((with_reducible refine mt_dec (fun _ => ?_) (fun _ => ?_)) <;> (conv => whnf)) | ((with_reducible refine mt_eq (fun _ => ?_) (fun _ => ?_)) <;> (conv => whnf)) | ((with_reducible refine mt_ne (fun _ => ?_) (fun _ => ?_)) <;> (conv => whnf)) | ((with_reducible refine mt_not (fun _ => ?_) (fun _ => ?_)) <;> (conv => whnf)) | ((with_reducible refine mt_any (fun _ => ?_) (fun _ => ?_)) <;> (conv => whnf)))
              exact ⟨(false, w2), rfl, rfl, hdn.1, hdn.2⟩
      · rename_i hpos
        have hfe : fin = w := Exists.elim h0.fin fun n hn => hn.2.trans (goF_end hpos n)
        ((with_reducible refine draw_pl ttOk zOk foOk mixedOk pl38x10 ?_ ?_); (focus kernel_rfl); (conv => whnf))
        repeat' (first | ((with_reducible apply rd_intro); (focus (intro K hK; (conv => whnf); first | exact hK | (intro z hz; rw [wrapI (by omega)] at hz; subst hz; exact hK))); (conv => whnf)) | ((with_reducible apply gd_and); (focus ((conv => whnf) <;> first | rfl | (intro K hK; (conv => whnf); first | exact hK | (intro z hz; rw [wrapI (by omega)] at hz; subst hz; exact hK)))); (conv => whnf)) | ((with_reducible apply z_wrap); (focus omega); (conv => whnf)) | ((with_reducible refine mt_dec (fun _ => ?_) (fun _ => ?_)) <;> (conv => whnf)) | ((with_reducible refine mt_eq (fun _ => ?_) (fun _ => ?_)) <;> (conv => whnf)) | ((with_reducible refine mt_ne (fun _ => ?_) (fun _ => ?_)) <;> (conv => whnf)) | ((with_reducible refine mt_not (fun _ => ?_) (fun _ => ?_)) <;> (conv => whnf)) | ((with_reducible refine mt_any (fun _ => ?_) (fun _ => ?_)) <;> (conv => whnf)))
        exact .inr ⟨by rw [hfe], by rw [hfe]⟩
end Go.Proofs.Ytoeppembokpjkaa

namespace Go.Proofs.Ytoeppembokpjkaa
open Go.Ab Go.RowKit
/-! ## what lies below a certificate -/
theorem mem_addS {x : Int} : ∀ {ps ks : List Int}, x ∈ addS ks ps ↔ x ∈ ks ∨ x ∈ ps
  | [], ks => by simp [addS]
  | p :: ps, ks => by
    show x ∈ addS (insS ks p) ps ↔ _
    rw [mem_addS, mem_insS, List.mem_cons]
    constructor
    · rintro ((h | h) | h)
      · exact .inl h
      · exact .inr (.inl h)
      · exact .inr (.inr h)
    · rintro (h | h | h)
      · exact .inl (.inl h)
      · exact .inl (.inr h)
      · exact .inr h
def desc (l : List Cert) : Prop := l.Pairwise fun x y => y.round ≤ x.round
theorem downL_low {dl low : Int} : ∀ {l : List Cert} {ks : List Int}, (∀ c ∈ l, c.round ≤ low) → downL dl low l ks = []
  | [], _, _ => rfl
  | c :: r, ks, h => by rw [downL, if_pos (h c (by simp))]
theorem downL_skip {dl low : Int} : ∀ {l1 l2 : List Cert} {ks : List Int}, desc (l1 ++ l2) → (∀ c ∈ l1, c.digest ∉ ks) → downL dl low (l1 ++ l2) ks = downL dl low l2 ks
  | [], _, _, _, _ => rfl
  | c :: r, l2, ks, hd, h => by
    have hd' := List.pairwise_cons.1 hd
    rw [List.cons_append, downL]
    by_cases h1 : c.round ≤ low
    · rw [if_pos h1, downL_low]
      intro y hy
      have := hd'.1 y (List.mem_append_right _ hy)
      omega
    · rw [if_neg h1, if_neg (h c (by simp))]
      exact downL_skip hd'.2 fun y hy => h y (by simp [hy])
theorem desc_rev {l : List Cert} (h : sortedC l) : desc l.reverse := by
  unfold desc
  rw [List.pairwise_reverse]
  exact h.imp fun h => by have := before_iff.1 h; omega
theorem dig_at {d : Dag} (hd : (d.certs.map (·.digest)).Nodup) {i : Nat} {c : Cert} (h : d.certs[i]? = some c) : ∀ x ∈ d.certs.drop (i + 1), x.digest ≠ c.digest := by
  intro x hx e
  obtain ⟨hi, rfl⟩ := List.getElem?_eq_some_iff.1 h
  have h1 : d.certs = d.certs.take (i + 1) ++ d.certs.drop (i + 1) := (List.take_append_drop ..).symm
  rw [h1, List.map_append, List.nodup_append] at hd
  exact hd.2.2 d.certs[i].digest (List.mem_map.2 ⟨d.certs[i], List.mem_take_iff_getElem.2 ⟨i, by omega, rfl⟩, rfl⟩) x.digest (List.mem_map.2 ⟨x, hx, rfl⟩) e.symm
theorem downI_eq {d : Dag} (hs : sortedC d.certs) (hd : (d.certs.map (·.digest)).Nodup) {i : Nat} {c : Cert} (h : d.certs[i]? = some c) (low : Int) : downI d i low = downL d.low low d.certs.reverse [c.digest] := by
  unfold downI
  rw [h]
  have e : d.certs.reverse = (d.certs.drop (i + 1)).reverse ++ (d.certs.take (i + 1)).reverse := by
    rw [← List.reverse_append, List.take_append_drop]
  have hdsc := desc_rev hs
  rw [e] at hdsc ⊢
  rw [downL_skip hdsc]
  · rfl
  · intro x hx
    have := dig_at hd h x (List.mem_reverse.1 hx)
    simpa using this
/-- certificates that are no one's below do not matter -/
theorem downL_filter {dl low : Int} (S : Int → Bool) : ∀ {l : List Cert} {ks : List Int}, (∀ k ∈ ks, S k = true) → (∀ c ∈ l, S c.digest = true → c.round > dl + 1 → ∀ x ∈ c.pars, S x = true) → desc l → downL dl low l ks = downL dl low (l.filter fun c => S c.digest) ks
  | [], _, _, _, _ => rfl
  | c :: r, ks, hk, hc, hd => by
    have hd' := List.pairwise_cons.1 hd
    by_cases h1 : c.round ≤ low
    · rw [downL_low, downL_low]
      · intro y hy
        rcases List.mem_cons.1 (List.mem_filter.1 hy).1 with rfl | hy
        · exact h1
        · have := hd'.1 y hy; omega
      · intro y hy
        rcases List.mem_cons.1 hy with rfl | hy
        · exact h1
        · have := hd'.1 y hy; omega
    · have hr : ∀ y ∈ r, S y.digest = true → y.round > dl + 1 → ∀ x ∈ y.pars, S x = true := fun y hy => hc y (by simp [hy])
      cases hS : S c.digest with
      | false =>
        rw [List.filter_cons, hS]
        rw [downL, if_neg h1, if_neg (fun h => by rw [hk _ h] at hS; cases hS)]
        exact downL_filter S hk hr hd'.2
      | true =>
        rw [List.filter_cons, hS, if_pos rfl, downL, downL, if_neg h1, if_neg h1]
        by_cases h2 : c.digest ∈ ks
        · rw [if_pos h2, if_pos h2]
          congr 1
          refine downL_filter S ?_ hr hd'.2
          split
          · rename_i h3
            intro k hk'
            rcases mem_addS.1 hk' with h4 | h4
            · exact hk k h4
            · exact hc c (by simp) hS h3 k h4
          · exact hk
        · rw [if_neg h2, if_neg h2]
          exact downL_filter S hk hr hd'.2
theorem down_mem {dl low : Int} : ∀ {l : List Cert} {ks : List Int} {c : Cert}, desc l → c ∈ l → c.digest ∈ ks → c.round > low → c.digest ∈ downL dl low l ks
  | x :: r, ks, c, hd, h, hk, hr => by
    have hd' := List.pairwise_cons.1 hd
    have hx : ¬ x.round ≤ low := by
      rcases List.mem_cons.1 h with rfl | h
      · omega
      · have := hd'.1 c h; omega
    rw [downL, if_neg hx]
    rcases List.mem_cons.1 h with rfl | h
    · rw [if_pos hk]; simp
    · split
      · exact List.mem_cons_of_mem _ (down_mem hd'.2 h (by split; exact mem_addS.2 (.inl hk); exact hk) hr)
      · exact down_mem hd'.2 h hk hr
theorem down_closed {dl low : Int} : ∀ {l : List Cert} {ks : List Int} {c p : Cert}, desc l → (l.map (·.digest)).Nodup → c ∈ l → c.digest ∈ downL dl low l ks → c.round > dl + 1 → p ∈ l → p.digest ∈ c.pars → low < p.round → p.round < c.round → p.digest ∈ downL dl low l ks
  | x :: r, ks, c, p, hd, hn, hc, hcd, hcr, hp, hpc, hpl, hpr => by
    have hd' := List.pairwise_cons.1 hd
    have hn' := List.nodup_cons.1 hn
    have hpx : p ∈ r := by
      rcases List.mem_cons.1 hp with rfl | h
      · rcases List.mem_cons.1 hc with rfl | h2
        · omega
        · have := hd'.1 c h2; omega
      · exact h
    have hx : ¬ x.round ≤ low := by have := hd'.1 p hpx; omega
    rw [downL, if_neg hx] at hcd ⊢
    rcases List.mem_cons.1 hc with rfl | hcr'
    · by_cases hk : c.digest ∈ ks
      · rw [if_pos hk, if_pos hcr]
        exact List.mem_cons_of_mem _ (down_mem hd'.2 hpx (mem_addS.2 (.inr hpc)) hpl)
      · rw [if_neg hk] at hcd
        exact absurd ((down_sub dl low r ks).subset hcd) hn'.1
    · have hne : c.digest ≠ x.digest := fun e => hn'.1 (List.mem_map.2 ⟨c, hcr', e⟩)
      split at hcd
      · rename_i hk
        rw [if_pos hk]
        rcases List.mem_cons.1 hcd with h | h
        · exact absurd h hne
        · exact List.mem_cons_of_mem _ (down_closed hd'.2 hn'.2 hcr' h hcr hpx hpc hpl hpr)
      · rename_i hk
        rw [if_neg hk]
        exact down_closed hd'.2 hn'.2 hcr' hcd hcr hpx hpc hpl hpr
/-- a certificate's ancestors -/
inductive Anc (d : Dag) (x : Cert) : Cert → Prop
  | refl : Anc d x x
  | step {z y : Cert} : Anc d x z → z.round > d.low + 1 → y ∈ d.certs → y.digest ∈ z.pars → y.round < z.round → Anc d x y
theorem Anc.cons {d : Dag} {x p y : Cert} (hx : x.round > d.low + 1) (hp : p ∈ d.certs) (hxp : p.digest ∈ x.pars) (hr : p.round < x.round) (h : Anc d p y) : Anc d x y := by
  induction h with
  | refl => exact .step .refl hx hp hxp hr
  | step _ h1 h2 h3 h4 ih => exact .step ih h1 h2 h3 h4
theorem anc_down {d : Dag} (hs : sortedC d.certs) (hd : (d.certs.map (·.digest)).Nodup) {x y : Cert} {i : Nat} (hx : d.certs[i]? = some x) (h : Anc d x y) {low : Int} (hl : low < y.round) : y.digest ∈ downI d i low ∧ y ∈ d.certs := by
  rw [downI_eq hs hd hx]
  have hn : (d.certs.reverse.map (·.digest)).Nodup := by rw [List.map_reverse]; exact (List.reverse_perm _).nodup_iff.2 hd
  induction h with
  | refl => exact ⟨down_mem (desc_rev hs) (List.mem_reverse.2 (List.mem_of_getElem? hx)) (by simp) hl, List.mem_of_getElem? hx⟩
  | step _ h1 h2 h3 h4 ih =>
    obtain ⟨i1, i2⟩ := ih (by omega)
    exact ⟨down_closed (desc_rev hs) hn (List.mem_reverse.2 i2) i1 h1 (List.mem_reverse.2 h2) h3 hl h4, h2⟩
end Go.Proofs.Ytoeppembokpjkaa
