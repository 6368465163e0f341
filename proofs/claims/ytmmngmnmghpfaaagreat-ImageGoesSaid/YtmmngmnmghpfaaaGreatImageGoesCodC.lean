/- ImageGoes: contracts. -/
import Derived.Test.YtmmngmnmghpfaaaGreatImageGoesCodB
set_option linter.unusedVariables false
set_option linter.unusedSimpArgs false
namespace Go.Proofs.YtmmngmnmghpfaaaGreat
open Go.Ab Go.RowKit Go.MapKept
attribute [local irreducible] ACalls AW ADraw Into fltB fnear
set_option maxRecDepth 100000
theorem rMay_ok (n : Int) : ACalls Tryz.prog 18 [.d (.int .i64 n)] [] (fun av L => av = .d (.bool (isN n)) ∧ L = []) := by
  unfold isN
  (refine acalls_go ttOk zOk foOk Tryz.func18 rfl Tryz.ntmps18 rfl false rfl ?_); (conv => whnf)
  refine rdw ?_; repeat' ((with_reducible apply tw) <;> intro _)
  · rename_i h1 h2
    refine ⟨by decide, ?_⟩
    intro z hz
    have hz2 := tmod_pos (by omega) hz
    clear hz
    subst hz2
    conv => whnf
    exact ⟨boolEq (by simp; omega), rfl⟩
  · rename_i h1 h2
    exact ⟨by rw [decide_eq_false (by omega)]; rfl, rfl⟩
  · rename_i h1
    exact ⟨by rw [decide_eq_false (by omega)]; rfl, rfl⟩
theorem rQuorum_ok (n : Int) (hn : isN n = true) : ACalls Tryz.prog 45 [.d (.int .i64 n)] [] (fun av L => av = .d (.int .i64 (2 * ((n - 1) / 3) + 1)) ∧ L = []) := by
  have hn' := of_decide_eq_true hn
  (refine acalls_go ttOk zOk foOk Tryz.func45 rfl Tryz.ntmps45 rfl false rfl ?_); (conv => whnf)
  refine ⟨by decide, ?_⟩
  intro z hz
  have : z = (n - 1) / 3 := by rw [hz, Int.tdiv_eq_ediv_of_nonneg (by omega), wrapI (by omega)]; omega
  clear hz
  subst this
  conv => whnf
  refine rdw ?_; repeat' ((with_reducible apply tw) <;> intro _)
  exact ⟨rfl, rfl⟩
theorem rDigest_ok (n : Int) : ACalls Tryz.prog 42 [.d (.int .i64 n)] [] (fun av L => av = .d (.bool (decide (1 ≤ n ∧ n ≤ 65536))) ∧ L = []) := by
  (refine acalls_go ttOk zOk foOk Tryz.func42 rfl Tryz.ntmps42 rfl false rfl ?_); (conv => whnf)
  refine rdw ?_; repeat' ((with_reducible apply tw) <;> intro _)
  · rename_i h1
    exact ⟨boolEq (by simp; omega), rfl⟩
  · rename_i h1
    exact ⟨by rw [decide_eq_false (by omega)]; rfl, rfl⟩
theorem rBefore_ok (r a s b : Int) : ACalls Tryz.prog 20 [.d (.int .i64 r), .d (.int .i64 a), .d (.int .i64 s), .d (.int .i64 b)] [] (fun av L => av = .d (.bool (decide (r < s ∨ r = s ∧ a < b))) ∧ L = []) := by
  (refine acalls_go ttOk zOk foOk Tryz.func20 rfl Tryz.ntmps20 rfl false rfl ?_); (conv => whnf)
  refine rdw ?_; repeat' ((with_reducible apply tw) <;> intro _)
  · rename_i h1
    exact ⟨by rw [decide_eq_true (.inl h1 : r < s ∨ r = s ∧ a < b)]; rfl, rfl⟩
  · rename_i h1 h2
    exact ⟨boolEq (by simp; omega), rfl⟩
  · rename_i h1 h2
    exact ⟨by rw [decide_eq_false (by omega)]; rfl, rfl⟩
theorem rising_take_succ {l : List Int} {j : Nat} {y x : Int} (hy : l[j]? = some y) (hx : l[j + 1]? = some x) : risingI (l.take (j + 2)) ↔ risingI (l.take (j + 1)) ∧ y < x := by
  rw [show l.take (j + 2) = l.take (j + 1) ++ [x] by rw [List.take_add_one, hx]; rfl, rising_snoc]
  constructor
  · rintro ⟨h1, h2⟩
    exact ⟨h1, h2 y (by rw [List.take_add_one, hy]; simp)⟩
  · rintro ⟨h1, h2⟩
    exact ⟨h1, fun z hz => by have := rising_last h1 hy z hz; omega⟩
open Classical in
theorem rRising_ok (l : List Int) (hl : few l) : ACalls Tryz.prog 43 [.d (.sl 1 (nums l))] [] (fun av L => av = .d (.bool (decide (risingI l))) ∧ L = []) := by
  have hll := nums_length l
  unfold few at hl
  (refine acalls_go ttOk zOk foOk Tryz.func43 rfl Tryz.ntmps43 rfl false rfl ?_); (conv => whnf)
  refine loop_go ttOk zOk foOk (σ := Nat) (fun j => ([(0, .d (.sl 1 (nums l))), (3, .d (.int .i64 ((j : Int) + 1)))], [])) (fun j => j ≤ l.length ∧ risingI (l.take (j + 1))) (fun j => l.length - j) [0, 3] ?_ ?_
  · conv => whnf
    refine ⟨0, rfl, rfl, Nat.zero_le _, ?_⟩
    cases l with
    | nil => simp [risingI]
    | cons a t => simp [risingI]
  · rintro j ⟨hj, hr⟩
    conv => whnf
    refine rdw ?_; repeat' ((with_reducible apply tw) <;> intro _)
    · rename_i h
      obtain ⟨y, hy⟩ : ∃ y, l[j]? = some y := ⟨_, List.getElem?_eq_getElem (by omega)⟩
      obtain ⟨x, hx⟩ : ∃ x, l[j + 1]? = some x := ⟨_, List.getElem?_eq_getElem (by omega)⟩
      have hs := rising_take_succ hy hx
      ((with_reducible refine draw_pl ttOk zOk foOk mixedOk pl43x4 ?_ ?_); (focus kernel_rfl); (conv => whnf))
      refine rdw ?_; repeat' ((with_reducible apply tw) <;> intro _)
      ((with_reducible apply rd_intro); (focus (intro K hK; (conv => whnf); exact ⟨by omega, [.int .i64 x], (by rw [show ((j : Int) + 1).toNat = j + 1 by omega]; exact nums_at hx), hK⟩)); (conv => whnf))
      refine rdw ?_; repeat' ((with_reducible apply tw) <;> intro _)
      ((with_reducible apply rd_intro); (focus (intro K hK; (conv => whnf); exact ⟨by omega, [.int .i64 y], (by rw [show ((j : Int) + 1 - 1).toNat = j by omega]; exact nums_at hy), hK⟩)); (conv => whnf))
      refine rdw ?_; repeat' ((with_reducible apply tw) <;> intro _)
      · rename_i h2
        exact ⟨by rw [decide_eq_false (fun h3 => by have := (hs.1 (h3.sublist (List.take_sublist ..))).2; omega)]; rfl, rfl⟩
      · rename_i h2
        exact ⟨j + 1, rfl, rfl, ⟨by omega, hs.2 ⟨hr, by omega⟩⟩, by omega⟩
    · rename_i h
      rw [List.take_of_length_le (by omega)] at hr
      exact ⟨by rw [decide_eq_true hr]; rfl, rfl⟩
open Classical in
theorem rBetween_ok (l : List Int) (hl : few l) (a b : Int) : ACalls Tryz.prog 44 [.d (.sl 1 (nums l)), .d (.int .i64 a), .d (.int .i64 b)] [] (fun av L => av = .d (.bool (decide (∀ x ∈ l, a ≤ x ∧ x ≤ b))) ∧ L = []) := by
  have hll := nums_length l
  unfold few at hl
  (refine acalls_go ttOk zOk foOk Tryz.func44 rfl Tryz.ntmps44 rfl false rfl ?_); (conv => whnf)
  refine loop_go ttOk zOk foOk (σ := Nat) (fun j => ([(0, .d (.sl 1 (nums l))), (1, .d (.int .i64 a)), (2, .d (.int .i64 b)), (7, .d (.int .i64 j))], [])) (fun j => j ≤ l.length ∧ ∀ x ∈ l.take j, a ≤ x ∧ x ≤ b) (fun j => l.length - j) [0, 1, 2, 7] ?_ ?_
  · conv => whnf
    exact ⟨0, rfl, rfl, Nat.zero_le _, by simp⟩
  · rintro j ⟨hj, hr⟩
    conv => whnf
    refine rdw ?_; repeat' ((with_reducible apply tw) <;> intro _)
    · rename_i h
      obtain ⟨x, hx⟩ : ∃ x, l[j]? = some x := ⟨_, List.getElem?_eq_getElem (by omega)⟩
      refine ⟨by omega, [.int .i64 x], nums_at hx, ?_⟩
      conv => whnf
      refine rdw ?_; repeat' ((with_reducible apply tw) <;> intro _)
      · rename_i h2
        exact ⟨by rw [decide_eq_false (fun h3 => by have := h3 x (List.mem_of_getElem? hx); omega)]; rfl, rfl⟩
      · rename_i h2
        refine ⟨by omega, [.int .i64 x], nums_at hx, ?_⟩
        conv => whnf
        refine rdw ?_; repeat' ((with_reducible apply tw) <;> intro _)
        · rename_i h3
          exact ⟨by rw [decide_eq_false (fun h4 => by have := h4 x (List.mem_of_getElem? hx); omega)]; rfl, rfl⟩
        · rename_i h3
          refine ⟨j + 1, rfl, rfl, ⟨by omega, fun z hz => ?_⟩, by omega⟩
          rw [List.take_add_one, hx] at hz
          rcases List.mem_append.1 hz with hz | hz
          · exact hr z hz
          · simp at hz; omega
    · rename_i h
      rw [List.take_of_length_le (by omega)] at hr
      exact ⟨by rw [decide_eq_true hr]; rfl, rfl⟩
open Classical in
theorem rDigests_ok (l : List Int) (hl : few l) : ACalls Tryz.prog 91 [.d (.sl 1 (nums l))] [] (fun av L => av = .d (.bool (decide (∀ x ∈ l, 1 ≤ x ∧ x ≤ 65536))) ∧ L = []) := by
  (refine acalls_go ttOk zOk foOk Tryz.func91 rfl Tryz.ntmps91 rfl false rfl ?_); (conv => whnf)
  refine (rBetween_ok l hl 1 65536).mono ?_
  rintro _ _ ⟨rfl, rfl⟩
  conv => whnf
  exact ⟨rfl, rfl⟩
open Classical in
theorem rdigests_ok (l : List Int) (hl : few l) (m : Int) : ACalls Tryz.prog 70 [.d (.sl 1 (nums l)), .d (.int .i64 m)] [] (fun av L => av = .d (.bool (decide ((l.length : Int) ≤ m ∧ riseB l 1 65536))) ∧ L = []) := by
  have hll := nums_length l
  (refine acalls_go ttOk zOk foOk Tryz.func70 rfl Tryz.ntmps70 rfl false rfl ?_); (conv => whnf)
  rw [hll]
  refine rdw ?_; repeat' ((with_reducible apply tw) <;> intro _)
  · rename_i h1
    refine (rDigests_ok l hl).mono ?_
    rintro _ _ ⟨rfl, rfl⟩
    conv => whnf
    refine rdw ?_; repeat' ((with_reducible apply tw) <;> intro _)
    · rename_i h2
      refine (rRising_ok l hl).mono ?_
      rintro _ _ ⟨rfl, rfl⟩
      conv => whnf
      exact ⟨boolEq (by simp only [decide_eq_true_iff]; exact ⟨fun h => ⟨h1, h, h2⟩, fun h => h.2.1⟩), rfl⟩
    · rename_i h2
      exact ⟨by rw [decide_eq_false (fun h => h2 h.2.2)]; rfl, rfl⟩
  · rename_i h1
    exact ⟨by rw [decide_eq_false (fun h => h1 h.1)]; rfl, rfl⟩
def quo (n : Int) : Int := 2 * ((n - 1) / 3) + 1
structure okHead (n : Int) (c : Cert) : Prop where
  isn : isN n = true
  author : 1 ≤ c.author ∧ c.author ≤ n
  round : 1 ≤ c.round ∧ c.round ≤ 1099511627776
  bats : (c.bats.length : Int) ≤ 8 ∧ riseB c.bats 1 65536
  pars : (c.pars.length : Int) ≤ n ∧ riseB c.pars 1 65536
  one : c.round = 1 → c.pars = []
  many : c.round ≠ 1 → (c.pars.length : Int) ≥ quo n
structure okCert (n : Int) (c : Cert) : Prop where
  head : okHead n c
  digest : 1 ≤ c.digest ∧ c.digest ≤ 65536
  sigs : riseB c.sigs 1 n
  enough : (c.sigs.length : Int) ≥ quo n
structure fewL (c : Cert) : Prop where
  bats : few c.bats
  pars : few c.pars
  sigs : few c.sigs
open Classical in
theorem rHeader_ok (c : Cert) (hf : fewL c) (n : Int) : ACalls Tryz.prog 41 [c.hav, .d (.int .i64 n)] [] (fun av L => av = .d (.bool (decide (okHead n c))) ∧ L = []) := by
  have hpl := nums_length c.pars
  (refine acalls_go ttOk zOk foOk Tryz.func41 rfl Tryz.ntmps41 rfl false rfl ?_); (conv => whnf)
  refine (rMay_ok n).mono ?_
  rintro _ _ ⟨rfl, rfl⟩
  cases hn : isN n with
  | false =>
    conv => whnf
    exact ⟨by rw [decide_eq_false (fun h => by have := h.isn; rw [hn] at this; cases this)]; rfl, rfl⟩
  | true =>
    have hn' := of_decide_eq_true hn
    conv => whnf
    refine rdw ?_; repeat' ((with_reducible apply tw) <;> intro _)
    · rename_i h
      exact ⟨by rw [decide_eq_false (fun h1 => by have := h1.author; omega)]; rfl, rfl⟩
    · rename_i h1 h
      exact ⟨by rw [decide_eq_false (fun h1 => by have := h1.author; omega)]; rfl, rfl⟩
    · rename_i h1 h2 h
      exact ⟨by rw [decide_eq_false (fun h1 => by have := h1.round; omega)]; rfl, rfl⟩
    · rename_i h1 h2 h3 h
      exact ⟨by rw [decide_eq_false (fun h1 => by have := h1.round; omega)]; rfl, rfl⟩
    · rename_i h1 h2 h3 h4
      refine (rdigests_ok c.bats hf.bats 8).mono ?_
      rintro _ _ ⟨rfl, rfl⟩
      conv => whnf
      refine rdw ?_; repeat' ((with_reducible apply tw) <;> intro _)
      · rename_i h5
        exact ⟨by rw [decide_eq_false (fun h => of_decide_eq_false h5 h.bats)]; rfl, rfl⟩
      · rename_i h5
        replace h5 := of_decide_eq_true h5
        refine (rdigests_ok c.pars hf.pars n).mono ?_
        rintro _ _ ⟨rfl, rfl⟩
        conv => whnf
        refine rdw ?_; repeat' ((with_reducible apply tw) <;> intro _)
        · rename_i h6
          exact ⟨by rw [decide_eq_false (fun h => of_decide_eq_false h6 h.pars)]; rfl, rfl⟩
        · rename_i h6 h7
          replace h6 := of_decide_eq_true h6
          refine ⟨boolEq ?_, rfl⟩
          simp only [beq_iff_eq, decide_eq_true_iff, hpl]
          constructor
          · intro h8
            exact ⟨hn, by omega, by omega, h5, h6, fun _ => List.eq_nil_of_length_eq_zero (by omega), fun h => absurd h7 h⟩
          · intro h8
            rw [h8.one h7]; rfl
        · rename_i h6 h7
          replace h6 := of_decide_eq_true h6
          ((with_reducible refine draw_pl ttOk zOk foOk mixedOk pl41x5 ?_ ?_); (focus kernel_rfl); (conv => whnf))
          refine rdw ?_; repeat' ((with_reducible apply tw) <;> intro _)
          refine (rQuorum_ok n hn).mono ?_
          rintro _ _ ⟨rfl, rfl⟩
          conv => whnf
          refine rdw ?_; repeat' ((with_reducible apply tw) <;> intro _)
          refine ⟨boolEq ?_, rfl⟩
          simp only [decide_eq_true_iff, hpl]
          constructor
          · intro h8
            exact ⟨hn, by omega, by omega, h5, h6, fun h => absurd h h7, fun _ => h8⟩
          · intro h8
            exact h8.many h7
open Classical in
theorem rCert_ok (c : Cert) (hf : fewL c) (n : Int) : ACalls Tryz.prog 19 [c.av, .d (.int .i64 n)] [] (fun av L => av = .d (.bool (decide (okCert n c))) ∧ L = []) := by
  have hsl := nums_length c.sigs
  (refine acalls_go ttOk zOk foOk Tryz.func19 rfl Tryz.ntmps19 rfl false rfl ?_); (conv => whnf)
  ((with_reducible refine draw_pl ttOk zOk foOk mixedOk pl19x1 ?_ ?_); (focus kernel_rfl); (conv => whnf))
  refine rdw ?_; repeat' ((with_reducible apply tw) <;> intro _)
  refine (rHeader_ok c hf n).mono ?_
  rintro _ _ ⟨rfl, rfl⟩
  conv => whnf
  refine rdw ?_; repeat' ((with_reducible apply tw) <;> intro _)
  · rename_i h1
    refine (rDigest_ok c.digest).mono ?_
    rintro _ _ ⟨rfl, rfl⟩
    conv => whnf
    refine rdw ?_; repeat' ((with_reducible apply tw) <;> intro _)
    · rename_i h2
      refine (rRising_ok c.sigs hf.sigs).mono ?_
      rintro _ _ ⟨rfl, rfl⟩
      conv => whnf
      refine rdw ?_; repeat' ((with_reducible apply tw) <;> intro _)
      · rename_i h3
        refine (rBetween_ok c.sigs hf.sigs 1 n).mono ?_
        rintro _ _ ⟨rfl, rfl⟩
        conv => whnf
        refine rdw ?_; repeat' ((with_reducible apply tw) <;> intro _)
        · rename_i h4
          refine (rQuorum_ok n h1.isn).mono ?_
          rintro _ _ ⟨rfl, rfl⟩
          conv => whnf
          refine rdw ?_; repeat' ((with_reducible apply tw) <;> intro _)
          refine ⟨boolEq ?_, rfl⟩
          simp only [decide_eq_true_iff, hsl]
          exact ⟨fun h => ⟨h1, h2, ⟨h3, h4⟩, h⟩, fun h => h.enough⟩
        · rename_i h4
          exact ⟨by rw [decide_eq_false (fun h => h4 h.sigs.2)]; rfl, rfl⟩
      · rename_i h3
        exact ⟨by rw [decide_eq_false (fun h => h3 h.sigs.1)]; rfl, rfl⟩
    · rename_i h2
      exact ⟨by rw [decide_eq_false (fun h => h2 h.digest)]; rfl, rfl⟩
  · rename_i h1
    exact ⟨by rw [decide_eq_false (fun h => h1 h.head)]; rfl, rfl⟩
structure okForm (n : Int) (c : Cert) : Prop where
  author : 1 ≤ c.author ∧ c.author ≤ n
  round : 1 ≤ c.round ∧ c.round ≤ 1099511627776
  bats : (c.bats.length : Int) ≤ 8 ∧ riseB c.bats 1 65536
  pars : (c.pars.length : Int) ≤ n ∧ riseB c.pars 1 65536
  one : c.round = 1 → c.pars = []
open Classical in
theorem form_ok (c : Cert) (hf : fewL c) (n : Int) : ACalls Tryz.prog 117 [c.hav, .d (.int .i64 n)] [] (fun av L => av = .d (.bool (decide (okForm n c))) ∧ L = []) := by
  have hpl := nums_length c.pars
  have hbl := nums_length c.bats
  (refine acalls_go ttOk zOk foOk Tryz.func117 rfl Tryz.ntmps117 rfl false rfl ?_); (conv => whnf)
  refine rdw ?_; repeat' ((with_reducible apply tw) <;> intro _)
  · rename_i h
    exact ⟨by rw [decide_eq_false (fun h1 => by have := h1.author; omega)]; rfl, rfl⟩
  · rename_i h1 h
    exact ⟨by rw [decide_eq_false (fun h1 => by have := h1.author; omega)]; rfl, rfl⟩
  · rename_i h1 h2 h
    exact ⟨by rw [decide_eq_false (fun h1 => by have := h1.round; omega)]; rfl, rfl⟩
  · rename_i h1 h2 h3 h
    exact ⟨by rw [decide_eq_false (fun h1 => by have := h1.round; omega)]; rfl, rfl⟩
  · rename_i h1 h2 h3 h4 h
    exact ⟨by rw [decide_eq_false (fun h1 => by have := h1.bats.1; omega)]; rfl, rfl⟩
  · rename_i h1 h2 h3 h4 h5
    refine (digests_ok c.bats hf.bats).mono ?_
    rintro _ _ ⟨rfl, rfl⟩
    conv => whnf
    refine rdw ?_; repeat' ((with_reducible apply tw) <;> intro _)
    · rename_i h6
      refine (digests_ok c.pars hf.pars).mono ?_
      rintro _ _ ⟨rfl, rfl⟩
      conv => whnf
      refine rdw ?_; repeat' ((with_reducible apply tw) <;> intro _)
      · rename_i h7 h8 h9
        exact ⟨by rw [decide_eq_true ⟨by omega, by omega, ⟨by omega, h6⟩, ⟨by omega, h7⟩, fun h => absurd h (by omega)⟩]; rfl, rfl⟩
      · rename_i h7 h8 h9
        refine ⟨boolEq ?_, rfl⟩
        simp only [beq_iff_eq, decide_eq_true_iff, hpl]
        exact ⟨fun h => ⟨by omega, by omega, ⟨by omega, h6⟩, ⟨by omega, h7⟩, fun _ => List.eq_nil_of_length_eq_zero (by omega)⟩, fun h => by rw [h.one (by omega)]; rfl⟩
      · rename_i h7 h8
        exact ⟨by rw [decide_eq_false (fun h => by have := h.pars.1; omega)]; rfl, rfl⟩
      · rename_i h7
        exact ⟨by rw [decide_eq_false (fun h => h7 h.pars.2)]; rfl, rfl⟩
    · rename_i h6
      exact ⟨by rw [decide_eq_false (fun h => h6 h.bats.2)]; rfl, rfl⟩
open Classical in
theorem hMay_ok (c : Cert) (hf : fewL c) (n : Int) : ACalls Tryz.prog 93 [c.hav, .d (.int .i64 n)] [] (fun av L => av = .d (.bool (decide (okHead n c))) ∧ L = []) := by
  have hpl := nums_length c.pars
  (refine acalls_go ttOk zOk foOk Tryz.func93 rfl Tryz.ntmps93 rfl false rfl ?_); (conv => whnf)
  ((with_reducible refine draw_pl ttOk zOk foOk mixedOk pl93x1 ?_ ?_); (focus kernel_rfl); (conv => whnf))
  refine rdw ?_; repeat' ((with_reducible apply tw) <;> intro _)
  refine (is_ok n).mono ?_
  rintro _ _ ⟨rfl, rfl⟩
  obtain ⟨b, hb⟩ : ∃ b, isN n = b := ⟨_, rfl⟩
  rw [hb]
  conv => whnf
  refine rdw ?_; repeat' ((with_reducible apply tw) <;> intro _)
  · rename_i h1
    rw [h1] at hb
    have hn' := of_decide_eq_true hb
    refine (form_ok c hf n).mono ?_
    rintro _ _ ⟨rfl, rfl⟩
    conv => whnf
    refine rdw ?_; repeat' ((with_reducible apply tw) <;> intro _)
    · rename_i h2 h3
      exact ⟨by rw [decide_eq_true ⟨hb, h2.author, h2.round, h2.bats, h2.pars, h2.one, fun h => absurd h3 h⟩]; rfl, rfl⟩
    · rename_i h2 h3
      refine (q_ok n ⟨by omega, by omega⟩).mono ?_
      rintro _ _ ⟨rfl, rfl⟩
      conv => whnf
      refine rdw ?_; repeat' ((with_reducible apply tw) <;> intro _)
      refine ⟨boolEq ?_, rfl⟩
      simp only [decide_eq_true_iff, hpl]
      exact ⟨fun h => ⟨hb, h2.author, h2.round, h2.bats, h2.pars, h2.one, fun _ => h⟩, fun h => h.many h3⟩
    · rename_i h2
      exact ⟨by rw [decide_eq_false (fun h => h2 ⟨h.author, h.round, h.bats, h.pars, h.one⟩)]; rfl, rfl⟩
  · rename_i h1
    rw [h1] at hb
    exact ⟨by rw [decide_eq_false (fun h => by have := h.isn; rw [hb] at this; cases this)]; rfl, rfl⟩
open Classical in
theorem mayCert_ok (c : Cert) (hf : fewL c) (n : Int) : ACalls Tryz.prog 74 [c.av, .d (.int .i64 n)] [] (fun av L => av = .d (.bool (decide (okCert n c))) ∧ L = []) := by
  have hsl := nums_length c.sigs
  (refine acalls_go ttOk zOk foOk Tryz.func74 rfl Tryz.ntmps74 rfl false rfl ?_); (conv => whnf)
  ((with_reducible refine draw_pl ttOk zOk foOk mixedOk pl74x1 ?_ ?_); (focus kernel_rfl); (conv => whnf))
  refine rdw ?_; repeat' ((with_reducible apply tw) <;> intro _)
  refine (hMay_ok c hf n).mono ?_
  rintro _ _ ⟨rfl, rfl⟩
  conv => whnf
  refine rdw ?_; repeat' ((with_reducible apply tw) <;> intro _)
  · rename_i h1
    have hn' := of_decide_eq_true h1.isn
    refine (digest_ok c.digest).mono ?_
    rintro _ _ ⟨rfl, rfl⟩
    conv => whnf
    refine rdw ?_; repeat' ((with_reducible apply tw) <;> intro _)
    · rename_i h2
      refine (crising_ok c.sigs hf.sigs 1 n).mono ?_
      rintro _ _ ⟨rfl, rfl⟩
      conv => whnf
      refine rdw ?_; repeat' ((with_reducible apply tw) <;> intro _)
      · rename_i h3
        refine (q_ok n ⟨by omega, by omega⟩).mono ?_
        rintro _ _ ⟨rfl, rfl⟩
        conv => whnf
        refine rdw ?_; repeat' ((with_reducible apply tw) <;> intro _)
        refine ⟨boolEq ?_, rfl⟩
        simp only [decide_eq_true_iff, hsl]
        exact ⟨fun h => ⟨h1, h2, h3, h⟩, fun h => h.enough⟩
      · rename_i h3
        exact ⟨by rw [decide_eq_false (fun h => h3 h.sigs)]; rfl, rfl⟩
    · rename_i h2
      exact ⟨by rw [decide_eq_false (fun h => h2 h.digest)]; rfl, rfl⟩
  · rename_i h1
    exact ⟨by rw [decide_eq_false (fun h => h1 h.head)]; rfl, rfl⟩
end Go.Proofs.YtmmngmnmghpfaaaGreat
namespace Go.Proofs.YtmmngmnmghpfaaaGreat
open Go.Ab Go.RowKit
theorem dig_inj {l : List Cert} (h : (l.map (·.digest)).Nodup) {x y : Cert} (hx : x ∈ l) (hy : y ∈ l) (e : x.digest = y.digest) : x = y := by
  induction l with
  | nil => cases hx
  | cons z r ih =>
    rw [List.map_cons, List.nodup_cons] at h
    rcases List.mem_cons.1 hx with hx1 | hx1
    · rcases List.mem_cons.1 hy with hy1 | hy1
      · rw [hx1, hy1]
      · exact absurd (List.mem_map.2 ⟨y, hy1, by rw [← e, hx1]⟩) h.1
    · rcases List.mem_cons.1 hy with hy1 | hy1
      · exact absurd (List.mem_map.2 ⟨x, hx1, by rw [e, hy1]⟩) h.1
      · exact ih h.2 hx1 hy1
def certOf (d : Dag) (x : Int) : Option Cert := (getC d.certs x).bind fun i => d.certs[i]?
theorem certOf_mem {d : Dag} (h : (d.certs.map (·.digest)).Nodup) {c : Cert} (hc : c ∈ d.certs) : certOf d c.digest = some c := by
  unfold certOf
  cases hg : getC d.certs c.digest with
  | none =>
    unfold getC at hg
    rw [List.findIdx?_eq_none_iff] at hg
    have := hg c hc
    simp at this
  | some i =>
    obtain ⟨c', h1, h2⟩ := getC_some hg
    rw [Option.bind_some, h1, dig_inj h (List.mem_of_getElem? h1) hc h2]
theorem certOf_some {d : Dag} {x : Int} {c : Cert} (h : certOf d x = some c) : c ∈ d.certs ∧ c.digest = x ∧ ∃ i, getC d.certs x = some i ∧ d.certs[i]? = some c := by
  unfold certOf at h
  cases hg : getC d.certs x with
  | none => rw [hg] at h; cases h
  | some i =>
    rw [hg, Option.bind_some] at h
    obtain ⟨c', h1, h2⟩ := getC_some hg
    rw [h1] at h; cases h
    exact ⟨List.mem_of_getElem? h1, h2, i, rfl, h1⟩
theorem anchor_cert {d : Dag} (hw : d.well) {r : Int} (h : anchorI d r ≠ 0) : ∃ c, certOf d (anchorI d r) = some c ∧ c.round = r ∧ c.author = leadI d.nodes r := by
  unfold anchorI at h ⊢
  cases hc : atC d.certs r (leadI d.nodes r) with
  | none => rw [hc] at h; exact absurd rfl h
  | some c =>
    have h1 := List.find?_some hc
    simp only [decide_eq_true_eq] at h1
    exact ⟨c, certOf_mem hw.dig (List.mem_of_find?_eq_some hc), h1⟩
theorem anchor_pos {d : Dag} (hw : d.well) {r : Int} : anchorI d r ≠ 0 ↔ (atC d.certs r (leadI d.nodes r)).isSome = true := by
  unfold anchorI
  cases hc : atC d.certs r (leadI d.nodes r) with
  | none => simp
  | some c =>
    have := hw.pos c (List.mem_of_find?_eq_some hc)
    show c.digest ≠ 0 ↔ _
    simp
    omega
def roundOf (d : Dag) (x : Int) : Int := (certOf d x).elim 0 (·.round)
theorem anchor_round {d : Dag} (hw : d.well) {r : Int} (h : anchorI d r ≠ 0) : roundOf d (anchorI d r) = r := by
  obtain ⟨c, h1, h2, _⟩ := anchor_cert hw h
  rw [roundOf, h1]; exact h2
theorem backR_all {d : Dag} (hw : d.well) (after : Int) : ∀ (r : Int) (i : Nat), (∀ x ∈ backR d after r i, ∃ q, after < q ∧ q ≤ r - 2 ∧ x = anchorI d q ∧ anchorI d q ≠ 0) ∧ (backR d after r i).Pairwise fun x y => roundOf d y < roundOf d x := by
  intro r i
  induction r, i using backR.induct (d := d) (after := after) with
  | case1 r i h => rw [back_end h]; exact ⟨by simp, List.Pairwise.nil⟩
  | case2 r i h h2 ih =>
    rw [back_no h h2]
    exact ⟨fun x hx => by obtain ⟨q, h3, h4, h5⟩ := ih.1 x hx; exact ⟨q, h3, by omega, h5⟩, ih.2⟩
  | case3 r i h h2 h3 =>
    obtain ⟨j, c, h4, _⟩ := anchor_get h2
    rw [h3] at h4; cases h4
  | case4 r i h h2 j h3 h4 ih =>
    rw [back_yes h h2 h3, if_pos h4]
    refine ⟨fun x hx => ?_, List.pairwise_cons.2 ⟨fun y hy => ?_, ih.2⟩⟩
    · rcases List.mem_cons.1 hx with rfl | hx
      · exact ⟨r - 2, by omega, by omega, rfl, h2⟩
      · obtain ⟨q, h5, h6, h7⟩ := ih.1 x hx; exact ⟨q, h5, by omega, h7⟩
    · obtain ⟨q, h5, h6, rfl, h8⟩ := ih.1 y hy
      rw [anchor_round hw h2, anchor_round hw h8]
      omega
  | case5 r i h h2 j h3 h4 ih =>
    rw [back_yes h h2 h3, if_neg h4]
    exact ⟨fun x hx => by obtain ⟨q, h5, h6, h7⟩ := ih.1 x hx; exact ⟨q, h5, by omega, h7⟩, ih.2⟩
theorem backI_all {d : Dag} (hw : d.well) {after r : Int} (hr : after < r) (h0 : anchorI d r ≠ 0) : (∀ x ∈ backI d after r, ∃ q, after < q ∧ q ≤ r ∧ x = anchorI d q ∧ anchorI d q ≠ 0) ∧ (backI d after r).Pairwise (fun x y => roundOf d x < roundOf d y) ∧ (backI d after r).getLast? = some (anchorI d r) := by
  unfold backI
  obtain ⟨h1, h2⟩ := backR_all hw after r ((getC d.certs (anchorI d r)).getD 0)
  refine ⟨fun x hx => ?_, ?_, by simp⟩
  · rcases List.mem_cons.1 (List.mem_reverse.1 hx) with rfl | hx
    · exact ⟨r, hr, Int.le_refl _, rfl, h0⟩
    · obtain ⟨q, h3, h4, h5⟩ := h1 x hx; exact ⟨q, h3, by omega, h5⟩
  · rw [List.pairwise_reverse]
    refine List.pairwise_cons.2 ⟨fun y hy => ?_, h2⟩
    obtain ⟨q, h3, h4, rfl, h6⟩ := h1 y hy
    rw [anchor_round hw h0, anchor_round hw h6]
    omega
def Wk.putA (d : Dag) (w : Wk) (a : Int) : Wk := match getC d.certs a with | some i => (match d.certs[i]? with | some c => w.put d i c | none => w) | none => w
theorem putA_eq {d : Dag} {w : Wk} {a : Int} {i : Nat} {c : Cert} (h : getC d.certs a = some i) (h2 : d.certs[i]? = some c) : w.putA d a = w.put d i c := by unfold Wk.putA; rw [h]; simp only [h2]
def Wk.putL (d : Dag) (w : Wk) (l : List Int) : Wk := l.foldl (fun w a => w.putA d a) w
def below (d : Dag) (r : Int) : Nat := (d.certs.filter fun c => decide (c.round ≤ r)).length
theorem below_lt {d : Dag} {c : Cert} (h : c ∈ d.certs) {r : Int} (hr : r < c.round) : below d r + 1 ≤ below d c.round := by
  unfold below
  obtain ⟨l, hl⟩ : ∃ l, d.certs = l := ⟨_, rfl⟩
  rw [hl] at h ⊢
  clear hl
  induction l with
  | nil => cases h
  | cons x t ih =>
    have hmono : (t.filter fun c' => decide (c'.round ≤ r)).length ≤ (t.filter fun c' => decide (c'.round ≤ c.round)).length := by
      rw [← List.countP_eq_length_filter, ← List.countP_eq_length_filter]
      exact List.countP_mono_left fun y _ hy => by simp at hy ⊢; omega
    rcases List.mem_cons.1 h with rfl | h
    · simp only [List.filter_cons, decide_eq_true_eq]
      rw [if_neg (by omega), if_pos (by omega), List.length_cons]
      omega
    · have := ih h
      simp only [List.filter_cons, decide_eq_true_eq]
      by_cases h1 : x.round ≤ r
      · rw [if_pos h1, if_pos (by omega), List.length_cons, List.length_cons]; omega
      · rw [if_neg h1]
        split
        · rw [List.length_cons]; omega
        · exact this
theorem below_le (d : Dag) (r : Int) : below d r ≤ d.certs.length := List.length_filter_le ..
structure Wk.okay (d : Dag) (w : Wk) : Prop where
  fine : w.fine d
  outs : w.outs.length ≤ 65536 * below d w.c.round
theorem Wk.okay.put {d : Dag} (hw : d.well) {w : Wk} (h : w.okay d) {i : Nat} {c : Cert} (hc : d.certs[i]? = some c) (hr : w.c.round < c.round) : (w.put d i c).okay d := by
  refine ⟨h.fine.put hw i c, ?_⟩
  have h1 := below_lt (List.mem_of_getElem? hc) hr
  have h2 : (behindI d i c.round w.c.done).length ≤ 65536 := by
    have h1 := List.length_filter_le (fun x => !decide (x ∈ w.c.done)) (riseI d i (c.round - 8))
    have h2 := rise_len d i (c.round - 8)
    have h3 := hw.len
    unfold behindI
    omega
  have h3 := h.outs
  show (w.outs ++ _).length ≤ 65536 * below d c.round
  rw [List.length_append]
  omega
theorem Wk.okay.outs' {d : Dag} (hw : d.well) {w : Wk} (h : w.okay d) : w.outs.length ≤ 4294967296 := by
  have h1 := h.outs
  have h2 := below_le d w.c.round
  have h3 := hw.len
  omega
end Go.Proofs.YtmmngmnmghpfaaaGreat
namespace Go.Proofs.YtmmngmnmghpfaaaGreat
open Go.Ab Go.RowKit Go.MapKept
attribute [local irreducible] ACalls AW ADraw Into fltB fnear
set_option maxRecDepth 100000
def mapP (ps : List (Int × Int)) : List (KV × MV) := ps.map fun p => (.one (.int .i64 p.1), .v (.one (.int .i64 p.2)))
def lookP (k : Int) : List (Int × Int) → Option Int
  | [] => none
  | p :: r => if p.1 = k then some p.2 else lookP k r
theorem mapP_find (k : Int) : ∀ (ps : List (Int × Int)) (j : Nat), ∃ r, mfind (.one (.int .i64 k)) (mapP ps) j = some r ∧ ((∃ v i, lookP k ps = some v ∧ r = some (i, .v (.one (.int .i64 v)))) ∨ (lookP k ps = none ∧ r = none))
  | [], j => ⟨none, rfl, .inr ⟨rfl, rfl⟩⟩
  | p :: t, j => by
    obtain ⟨r, h1, h2⟩ := mapP_find k t (j + 1)
    have e : mfind (.one (.int .i64 k)) (mapP (p :: t)) j = match some (k == p.1) with
        | some true => some (some (j, .v (.one (.int .i64 p.2))))
        | some false => mfind (.one (.int .i64 k)) (mapP t) (j + 1)
        | none => none := rfl
    by_cases h : p.1 = k
    · rw [e, show (k == p.1) = true by simp [h]]
      exact ⟨_, rfl, .inl ⟨p.2, j, by rw [lookP, if_pos h], rfl⟩⟩
    · rw [e, show (k == p.1) = false by simpa using Ne.symm h]
      refine ⟨r, h1, ?_⟩
      rw [lookP, if_neg h]
      exact h2
theorem lookP_none {k : Int} : ∀ {ps : List (Int × Int)}, (∀ p ∈ ps, p.1 ≠ k) → lookP k ps = none
  | [], _ => rfl
  | p :: r, h => by rw [lookP, if_neg (h p (by simp)), lookP_none fun q hq => h q (by simp [hq])]
theorem lookP_some {k v : Int} : ∀ {ps : List (Int × Int)}, (ps.map (·.1)).Nodup → (k, v) ∈ ps → lookP k ps = some v
  | p :: r, hn, h => by
    rw [List.map_cons, List.nodup_cons] at hn
    rcases List.mem_cons.1 h with h | h
    · subst h; rw [lookP, if_pos rfl]
    · rw [lookP, if_neg (fun e => hn.1 (List.mem_map.2 ⟨_, h, e.symm⟩)), lookP_some hn.2 h]
theorem mapP_new {k v : Int} {ps : List (Int × Int)} (h : lookP k ps = none) : ∃ r, mfind (.one (.int .i64 k)) (mapP ps) 0 = some r ∧ mputAt (mapP ps) r (.one (.int .i64 k)) (.v (.one (.int .i64 v))) = mapP (ps ++ [(k, v)]) := by
  obtain ⟨r, h1, ⟨w, i, h2, _⟩ | ⟨_, rfl⟩⟩ := mapP_find k ps 0
  · rw [h] at h2; cases h2
  · exact ⟨none, h1, by simp [mputAt, mapP]⟩
structure Valid (d : Dag) : Prop where
  nodes : isN d.nodes = true
  low : 0 ≤ d.low ∧ d.low ≤ 1099511627776
  len : d.certs.length ≤ 65536
  certs : ∀ c ∈ d.certs, okCert d.nodes c
  above : ∀ c ∈ d.certs, d.low < c.round
  sorted : sortedC d.certs
  dig : (d.certs.map (·.digest)).Nodup
  here : ∀ c ∈ d.certs, c.round > d.low + 1 → ∀ x ∈ c.pars, ∃ c' ∈ d.certs, c'.digest = x ∧ c'.round = c.round - 1
theorem Valid.well {d : Dag} (h : Valid d) : d.well := by
  have hn := of_decide_eq_true h.nodes
  have hr : ∀ c ∈ d.certs, 1 ≤ c.round ∧ c.round ≤ 1099511627776 := fun c hc => (h.certs c hc).head.round
  have ha : ∀ c ∈ d.certs, 1 ≤ c.author ∧ c.author ≤ d.nodes := fun c hc => (h.certs c hc).head.author
  have hl := h.len
  refine ⟨⟨by unfold few; omega, h.sorted, fun c hc => ⟨⟨by have := hr c hc; omega, by have := hr c hc; omega⟩, ⟨by have := ha c hc; omega, by have := ha c hc; omega⟩⟩, fun c hc => ⟨(ha c hc).1, by have := ha c hc; omega⟩⟩, ⟨by omega, by omega⟩, fun c hc => by have := (h.certs c hc).head.pars.1; unfold few; omega, h.low, ?_, h.len, h.dig, fun c hc => (h.certs c hc).digest.1⟩
  unfold topR
  cases hg : d.certs.getLast? with
  | none => decide
  | some c => exact (hr c (List.mem_of_getLast? hg)).2
theorem Valid.fewL {d : Dag} (h : Valid d) {c : Cert} (hc : c ∈ d.certs) : fewL c := by
  have hn := of_decide_eq_true h.nodes
  have h1 := h.certs c hc
  have h2 := h1.head.bats.1
  have h3 := h1.head.pars.1
  refine ⟨by unfold few; omega, by unfold few; omega, ?_⟩
  have := rising_nodup h1.sigs.1
  have := sub_len (m := (List.range 17).map fun n : Nat => (n : Int)) this fun x hx => by
    have := h1.sigs.2 x hx
    exact List.mem_map.2 ⟨x.toNat, by simp; omega, by omega⟩
  simp at this
  unfold few
  omega
def seenP (l : List Cert) : List (Int × Int) := l.map fun c => (c.digest, c.round)
theorem seen_keys (l : List Cert) : (seenP l).map (·.1) = l.map (·.digest) := by simp [seenP]
theorem Valid.fresh {d : Dag} (h : Valid d) {j : Nat} {c : Cert} (hc : d.certs[j]? = some c) : lookP c.digest (seenP (d.certs.take j)) = none := by
  refine lookP_none fun p hp e => ?_
  obtain ⟨c', hc', rfl⟩ := List.mem_map.1 hp
  have h1 := h.dig
  have h2 : d.certs.take (j + 1) = d.certs.take j ++ [c] := by rw [List.take_add_one, hc]; rfl
  have h3 : ((d.certs.take (j + 1)).map (·.digest)).Nodup := h1.sublist ((List.take_sublist ..).map _)
  rw [h2, List.map_append, List.nodup_append] at h3
  exact h3.2.2 c'.digest (List.mem_map.2 ⟨c', hc', rfl⟩) c.digest (by simp) e
theorem Valid.parent {d : Dag} (h : Valid d) {j : Nat} {c : Cert} (hc : d.certs[j]? = some c) (hr : c.round > d.low + 1) {x : Int} (hx : x ∈ c.pars) : lookP x (seenP (d.certs.take j)) = some (c.round - 1) := by
  obtain ⟨c', h1, h2, h3⟩ := h.here c (List.mem_of_getElem? hc) hr x hx
  obtain ⟨i, hi⟩ := List.getElem?_of_mem h1
  have hjl : j < d.certs.length := by
    rcases Nat.lt_or_ge j d.certs.length with h | h
    · exact h
    · rw [List.getElem?_eq_none h] at hc; cases hc
  have hil : i < d.certs.length := by
    rcases Nat.lt_or_ge i d.certs.length with h | h
    · exact h
    · rw [List.getElem?_eq_none h] at hi; cases hi
  have hij : i < j := by
    rcases Nat.lt_trichotomy i j with h4 | h4 | h4
    · exact h4
    · subst h4; rw [hc] at hi; cases hi; omega
    · have := List.pairwise_iff_getElem.1 h.sorted j i hjl hil h4
      rw [List.getElem?_eq_getElem hjl] at hc
      rw [List.getElem?_eq_getElem hil] at hi
      cases hc; cases hi
      have := before_iff.1 this
      omega
  refine lookP_some ?_ ?_
  · rw [seen_keys]; exact h.dig.sublist ((List.take_sublist ..).map _)
  · refine List.mem_map.2 ⟨c', ?_, by rw [h2, h3]⟩
    rw [List.mem_take_iff_getElem]
    rw [List.getElem?_eq_getElem hil] at hi
    exact ⟨i, by omega, Option.some.inj hi⟩
theorem getC_no {l : List Cert} {x : Int} (h : ∀ c ∈ l, c.digest ≠ x) : getC l x = none := by
  unfold getC
  rw [List.findIdx?_eq_none_iff]
  intro c hc
  simp [h c hc]
theorem getC_here {l : List Cert} {x : Int} {j : Nat} {c : Cert} (hc : l[j]? = some c) (hx : c.digest = x) (h : ∀ c ∈ l.take j, c.digest ≠ x) : getC l x = some j := by
  unfold getC
  rw [List.findIdx?_eq_some_iff_getElem]
  obtain ⟨hj, rfl⟩ := List.getElem?_eq_some_iff.1 hc
  refine ⟨hj, by simpa using hx, fun i hi => ?_⟩
  have := h l[i] (List.mem_take_iff_getElem.2 ⟨i, by omega, rfl⟩)
  simpa using this
theorem rFind_ok (d : Dag) (hd : few d.certs) (x : Int) : ACalls Tryz.prog 26 [d.av, .d (.int .i64 x)] [] (fun av L => av = .d (.int .i64 (getI d.certs x)) ∧ L = []) := by
  have hcl := certsD_length d.certs
  unfold few at hd
  (refine acalls_go ttOk zOk foOk Tryz.func26 rfl Tryz.ntmps26 rfl false rfl ?_); (conv => whnf)
  refine loop_go ttOk zOk foOk (σ := Nat) (fun j => ([(1, .d (.int .i64 x)), (2, .ptr 0 0), (5, .d (.int .i64 j))], [.cells d.cells])) (fun j => j ≤ d.certs.length ∧ ∀ c ∈ d.certs.take j, c.digest ≠ x) (fun j => d.certs.length - j) [1, 2, 5] ?_ ?_
  · conv => whnf
    exact ⟨0, rfl, rfl, Nat.zero_le _, by simp⟩
  · rintro j ⟨hj, hall⟩
    conv => whnf
    rw [hcl]
    refine rdz ?_; repeat' ((with_reducible apply tw) <;> intro _)
    · rename_i h
      refine Exists.elim (⟨_, List.getElem?_eq_getElem (by omega)⟩ : ∃ c, d.certs[j]? = some c) fun c hc => ?_
      refine ⟨by omega, c.cs, certsD_at hc, ?_⟩
      conv => whnf
      refine rdz ?_; repeat' ((with_reducible apply tw) <;> intro _)
      · rename_i h2
        rw [getI, getC_here hc h2 hall]
        exact ⟨rfl, rfl⟩
      · rename_i h2
        refine ⟨j + 1, rfl, rfl, ⟨by omega, fun y hy => ?_⟩, by omega⟩
        rw [List.take_add_one, hc] at hy
        rcases List.mem_append.1 hy with hy | hy
        · exact hall y hy
        · simp at hy; rw [hy]; exact h2
    · rename_i h
      rw [List.take_of_length_le (by omega)] at hall
      rw [getI, getC_no hall]
      exact ⟨rfl, rfl⟩
def Wk.goF (d : Dag) : Nat → Wk → Wk
  | 0, w => w
  | n + 1, w => if nextC d w.c.round > 0 then Wk.goF d n (w.putL d (backI d w.c.round (nextC d w.c.round))) else w
theorem goF_end {d : Dag} {w : Wk} (h : ¬ nextC d w.c.round > 0) : ∀ n, Wk.goF d n w = w
  | 0 => rfl
  | n + 1 => by rw [Wk.goF, if_neg h]
def zCur : AB := .cells [.d (.int .i64 0), .d .nils, .d (.int .i64 0)]
def goSt (d : Dag) (done0 : List Int) : Bool × Wk → AF × List AB
  | (true, w) => ([(2, .ptr 1 0), (4, .ptr 2 0), (6, .ptr 3 0), (7, .d (.int .i64 (nextC d w.c.round)))], [.row 3 1 (nums w.c.done) false, .cells d.cells, zCur, .cells (w.cells d 0 4), .row 3 1 (nums w.outs) false])
  | (false, w) => ([(2, .ptr 1 0), (4, .ptr 2 0), (6, .ptr 3 0), (7, .d (.int .i64 (nextC d w.c.round)))], [.row 3 1 (nums done0) true, .cells d.cells, zCur, .cells (w.cells d 4 5), .row 3 1 (nums w.c.done) false, .row 3 1 (nums w.outs) false])
def goIn (d : Dag) (done0 : List Int) (l : List Int) : Bool × Wk × Nat → AF × List AB
  | (true, w, j) => ([(2, .ptr 1 0), (4, .ptr 2 0), (6, .ptr 3 0), (37, .arr 4), (38, .d (.int .i64 l.length)), (39, .d (.int .i64 j))], [.row 3 1 (nums w.c.done) false, .cells d.cells, zCur, .cells (w.cells d 0 5), .row 3 1 (nums l) false, .row 3 1 (nums w.outs) false])
  | (false, w, j) => ([(2, .ptr 1 0), (4, .ptr 2 0), (6, .ptr 3 0), (37, .arr 4), (38, .d (.int .i64 l.length)), (39, .d (.int .i64 j))], [.row 3 1 (nums done0) true, .cells d.cells, zCur, .cells (w.cells d 5 6), .row 3 1 (nums l) false, .row 3 1 (nums w.c.done) false, .row 3 1 (nums w.outs) false])
theorem nextR_spec (d : Dag) : ∀ r : Int, nextR d r = 0 ∨ (r ≤ nextR d r ∧ nextR d r < topR d.certs ∧ settled d (nextR d r) = true ∧ nextR d r % 2 = r % 2) := by
  intro r
  induction r using nextR.induct (d := d) with
  | case1 r h => exact .inl (next_top h)
  | case2 r h h2 => rw [next_here h h2]; exact .inr ⟨by omega, by omega, h2, rfl⟩
  | case3 r h h2 ih =>
    rw [next_on h (by simpa using h2)]
    rcases ih with ih | ⟨i1, i2, i3, i4⟩
    · exact .inl ih
    · exact .inr ⟨by omega, i2, i3, by omega⟩
theorem settled_anchor {d : Dag} (hn : 0 < d.nodes) {r : Int} (h : settled d r = true) : anchorI d r ≠ 0 := by
  intro h0
  unfold settled at h
  have hv : votes d r = 0 := by
    unfold votes
    rw [h0]
    rw [List.filter_eq_nil_iff.2]
    · rfl
    · intro c _; simp
  rw [hv] at h
  simp at h
  omega
theorem nextC_spec {d : Dag} (hw : d.well) {after : Int} (ha : 0 ≤ after) (he : after % 2 = 0) (h : nextC d after > 0) : after < nextC d after ∧ nextC d after < topR d.certs ∧ settled d (nextC d after) = true ∧ nextC d after % 2 = 0 ∧ anchorI d (nextC d after) ≠ 0 ∧ 2 ≤ nextC d after := by
  have hl := hw.low
  rcases nextR_spec d (max after (d.low - d.low % 2) + 2) with h1 | ⟨h1, h2, h3, h4⟩
  · unfold nextC at h; omega
  · unfold nextC at h ⊢
    have h5 : (d.low - d.low % 2) % 2 = 0 := by omega
    have h6 : (max after (d.low - d.low % 2) + 2) % 2 = 0 := by
      rcases Int.le_total after (d.low - d.low % 2) with h7 | h7
      · rw [Int.max_eq_right h7]; omega
      · rw [Int.max_eq_left h7]; omega
    exact ⟨by omega, h2, h3, by omega, settled_anchor hw.nodes.1 h3, by omega⟩
structure goInv (d : Dag) (done0 : List Int) (fin : Wk) (b : Bool) (w : Wk) : Prop where
  okay : w.okay d
  round : 0 ≤ w.c.round ∧ w.c.round ≤ 1099511627776 ∧ w.c.round % 2 = 0
  first : b = true → w.c.done = done0
  fin : ∃ n : Nat, topR d.certs - w.c.round ≤ n ∧ fin = Wk.goF d n w
structure goInI (d : Dag) (done0 : List Int) (w0 : Wk) (l : List Int) (b : Bool) (w : Wk) (j : Nat) : Prop where
  okay : w.okay d
  le : j ≤ l.length
  first : b = true → w.c.done = done0
  is : w = w0.putL d (l.take j)
  next : ∀ x ∈ l.drop j, w.c.round < roundOf d x
  last : ∀ x, 0 < j → l[j - 1]? = some x → w.c.round = roundOf d x
structure Chain (d : Dag) (w0 : Wk) (l : List Int) : Prop where
  all : ∀ x ∈ l, ∃ q, w0.c.round < q ∧ q ≤ nextC d w0.c.round ∧ x = anchorI d q ∧ anchorI d q ≠ 0
  up : l.Pairwise fun x y => roundOf d x < roundOf d y
  last : l.getLast? = some (anchorI d (nextC d w0.c.round))
theorem Chain.at {d : Dag} (hw : d.well) {w0 : Wk} {l : List Int} (h : Chain d w0 l) {j : Nat} (hj : j < l.length) : ∃ x i c, l[j]? = some x ∧ getC d.certs x = some i ∧ d.certs[i]? = some c ∧ roundOf d x = c.round := by
  obtain ⟨q, q1, q2, hxq, q3⟩ := h.all l[j] (List.getElem_mem hj)
  obtain ⟨c2, hco, hcr, _⟩ := anchor_cert hw q3
  rw [← hxq] at hco
  obtain ⟨hcm, hcd, i, hg, hc2⟩ := certOf_some hco
  exact ⟨l[j], i, c2, List.getElem?_eq_getElem hj, hg, hc2, by rw [roundOf, hco]; rfl⟩
theorem Chain.len {d : Dag} (hw : d.well) {w0 : Wk} {l : List Int} (h : Chain d w0 l) : l.length ≤ d.certs.length := by
  have hn : l.Nodup := h.up.imp fun {a b} hab e => by rw [e] at hab; omega
  have := sub_len (m := d.certs.map (·.digest)) hn fun x hx => by
    obtain ⟨q, _, _, rfl, q3⟩ := h.all x hx
    obtain ⟨c, hc, _⟩ := anchor_cert hw q3
    obtain ⟨h1, h2, _⟩ := certOf_some hc
    exact List.mem_map.2 ⟨c, h1, h2⟩
  simpa using this
theorem goInI.start {d : Dag} (hw : d.well) {done0 : List Int} {w : Wk} {l : List Int} (h : Chain d w l) (hok : w.okay d) {b : Bool} (hb : b = true → w.c.done = done0) : goInI d done0 w l b w 0 := by
  refine ⟨hok, Nat.zero_le _, hb, rfl, ?_, fun x h => absurd h (Nat.lt_irrefl 0)⟩
  intro x hx
  obtain ⟨q, q1, q2, rfl, q3⟩ := h.all x (by simpa using hx)
  rw [anchor_round hw q3]; exact q1
theorem goInI.step {d : Dag} (hw : d.well) {done0 : List Int} {w0 : Wk} {l : List Int} (hch : Chain d w0 l) {b : Bool} {w : Wk} {j : Nat} (h : goInI d done0 w0 l b w j) (hj : j < l.length) {x : Int} {i : Nat} {c : Cert} (hx : l[j]? = some x) (hg : getC d.certs x = some i) (hc : d.certs[i]? = some c) (hr : roundOf d x = c.round) : goInI d done0 w0 l false (w.put d i c) (j + 1) := by
  have hlt : w.c.round < c.round := by rw [← hr]; exact h.next x (by rw [List.mem_iff_getElem?]; exact ⟨0, by rw [List.getElem?_drop]; simpa using hx⟩)
  refine ⟨h.okay.put hw hc hlt, by omega, (fun h => by cases h), ?_, ?_, ?_⟩
  · rw [List.take_add_one, hx, Wk.putL, Option.toList_some, List.foldl_append, List.foldl_cons, List.foldl_nil]
    show _ = Wk.putA d (w0.putL d (l.take j)) x
    rw [← h.is, putA_eq hg hc]
  · intro y hy
    show c.round < _
    rw [← hr]
    have hp : (l.drop j).Pairwise (fun x y => roundOf d x < roundOf d y) := hch.up.sublist (List.drop_sublist ..)
    rw [List.drop_eq_getElem_cons hj] at hp
    have := (List.pairwise_cons.1 hp).1 y hy
    rw [List.getElem?_eq_getElem hj] at hx
    rw [← Option.some.inj hx]
    exact this
  · intro y _ hy
    rw [Nat.add_sub_cancel, hx] at hy
    cases hy
    exact hr.symm
theorem goInI.done {d : Dag} (hw : d.well) {done0 : List Int} {w0 : Wk} {l : List Int} (hch : Chain d w0 l) (hpos : nextC d w0.c.round > 0) (h0 : 0 ≤ w0.c.round) (he : w0.c.round % 2 = 0) {fin : Wk} {b : Bool} {w : Wk} {j : Nat} (h : goInI d done0 w0 l b w j) (hj : ¬ (j : Int) < l.length) (hl : backI d w0.c.round (nextC d w0.c.round) = l)
    (hfin : ∃ n : Nat, topR d.certs - w0.c.round ≤ n ∧ fin = Wk.goF d n w0) : goInv d done0 fin b w ∧ (topR d.certs - w.c.round).toNat < (topR d.certs - w0.c.round).toNat := by
  obtain ⟨s1, s2, s3, s4, s5, s6⟩ := nextC_spec hw h0 he hpos
  have hjl : j = l.length := by have := h.le; omega
  subst hjl
  have his := h.is
  rw [List.take_length] at his
  have hlast : l[l.length - 1]? = some (anchorI d (nextC d w0.c.round)) := by rw [← List.getLast?_eq_getElem?]; exact hch.last
  have hlen0 : 0 < l.length := by
    rcases Nat.eq_zero_or_pos l.length with h | h
    · rw [List.length_eq_zero_iff.1 h] at hlast; cases hlast
    · exact h
  have hround : w.c.round = nextC d w0.c.round := by rw [h.last _ hlen0 hlast, anchor_round hw s5]
  have htop := hw.top
  refine ⟨⟨h.okay, ⟨by omega, by omega, by omega⟩, h.first, ?_⟩, by omega⟩
  obtain ⟨n, h4, h5⟩ := hfin
  cases n with
  | zero => exact absurd h4 (by omega)
  | succ m =>
    rw [Wk.goF, if_pos hpos, hl, ← his] at h5
    exact ⟨m, by omega, h5⟩
theorem goInv.chain {d : Dag} (hw : d.well) {done0 : List Int} {fin : Wk} {b : Bool} {w : Wk} (h : goInv d done0 fin b w) (hpos : nextC d w.c.round > 0) : Chain d w (backI d w.c.round (nextC d w.c.round)) := by
  obtain ⟨s1, s2, s3, s4, s5, s6⟩ := nextC_spec hw h.round.1 h.round.2.2 hpos
  obtain ⟨a1, a2, a3⟩ := backI_all hw s1 s5
  exact ⟨a1, a2, a3⟩
set_option maxHeartbeats 4000000 in
theorem go_ok (d : Dag) (hw : d.well) (c : Cursor) (hr : 0 ≤ c.round ∧ c.round ≤ 1099511627776) (he : c.round % 2 = 0) (hok : (Wk.mk c []).okay d) (fin : Wk) (hfin : fin = Wk.goF d (topR d.certs).toNat ⟨c, []⟩) :
    ACalls Tryz.prog 52 [d.av, .agg [.d (.int .i64 c.round), .arr 0, .d (.int .i64 c.count)]] [.row 3 1 (nums c.done) false] (fun av L => (fin.c.done = c.done ∧ av = .tup [.agg [.d (.int .i64 fin.c.round), .arr 0, .d (.int .i64 fin.c.count)], .arr 1] ∧ L = [.row 3 1 (nums fin.c.done) false, .row 3 1 (nums fin.outs) false]) ∨ (av = .tup [.agg [.d (.int .i64 fin.c.round), .arr 1, .d (.int .i64 fin.c.count)], .arr 2] ∧ L = [.row 3 1 (nums c.done) true, .row 3 1 (nums fin.c.done) false, .row 3 1 (nums fin.outs) false])) := by
  (refine acalls_go ttOk zOk foOk Tryz.func52 rfl Tryz.ntmps52 rfl true rfl ?_); (conv => whnf)
  ((with_reducible refine draw_pl ttOk zOk foOk mixedOk pl52x2 ?_ ?_); (focus kernel_rfl); (conv => whnf))
  refine rdw ?_; repeat' ((with_reducible apply tw) <;> intro _)
  refine (next_ok d hw c.round hr).mono ?_
  rintro _ _ ⟨rfl, rfl⟩
  conv => whnf
  refine rdw ?_; repeat' ((with_reducible apply tw) <;> intro _)
  refine loop_go ttOk zOk foOk (σ := Bool × Wk) (goSt d c.done) (fun s => goInv d c.done fin s.1 s.2) (fun s => (topR d.certs - s.2.c.round).toNat) [2, 4, 6, 7] ?_ ?_
  · conv => whnf
    exact ⟨(true, ⟨c, []⟩), rfl, rfl, hok, ⟨hr.1, hr.2, he⟩, fun _ => rfl, (topR d.certs).toNat, by show topR d.certs - c.round ≤ ((topR d.certs).toNat : Int); omega, hfin⟩
  · rintro ⟨b, w⟩ hin0
    have h0 : goInv d c.done fin b w := hin0
    clear hin0
    cases b with
    | true =>
      conv => whnf
      refine rdw ?_; repeat' ((with_reducible apply tw) <;> intro _)
      · rename_i hpos
        have hsp := nextC_spec hw h0.round.1 h0.round.2.2 hpos
        have htop := hw.top
        have hch := h0.chain hw hpos
        ((with_reducible refine draw_pl ttOk zOk foOk mixedOk pl52x5 ?_ ?_); (focus kernel_rfl); (conv => whnf))
        refine rdw ?_; repeat' ((with_reducible apply tw) <;> intro _)
        refine (back_ok d hw w.c.round (nextC d w.c.round) h0.round.1 hsp.1 hsp.2.2.2.1 ⟨hsp.2.2.2.2.2, by have := hsp.2.1; omega⟩ hsp.2.2.2.2.1).mono ?_
        rintro _ _ ⟨rfl, rfl⟩
        obtain ⟨l, hl⟩ : ∃ l, backI d w.c.round (nextC d w.c.round) = l := ⟨_, rfl⟩
        rw [hl] at hch ⊢
        have hnl := nums_length l
        conv => whnf
        refine rdw ?_; repeat' ((with_reducible apply tw) <;> intro _)
        refine loop_go ttOk zOk foOk (σ := Bool × Wk × Nat) (goIn d c.done l) (fun s => goInI d c.done w l s.1 s.2.1 s.2.2) (fun s => l.length - s.2.2) [2, 4, 6, 37, 38, 39] ?_ ?_
        · conv => whnf
          exact ⟨(true, w, 0), by rw [hnl]; rfl, rfl, goInI.start hw hch h0.okay h0.first⟩
        · rintro ⟨b2, w2, j⟩ hin1
          have hin : goInI d c.done w l b2 w2 j := hin1
          clear hin1
          cases b2 with
          | true =>
            conv => whnf
            refine rdw ?_; repeat' ((with_reducible apply tw) <;> intro _)
            · rename_i hjl
              have hjn : j < l.length := Int.ofNat_lt.1 hjl
              refine Exists.elim (hch.at hw hjn) fun x hx => Exists.elim hx fun i hx => Exists.elim hx fun c2 hx => ?_
              have hlen := hch.len hw
              have hlen2 := hw.len
              have hst := hin.step hw hch hjn hx.1 hx.2.1 hx.2.2.1 hx.2.2.2
              refine ⟨Int.natCast_nonneg _, by rw [Int.toNat_natCast, hnl]; exact hjn, ?_⟩
              conv => whnf
              refine ⟨_, by rw [Int.toNat_natCast]; exact nums_at hx.1, ?_⟩
              conv => whnf
              refine rdw ?_; repeat' ((with_reducible apply tw) <;> intro _)
              refine (put_ok d hw w2 x hx.2.1 hx.2.2.1 hin.okay.fine.rising hin.okay.fine.few (hin.okay.outs' hw) hin.okay.fine.count).mono ?_
              rintro _ _ ⟨rfl, rfl⟩
              conv => whnf
              refine rdw ?_; repeat' ((with_reducible apply tw) <;> intro _)
              exact ⟨(false, w2.put d i c2, j + 1), rfl, by rw [goIn, ← hin.first rfl]; rfl, hst, by show l.length - (j + 1) < l.length - j; omega⟩
            · rename_i hjl
              have hdn := hin.done hw hch hpos h0.round.1 h0.round.2.2 (fin := fin) hjl hl h0.fin
              have hr2 := hdn.1.round
              ((with_reducible refine draw_pl ttOk zOk foOk mixedOk pl52x4 ?_ ?_); (focus kernel_rfl); (conv => whnf))
              refine rdw ?_; repeat' ((with_reducible apply tw) <;> intro _)
              refine (next_ok d hw w2.c.round ⟨hr2.1, hr2.2.1⟩).mono ?_
              rintro _ _ ⟨rfl, rfl⟩
              conv => whnf
              refine rdw ?_; repeat' ((with_reducible apply tw) <;> intro _)
              exact ⟨(true, w2), rfl, rfl, hdn.1, hdn.2⟩
          | false =>
            conv => whnf
            refine rdw ?_; repeat' ((with_reducible apply tw) <;> intro _)
            · rename_i hjl
              have hjn : j < l.length := Int.ofNat_lt.1 hjl
              refine Exists.elim (hch.at hw hjn) fun x hx => Exists.elim hx fun i hx => Exists.elim hx fun c2 hx => ?_
              have hlen := hch.len hw
              have hlen2 := hw.len
              have hst := hin.step hw hch hjn hx.1 hx.2.1 hx.2.2.1 hx.2.2.2
              refine ⟨Int.natCast_nonneg _, by rw [Int.toNat_natCast, hnl]; exact hjn, ?_⟩
              conv => whnf
              refine ⟨_, by rw [Int.toNat_natCast]; exact nums_at hx.1, ?_⟩
              conv => whnf
              refine rdw ?_; repeat' ((with_reducible apply tw) <;> intro _)
              refine (put_ok d hw w2 x hx.2.1 hx.2.2.1 hin.okay.fine.rising hin.okay.fine.few (hin.okay.outs' hw) hin.okay.fine.count).mono ?_
              rintro _ _ ⟨rfl, rfl⟩
              conv => whnf
              refine rdw ?_; repeat' ((with_reducible apply tw) <;> intro _)
              exact ⟨(false, w2.put d i c2, j + 1), rfl, rfl, hst, by show l.length - (j + 1) < l.length - j; omega⟩
            · rename_i hjl
              have hdn := hin.done hw hch hpos h0.round.1 h0.round.2.2 (fin := fin) hjl hl h0.fin
              have hr2 := hdn.1.round
              ((with_reducible refine draw_pl ttOk zOk foOk mixedOk pl52x4 ?_ ?_); (focus kernel_rfl); (conv => whnf))
              refine rdw ?_; repeat' ((with_reducible apply tw) <;> intro _)
              refine (next_ok d hw w2.c.round ⟨hr2.1, hr2.2.1⟩).mono ?_
              rintro _ _ ⟨rfl, rfl⟩
              conv => whnf
              refine rdw ?_; repeat' ((with_reducible apply tw) <;> intro _)
              exact ⟨(false, w2), rfl, rfl, hdn.1, hdn.2⟩
      · rename_i hpos
        have hfe : fin = w := Exists.elim h0.fin fun n hn => hn.2.trans (goF_end hpos n)
        ((with_reducible refine draw_pl ttOk zOk foOk mixedOk pl52x10 ?_ ?_); (focus kernel_rfl); (conv => whnf))
        refine rdw ?_; repeat' ((with_reducible apply tw) <;> intro _)
        exact .inl ⟨by rw [hfe]; exact h0.first rfl, by rw [hfe], by rw [hfe]⟩
    | false =>
      conv => whnf
      refine rdw ?_; repeat' ((with_reducible apply tw) <;> intro _)
      · rename_i hpos
        have hsp := nextC_spec hw h0.round.1 h0.round.2.2 hpos
        have htop := hw.top
        have hch := h0.chain hw hpos
        ((with_reducible refine draw_pl ttOk zOk foOk mixedOk pl52x5 ?_ ?_); (focus kernel_rfl); (conv => whnf))
        refine rdw ?_; repeat' ((with_reducible apply tw) <;> intro _)
        refine (back_ok d hw w.c.round (nextC d w.c.round) h0.round.1 hsp.1 hsp.2.2.2.1 ⟨hsp.2.2.2.2.2, by have := hsp.2.1; omega⟩ hsp.2.2.2.2.1).mono ?_
        rintro _ _ ⟨rfl, rfl⟩
        obtain ⟨l, hl⟩ : ∃ l, backI d w.c.round (nextC d w.c.round) = l := ⟨_, rfl⟩
        rw [hl] at hch ⊢
        have hnl := nums_length l
        conv => whnf
        refine rdw ?_; repeat' ((with_reducible apply tw) <;> intro _)
        refine loop_go ttOk zOk foOk (σ := Bool × Wk × Nat) (goIn d c.done l) (fun s => goInI d c.done w l s.1 s.2.1 s.2.2) (fun s => l.length - s.2.2) [2, 4, 6, 37, 38, 39] ?_ ?_
        · conv => whnf
          exact ⟨(false, w, 0), by rw [hnl]; rfl, rfl, goInI.start hw hch h0.okay h0.first⟩
        · rintro ⟨b2, w2, j⟩ hin1
          have hin : goInI d c.done w l b2 w2 j := hin1
          clear hin1
          cases b2 with
          | true =>
            conv => whnf
            refine rdw ?_; repeat' ((with_reducible apply tw) <;> intro _)
            · rename_i hjl
              have hjn : j < l.length := Int.ofNat_lt.1 hjl
              refine Exists.elim (hch.at hw hjn) fun x hx => Exists.elim hx fun i hx => Exists.elim hx fun c2 hx => ?_
              have hlen := hch.len hw
              have hlen2 := hw.len
              have hst := hin.step hw hch hjn hx.1 hx.2.1 hx.2.2.1 hx.2.2.2
              refine ⟨Int.natCast_nonneg _, by rw [Int.toNat_natCast, hnl]; exact hjn, ?_⟩
              conv => whnf
              refine ⟨_, by rw [Int.toNat_natCast]; exact nums_at hx.1, ?_⟩
              conv => whnf
              refine rdw ?_; repeat' ((with_reducible apply tw) <;> intro _)
              refine (put_ok d hw w2 x hx.2.1 hx.2.2.1 hin.okay.fine.rising hin.okay.fine.few (hin.okay.outs' hw) hin.okay.fine.count).mono ?_
              rintro _ _ ⟨rfl, rfl⟩
              conv => whnf
              refine rdw ?_; repeat' ((with_reducible apply tw) <;> intro _)
              exact ⟨(false, w2.put d i c2, j + 1), rfl, by rw [goIn, ← hin.first rfl]; rfl, hst, by show l.length - (j + 1) < l.length - j; omega⟩
            · rename_i hjl
              have hdn := hin.done hw hch hpos h0.round.1 h0.round.2.2 (fin := fin) hjl hl h0.fin
              have hr2 := hdn.1.round
              ((with_reducible refine draw_pl ttOk zOk foOk mixedOk pl52x4 ?_ ?_); (focus kernel_rfl); (conv => whnf))
              refine rdw ?_; repeat' ((with_reducible apply tw) <;> intro _)
              refine (next_ok d hw w2.c.round ⟨hr2.1, hr2.2.1⟩).mono ?_
              rintro _ _ ⟨rfl, rfl⟩
              conv => whnf
              refine rdw ?_; repeat' ((with_reducible apply tw) <;> intro _)
              exact ⟨(true, w2), rfl, rfl, hdn.1, hdn.2⟩
          | false =>
            conv => whnf
            refine rdw ?_; repeat' ((with_reducible apply tw) <;> intro _)
            · rename_i hjl
              have hjn : j < l.length := Int.ofNat_lt.1 hjl
              refine Exists.elim (hch.at hw hjn) fun x hx => Exists.elim hx fun i hx => Exists.elim hx fun c2 hx => ?_
              have hlen := hch.len hw
              have hlen2 := hw.len
              have hst := hin.step hw hch hjn hx.1 hx.2.1 hx.2.2.1 hx.2.2.2
              refine ⟨Int.natCast_nonneg _, by rw [Int.toNat_natCast, hnl]; exact hjn, ?_⟩
              conv => whnf
              refine ⟨_, by rw [Int.toNat_natCast]; exact nums_at hx.1, ?_⟩
              conv => whnf
              refine rdw ?_; repeat' ((with_reducible apply tw) <;> intro _)
              refine (put_ok d hw w2 x hx.2.1 hx.2.2.1 hin.okay.fine.rising hin.okay.fine.few (hin.okay.outs' hw) hin.okay.fine.count).mono ?_
              rintro _ _ ⟨rfl, rfl⟩
              conv => whnf
              refine rdw ?_; repeat' ((with_reducible apply tw) <;> intro _)
              exact ⟨(false, w2.put d i c2, j + 1), rfl, rfl, hst, by show l.length - (j + 1) < l.length - j; omega⟩
            · rename_i hjl
              have hdn := hin.done hw hch hpos h0.round.1 h0.round.2.2 (fin := fin) hjl hl h0.fin
              have hr2 := hdn.1.round
              ((with_reducible refine draw_pl ttOk zOk foOk mixedOk pl52x4 ?_ ?_); (focus kernel_rfl); (conv => whnf))
              refine rdw ?_; repeat' ((with_reducible apply tw) <;> intro _)
              refine (next_ok d hw w2.c.round ⟨hr2.1, hr2.2.1⟩).mono ?_
              rintro _ _ ⟨rfl, rfl⟩
              conv => whnf
              refine rdw ?_; repeat' ((with_reducible apply tw) <;> intro _)
              exact ⟨(false, w2), rfl, rfl, hdn.1, hdn.2⟩
      · rename_i hpos
        have hfe : fin = w := Exists.elim h0.fin fun n hn => hn.2.trans (goF_end hpos n)
        ((with_reducible refine draw_pl ttOk zOk foOk mixedOk pl52x10 ?_ ?_); (focus kernel_rfl); (conv => whnf))
        refine rdw ?_; repeat' ((with_reducible apply tw) <;> intro _)
        exact .inr ⟨by rw [hfe], by rw [hfe]⟩
structure curMay (c : Cursor) : Prop where
  round : 0 ≤ c.round ∧ c.round ≤ 1099511627776 ∧ c.round % 2 = 0
  done : riseB c.done 1 65536
  count : 0 ≤ c.count ∧ c.count ≤ 1099511627776
theorem rise_len2 {l : List Int} (h : riseB l 1 65536) : l.length ≤ 65536 := by
  have := sub_len (m := (List.range 65536).map fun n : Nat => (n : Int) + 1) (rising_nodup h.1) fun x hx => by
    have := h.2 x hx
    exact List.mem_map.2 ⟨(x - 1).toNat, by simp; omega, by omega⟩
  simpa using this
theorem digests_true (l : List Int) (h : riseB l 1 65536) : ACalls Tryz.prog 77 [.d (.sl 1 (nums l))] [] (fun av L => av = .d (.bool true) ∧ L = []) := by
  refine (digests_ok l (by have := rise_len2 h; unfold few; omega)).mono ?_
  rintro _ _ ⟨rfl, rfl⟩
  exact ⟨by rw [@decide_eq_true _ (Classical.propDecidable _) h], rfl⟩
def isDone (dn : DV) (done : List Int) : Prop := (dn = .nils ∧ done = []) ∨ dn = .sl 1 (nums done)
theorem curMay_ok (c : Cursor) (dn : DV) (hdn : isDone dn c.done) (h : curMay c) : ACalls Tryz.prog 50 [.agg [.d (.int .i64 c.round), .d dn, .d (.int .i64 c.count)]] [] (fun av L => av = .d (.bool true) ∧ L = []) := by
  have hr := h.round
  have hct := h.count
  have hdt := digests_true c.done h.done
  rcases hdn with ⟨rfl, hd⟩ | rfl
  · rw [hd] at hdt
    refine acalls_go ttOk zOk foOk Tryz.func50 rfl Tryz.ntmps50 rfl false rfl ?_
    conv => whnf
    refine rdz ?_; repeat' ((with_reducible apply tw) <;> intro _)
    · refine ⟨by decide, ?_⟩
      intro z hz
      have hz2 : z = c.round % 2 := tmod_pos (by omega) hz
      clear hz
      subst hz2
      conv => whnf
      refine rdz ?_; repeat' ((with_reducible apply tw) <;> intro _)
      · refine hdt.mono ?_
        rintro _ _ ⟨rfl, rfl⟩
        conv => whnf
        refine rdz ?_; repeat' ((with_reducible apply tw) <;> intro _)
        · exact ⟨boolEq (by simp; omega), rfl⟩
        · rename_i h; exact absurd hct.1 h
      · rename_i h; exact absurd hr.2.2 h
    · rename_i h1 h2; exact absurd hr.2.1 h2
    · rename_i h1; exact absurd hr.1 h1
  · refine acalls_go ttOk zOk foOk Tryz.func50 rfl Tryz.ntmps50 rfl false rfl ?_
    conv => whnf
    refine rdz ?_; repeat' ((with_reducible apply tw) <;> intro _)
    · refine ⟨by decide, ?_⟩
      intro z hz
      have hz2 : z = c.round % 2 := tmod_pos (by omega) hz
      clear hz
      subst hz2
      conv => whnf
      refine rdz ?_; repeat' ((with_reducible apply tw) <;> intro _)
      · refine hdt.mono ?_
        rintro _ _ ⟨rfl, rfl⟩
        conv => whnf
        refine rdz ?_; repeat' ((with_reducible apply tw) <;> intro _)
        · exact ⟨boolEq (by simp; omega), rfl⟩
        · rename_i h; exact absurd hct.1 h
      · rename_i h; exact absurd hr.2.2 h
    · rename_i h1 h2; exact absurd hr.2.1 h2
    · rename_i h1; exact absurd hr.1 h1
def finW (d : Dag) (c : Cursor) : Wk := Wk.goF d (topR d.certs).toNat ⟨c, []⟩
theorem start_okay {d : Dag} {c : Cursor} (h : curMay c) : (Wk.mk c []).okay d := ⟨⟨h.done.1, rise_len2 h.done, h.count⟩, Nat.zero_le _⟩
def old (d : Dag) (c : Cursor) : Prop := d.low > 0 ∧ d.low > c.round - 8
def zCurAV : AV := .agg [.d (.int .i64 0), .d .nils, .d (.int .i64 0)]
def Wk.res (w : Wk) : AV := .tup [.agg [.d (.int .i64 w.c.round), .arr 0, .d (.int .i64 w.c.count)], .d (.sl 1 (nums w.outs)), .d (.int .i64 0)]
set_option maxHeartbeats 1000000 in
theorem step_ok (d : Dag) (hw : d.well) (hmay : ACalls Tryz.prog 49 [d.av] [] (fun av L => av = .d (.bool true) ∧ L = [])) (c : Cursor) (dn : DV) (hdn : isDone dn c.done) (h : curMay c) :
    ACalls Tryz.prog 25 [d.av, .agg [.d (.int .i64 c.round), .d dn, .d (.int .i64 c.count)]] [] (fun av L => (old d c ∧ av = .tup [zCurAV, .d (.sl 1 []), .d (.int .i64 6)] ∧ L = []) ∨ (¬ old d c ∧ av = (finW d c).res ∧ L = [.row 3 1 (nums (finW d c).c.done) false])) := by
  have hcm := curMay_ok c dn hdn h
  have hfew := rise_len2 h.done
  have hcl := clone_ok c.done (by omega)
  have hr := h.round
  have hgo := go_ok d hw c ⟨hr.1, hr.2.1⟩ hr.2.2 (start_okay h) (finW d c) rfl
  obtain ⟨fw, hfw⟩ : ∃ fw, finW d c = fw := ⟨_, rfl⟩
  rw [hfw] at hgo ⊢
  have hlow := hw.low
  rcases hdn with ⟨rfl, hd⟩ | rfl
  · rw [hd] at hcl hgo
    refine acalls_go ttOk zOk foOk Tryz.func25 rfl Tryz.ntmps25 rfl false rfl ?_
    conv => whnf
    refine hmay.mono ?_
    rintro _ _ ⟨rfl, rfl⟩
    conv => whnf
    refine rdz ?_; repeat' ((with_reducible apply tw) <;> intro _)
    refine hcm.mono ?_
    rintro _ _ ⟨rfl, rfl⟩
    conv => whnf
    refine rdz ?_; repeat' ((with_reducible apply tw) <;> intro _)
    · rename_i h1 h2
      exact .inl ⟨⟨h1, h2⟩, rfl, rfl⟩
    · rename_i h1 h2
      have hno : ¬ old d c := fun h => h2 h.2
      refine hcl.mono ?_
      rintro _ _ ⟨rfl, rfl⟩
      conv => whnf
      refine rdz ?_; repeat' ((with_reducible apply tw) <;> intro _)
      refine hgo.mono ?_
      rintro _ _ (⟨hfd, rfl, rfl⟩ | ⟨rfl, rfl⟩)
      · conv => whnf
        refine rdz ?_; repeat' ((with_reducible apply tw) <;> intro _)
        exact .inr ⟨hno, rfl, rfl⟩
      · conv => whnf
        refine rdz ?_; repeat' ((with_reducible apply tw) <;> intro _)
        exact .inr ⟨hno, rfl, rfl⟩
    · rename_i h1
      have hno : ¬ old d c := fun h => h1 h.1
      refine hcl.mono ?_
      rintro _ _ ⟨rfl, rfl⟩
      conv => whnf
      refine rdz ?_; repeat' ((with_reducible apply tw) <;> intro _)
      refine hgo.mono ?_
      rintro _ _ (⟨hfd, rfl, rfl⟩ | ⟨rfl, rfl⟩)
      · conv => whnf
        refine rdz ?_; repeat' ((with_reducible apply tw) <;> intro _)
        exact .inr ⟨hno, rfl, rfl⟩
      · conv => whnf
        refine rdz ?_; repeat' ((with_reducible apply tw) <;> intro _)
        exact .inr ⟨hno, rfl, rfl⟩
  · refine acalls_go ttOk zOk foOk Tryz.func25 rfl Tryz.ntmps25 rfl false rfl ?_
    conv => whnf
    refine hmay.mono ?_
    rintro _ _ ⟨rfl, rfl⟩
    conv => whnf
    refine rdz ?_; repeat' ((with_reducible apply tw) <;> intro _)
    refine hcm.mono ?_
    rintro _ _ ⟨rfl, rfl⟩
    conv => whnf
    refine rdz ?_; repeat' ((with_reducible apply tw) <;> intro _)
    · rename_i h1 h2
      exact .inl ⟨⟨h1, h2⟩, rfl, rfl⟩
    · rename_i h1 h2
      have hno : ¬ old d c := fun h => h2 h.2
      refine hcl.mono ?_
      rintro _ _ ⟨rfl, rfl⟩
      conv => whnf
      refine rdz ?_; repeat' ((with_reducible apply tw) <;> intro _)
      refine hgo.mono ?_
      rintro _ _ (⟨hfd, rfl, rfl⟩ | ⟨rfl, rfl⟩)
      · conv => whnf
        refine rdz ?_; repeat' ((with_reducible apply tw) <;> intro _)
        exact .inr ⟨hno, rfl, rfl⟩
      · conv => whnf
        refine rdz ?_; repeat' ((with_reducible apply tw) <;> intro _)
        exact .inr ⟨hno, rfl, rfl⟩
    · rename_i h1
      have hno : ¬ old d c := fun h => h1 h.1
      refine hcl.mono ?_
      rintro _ _ ⟨rfl, rfl⟩
      conv => whnf
      refine rdz ?_; repeat' ((with_reducible apply tw) <;> intro _)
      refine hgo.mono ?_
      rintro _ _ (⟨hfd, rfl, rfl⟩ | ⟨rfl, rfl⟩)
      · conv => whnf
        refine rdz ?_; repeat' ((with_reducible apply tw) <;> intro _)
        exact .inr ⟨hno, rfl, rfl⟩
      · conv => whnf
        refine rdz ?_; repeat' ((with_reducible apply tw) <;> intro _)
        exact .inr ⟨hno, rfl, rfl⟩
def lackB (d : Dag) (r x : Int) : Bool := match certOf d x with | some c => decide (c.round ≠ r - 1) | none => true
def lacksI (d : Dag) (c : Cert) : List Int := if c.round - 1 ≤ d.low then [] else c.pars.filter fun x => lackB d c.round x
theorem rLacks_ok (d : Dag) (hd : few d.certs) (c : Cert) (hc : c.pars.length ≤ 1099511627776) (hr : 1 ≤ c.round ∧ c.round ≤ 1099511627776) : ACalls Tryz.prog 21 [d.av, c.hav] [] (fun av L => av = .d (.sl 1 (nums (lacksI d c))) ∧ L = []) := by
  have hcl := certsD_length d.certs
  have hpl := nums_length c.pars
  (refine acalls_go ttOk zOk foOk Tryz.func21 rfl Tryz.ntmps21 rfl false rfl ?_); (conv => whnf)
  refine rdw ?_; repeat' ((with_reducible apply tw) <;> intro _)
  · rename_i h
    rw [lacksI, if_pos h]
    exact ⟨rfl, rfl⟩
  · rename_i h
    rw [lacksI, if_neg h]
    refine loop_go ttOk zOk foOk (σ := Nat) (fun j => ([(2, .ptr 0 0), (3, .ptr 1 0), (5, .arr 2), (6, .d (.int .i64 j))], [.cells d.cells, .cells c.hcells, .row 3 1 (nums ((c.pars.take j).filter fun x => lackB d c.round x)) false])) (fun j => j ≤ c.pars.length) (fun j => c.pars.length - j) [2, 3, 5, 6] ?_ ?_
    · conv => whnf
      exact ⟨0, rfl, rfl, Nat.zero_le _⟩
    · intro j hj
      conv => whnf
      rw [hpl]
      refine rdw ?_; repeat' ((with_reducible apply tw) <;> intro _)
      · rename_i hjl
        refine Exists.elim (⟨_, List.getElem?_eq_getElem (by omega)⟩ : ∃ x, c.pars[j]? = some x) fun x hx => ?_
        ((with_reducible refine draw_pl ttOk zOk foOk mixedOk pl21x7 ?_ ?_); (focus kernel_rfl); (conv => whnf))
        refine rdw ?_; repeat' ((with_reducible apply tw) <;> intro _)
        ((with_reducible apply rd_intro); (focus (intro K hK; (conv => whnf); exact ⟨by omega, [.int .i64 x], nums_at hx, hK⟩)); (conv => whnf))
        refine rdw ?_; repeat' ((with_reducible apply tw) <;> intro _)
        refine (rFind_ok d hd x).mono ?_
        rintro _ _ ⟨rfl, rfl⟩
        conv => whnf
        refine rdw ?_; repeat' ((with_reducible apply tw) <;> intro _)
        have hsn : ∀ b, lackB d c.round x = b → (c.pars.take (j + 1)).filter (fun x => lackB d c.round x) = (c.pars.take j).filter (fun x => lackB d c.round x) ++ (if b then [x] else []) := by
          intro b hb
          rw [List.take_add_one, hx]
          simp only [Option.toList_some, List.filter_append, List.filter_cons, hb]
          cases b <;> rfl
        have hfl : ((c.pars.take j).filter (fun x => lackB d c.round x)).length ≤ j := by
          have h1 := List.length_filter_le (fun x => lackB d c.round x) (c.pars.take j)
          rw [List.length_take] at h1
          omega
        have hfn := nums_length ((c.pars.take j).filter (fun x => lackB d c.round x))
        cases hg : getC d.certs x with
        | none =>
          rw [show getI d.certs x = -1 by rw [getI, hg]; rfl]
          have hlb : lackB d c.round x = true := by rw [lackB, certOf, hg]; rfl
          conv => whnf
          refine rdw ?_; repeat' ((with_reducible apply tw) <;> intro _)
          ((with_reducible refine draw_pl ttOk zOk foOk mixedOk pl21x8 ?_ ?_); (focus kernel_rfl); (conv => whnf))
          refine rdw ?_; repeat' ((with_reducible apply tw) <;> intro _)
          refine ⟨by omega, [.int .i64 x], nums_at hx, ?_⟩
          conv => whnf
          refine rdw ?_; repeat' ((with_reducible apply tw) <;> intro _)
          refine ⟨by simp [hfn]; omega, ?_⟩
          conv => whnf
          refine rdw ?_; repeat' ((with_reducible apply tw) <;> intro _)
          refine ⟨j + 1, rfl, ?_, by omega, by omega⟩
          rw [hsn _ hlb, ← nums_apps]
          rfl
        | some k =>
          obtain ⟨c', hc', hd'⟩ := getC_some hg
          rw [show getI d.certs x = (k : Int) by rw [getI, hg]; rfl]
          have hlb : lackB d c.round x = decide (c'.round ≠ c.round - 1) := by rw [lackB, certOf, hg, Option.bind_some, hc']
          have hkl := (List.getElem?_eq_some_iff.1 hc').1
          conv => whnf
          refine rdw ?_; repeat' ((with_reducible apply tw) <;> intro _)
          ((with_reducible refine draw_pl ttOk zOk foOk mixedOk pl21x8 ?_ ?_); (focus kernel_rfl); (conv => whnf))
          refine rdw ?_; repeat' ((with_reducible apply tw) <;> intro _)
          ((with_reducible apply rd_intro); (focus (intro K hK; (conv => whnf); exact ⟨by omega, c'.cs, certsD_at hc', hK⟩)); (conv => whnf))
          refine rdw ?_; repeat' ((with_reducible apply tw) <;> intro _)
          · rename_i h1
            rw [decide_eq_true (by omega)] at hlb
            refine ⟨by omega, [.int .i64 x], nums_at hx, ?_⟩
            conv => whnf
            refine rdw ?_; repeat' ((with_reducible apply tw) <;> intro _)
            refine ⟨by simp [hfn]; omega, ?_⟩
            conv => whnf
            refine rdw ?_; repeat' ((with_reducible apply tw) <;> intro _)
            refine ⟨j + 1, rfl, ?_, by omega, by omega⟩
            rw [hsn _ hlb, ← nums_apps]
            rfl
          · rename_i h1
            rw [decide_eq_false (by omega)] at hlb
            refine ⟨j + 1, rfl, ?_, by omega, by omega⟩
            rw [hsn _ hlb]; simp [Dag.cells, Cert.hcells]
      · rename_i hjl
        rw [List.take_of_length_le (by omega)]
        exact ⟨rfl, rfl⟩
end Go.Proofs.YtmmngmnmghpfaaaGreat
