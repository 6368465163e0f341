/- PrimaryMakes: contracts. -/
import Derived.Test.YtpgnaajkeeenbaaGreatPrimaryMakesCodB
set_option linter.unusedVariables false
set_option linter.unusedSimpArgs false
namespace Go.Proofs.YtpgnaajkeeenbaaGreat
open Go.Ab Go.RowKit Go.MapKept
attribute [local irreducible] ACalls AW ADraw Into fltB fnear
set_option maxRecDepth 100000
theorem rMay_ok (n : Int) : ACalls Tryz.prog 45 [.d (.int .i64 n)] [] (fun av L => av = .d (.bool (isN n)) ∧ L = []) := by
  unfold isN
  refine acalls_go ttOk zOk foOk Tryz.func45 rfl Tryz.ntmps45 rfl false rfl ?_
  conv => whnf
  refine rdw ?_; repeat' ((with_reducible apply tw) <;> intro _)
  · rename_i h1 h2
    refine ⟨by decide, ?_⟩
    intro z hz
    have hz2 := tmod_pos (by omega) hz
    clear hz
    subst hz2
    conv => whnf
    exact ⟨boolEq (by simp; omega), rfl⟩
  · rename_i h1 h2
    exact ⟨by rw [decide_eq_false (by omega)]; rfl, rfl⟩
  · rename_i h1
    exact ⟨by rw [decide_eq_false (by omega)]; rfl, rfl⟩
theorem rQuorum_ok (n : Int) (hn : isN n = true) : ACalls Tryz.prog 54 [.d (.int .i64 n)] [] (fun av L => av = .d (.int .i64 (2 * ((n - 1) / 3) + 1)) ∧ L = []) := by
  have hn' := of_decide_eq_true hn
  refine acalls_go ttOk zOk foOk Tryz.func54 rfl Tryz.ntmps54 rfl false rfl ?_
  conv => whnf
  refine ⟨by decide, ?_⟩
  intro z hz
  have : z = (n - 1) / 3 := by rw [hz, Int.tdiv_eq_ediv_of_nonneg (by omega), wrapI (by omega)]; omega
  clear hz
  subst this
  conv => whnf
  refine rdw ?_; repeat' ((with_reducible apply tw) <;> intro _)
  exact ⟨rfl, rfl⟩
theorem rDigest_ok (n : Int) : ACalls Tryz.prog 50 [.d (.int .i64 n)] [] (fun av L => av = .d (.bool (decide (1 ≤ n ∧ n ≤ 65536))) ∧ L = []) := by
  refine acalls_go ttOk zOk foOk Tryz.func50 rfl Tryz.ntmps50 rfl false rfl ?_
  conv => whnf
  refine rdw ?_; repeat' ((with_reducible apply tw) <;> intro _)
  · rename_i h1
    exact ⟨boolEq (by simp; omega), rfl⟩
  · rename_i h1
    exact ⟨by rw [decide_eq_false (by omega)]; rfl, rfl⟩
theorem rBefore_ok (r a s b : Int) : ACalls Tryz.prog 106 [.d (.int .i64 r), .d (.int .i64 a), .d (.int .i64 s), .d (.int .i64 b)] [] (fun av L => av = .d (.bool (decide (r < s ∨ r = s ∧ a < b))) ∧ L = []) := by
  refine acalls_go ttOk zOk foOk Tryz.func106 rfl Tryz.ntmps106 rfl false rfl ?_
  conv => whnf
  refine rdw ?_; repeat' ((with_reducible apply tw) <;> intro _)
  · rename_i h1
    exact ⟨by rw [decide_eq_true (.inl h1 : r < s ∨ r = s ∧ a < b)]; rfl, rfl⟩
  · rename_i h1 h2
    exact ⟨boolEq (by simp; omega), rfl⟩
  · rename_i h1 h2
    exact ⟨by rw [decide_eq_false (by omega)]; rfl, rfl⟩
theorem rising_take_succ {l : List Int} {j : Nat} {y x : Int} (hy : l[j]? = some y) (hx : l[j + 1]? = some x) : risingI (l.take (j + 2)) ↔ risingI (l.take (j + 1)) ∧ y < x := by
  rw [show l.take (j + 2) = l.take (j + 1) ++ [x] by rw [List.take_add_one, hx]; rfl, rising_snoc]
  constructor
  · rintro ⟨h1, h2⟩
    exact ⟨h1, h2 y (by rw [List.take_add_one, hy]; simp)⟩
  · rintro ⟨h1, h2⟩
    exact ⟨h1, fun z hz => by have := rising_last h1 hy z hz; omega⟩
open Classical in
theorem rRising_ok (l : List Int) (hl : few l) : ACalls Tryz.prog 52 [.d (.sl 1 (nums l))] [] (fun av L => av = .d (.bool (decide (risingI l))) ∧ L = []) := by
  have hll := nums_length l
  unfold few at hl
  refine acalls_go ttOk zOk foOk Tryz.func52 rfl Tryz.ntmps52 rfl false rfl ?_
  conv => whnf
  refine loop_go ttOk zOk foOk (σ := Nat) (fun j => ([(0, .d (.sl 1 (nums l))), (3, .d (.int .i64 ((j : Int) + 1)))], [])) (fun j => j ≤ l.length ∧ risingI (l.take (j + 1))) (fun j => l.length - j) [0, 3] ?_ ?_
  · conv => whnf
    refine ⟨0, rfl, rfl, Nat.zero_le _, ?_⟩
    cases l with
    | nil => simp [risingI]
    | cons a t => simp [risingI]
  · rintro j ⟨hj, hr⟩
    conv => whnf
    refine rdw ?_; repeat' ((with_reducible apply tw) <;> intro _)
    · rename_i h
      obtain ⟨y, hy⟩ : ∃ y, l[j]? = some y := ⟨_, List.getElem?_eq_getElem (by omega)⟩
      obtain ⟨x, hx⟩ : ∃ x, l[j + 1]? = some x := ⟨_, List.getElem?_eq_getElem (by omega)⟩
      have hs := rising_take_succ hy hx
      ((with_reducible refine draw_pl ttOk zOk foOk mixedOk pl52x4 ?_ ?_); (focus kernel_rfl); (conv => whnf))
      refine rdw ?_; repeat' ((with_reducible apply tw) <;> intro _)
      ((with_reducible apply rd_intro); (focus (intro K hK; (conv => whnf); exact ⟨by omega, [.int .i64 x], (by rw [show ((j : Int) + 1).toNat = j + 1 by omega]; exact nums_at hx), hK⟩)); (conv => whnf))
      refine rdw ?_; repeat' ((with_reducible apply tw) <;> intro _)
      ((with_reducible apply rd_intro); (focus (intro K hK; (conv => whnf); exact ⟨by omega, [.int .i64 y], (by rw [show ((j : Int) + 1 - 1).toNat = j by omega]; exact nums_at hy), hK⟩)); (conv => whnf))
      refine rdw ?_; repeat' ((with_reducible apply tw) <;> intro _)
      · rename_i h2
        exact ⟨by rw [decide_eq_false (fun h3 => by have := (hs.1 (h3.sublist (List.take_sublist ..))).2; omega)]; rfl, rfl⟩
      · rename_i h2
        exact ⟨j + 1, rfl, rfl, ⟨by omega, hs.2 ⟨hr, by omega⟩⟩, by omega⟩
    · rename_i h
      rw [List.take_of_length_le (by omega)] at hr
      exact ⟨by rw [decide_eq_true hr]; rfl, rfl⟩
open Classical in
theorem rBetween_ok (l : List Int) (hl : few l) (a b : Int) : ACalls Tryz.prog 53 [.d (.sl 1 (nums l)), .d (.int .i64 a), .d (.int .i64 b)] [] (fun av L => av = .d (.bool (decide (∀ x ∈ l, a ≤ x ∧ x ≤ b))) ∧ L = []) := by
  have hll := nums_length l
  unfold few at hl
  refine acalls_go ttOk zOk foOk Tryz.func53 rfl Tryz.ntmps53 rfl false rfl ?_
  conv => whnf
  refine loop_go ttOk zOk foOk (σ := Nat) (fun j => ([(0, .d (.sl 1 (nums l))), (1, .d (.int .i64 a)), (2, .d (.int .i64 b)), (7, .d (.int .i64 j))], [])) (fun j => j ≤ l.length ∧ ∀ x ∈ l.take j, a ≤ x ∧ x ≤ b) (fun j => l.length - j) [0, 1, 2, 7] ?_ ?_
  · conv => whnf
    exact ⟨0, rfl, rfl, Nat.zero_le _, by simp⟩
  · rintro j ⟨hj, hr⟩
    conv => whnf
    refine rdw ?_; repeat' ((with_reducible apply tw) <;> intro _)
    · rename_i h
      obtain ⟨x, hx⟩ : ∃ x, l[j]? = some x := ⟨_, List.getElem?_eq_getElem (by omega)⟩
      refine ⟨by omega, [.int .i64 x], nums_at hx, ?_⟩
      conv => whnf
      refine rdw ?_; repeat' ((with_reducible apply tw) <;> intro _)
      · rename_i h2
        exact ⟨by rw [decide_eq_false (fun h3 => by have := h3 x (List.mem_of_getElem? hx); omega)]; rfl, rfl⟩
      · rename_i h2
        refine ⟨by omega, [.int .i64 x], nums_at hx, ?_⟩
        conv => whnf
        refine rdw ?_; repeat' ((with_reducible apply tw) <;> intro _)
        · rename_i h3
          exact ⟨by rw [decide_eq_false (fun h4 => by have := h4 x (List.mem_of_getElem? hx); omega)]; rfl, rfl⟩
        · rename_i h3
          refine ⟨j + 1, rfl, rfl, ⟨by omega, fun z hz => ?_⟩, by omega⟩
          rw [List.take_add_one, hx] at hz
          rcases List.mem_append.1 hz with hz | hz
          · exact hr z hz
          · simp at hz; omega
    · rename_i h
      rw [List.take_of_length_le (by omega)] at hr
      exact ⟨by rw [decide_eq_true hr]; rfl, rfl⟩
open Classical in
theorem rDigests_ok (l : List Int) (hl : few l) : ACalls Tryz.prog 55 [.d (.sl 1 (nums l))] [] (fun av L => av = .d (.bool (decide (∀ x ∈ l, 1 ≤ x ∧ x ≤ 65536))) ∧ L = []) := by
  refine acalls_go ttOk zOk foOk Tryz.func55 rfl Tryz.ntmps55 rfl false rfl ?_
  conv => whnf
  refine (rBetween_ok l hl 1 65536).mono ?_
  rintro _ _ ⟨rfl, rfl⟩
  conv => whnf
  exact ⟨rfl, rfl⟩
open Classical in
theorem rdigests_ok (l : List Int) (hl : few l) (m : Int) : ACalls Tryz.prog 109 [.d (.sl 1 (nums l)), .d (.int .i64 m)] [] (fun av L => av = .d (.bool (decide ((l.length : Int) ≤ m ∧ riseB l 1 65536))) ∧ L = []) := by
  have hll := nums_length l
  refine acalls_go ttOk zOk foOk Tryz.func109 rfl Tryz.ntmps109 rfl false rfl ?_
  conv => whnf
  rw [hll]
  refine rdw ?_; repeat' ((with_reducible apply tw) <;> intro _)
  · rename_i h1
    refine (rDigests_ok l hl).mono ?_
    rintro _ _ ⟨rfl, rfl⟩
    conv => whnf
    refine rdw ?_; repeat' ((with_reducible apply tw) <;> intro _)
    · rename_i h2
      refine (rRising_ok l hl).mono ?_
      rintro _ _ ⟨rfl, rfl⟩
      conv => whnf
      exact ⟨boolEq (by simp only [decide_eq_true_iff]; exact ⟨fun h => ⟨h1, h, h2⟩, fun h => h.2.1⟩), rfl⟩
    · rename_i h2
      exact ⟨by rw [decide_eq_false (fun h => h2 h.2.2)]; rfl, rfl⟩
  · rename_i h1
    exact ⟨by rw [decide_eq_false (fun h => h1 h.1)]; rfl, rfl⟩
def quo (n : Int) : Int := 2 * ((n - 1) / 3) + 1
structure okHead (n : Int) (c : Cert) : Prop where
  isn : isN n = true
  author : 1 ≤ c.author ∧ c.author ≤ n
  round : 1 ≤ c.round ∧ c.round ≤ 1099511627776
  bats : (c.bats.length : Int) ≤ 8 ∧ riseB c.bats 1 65536
  pars : (c.pars.length : Int) ≤ n ∧ riseB c.pars 1 65536
  one : c.round = 1 → c.pars = []
  many : c.round ≠ 1 → (c.pars.length : Int) ≥ quo n
structure okCert (n : Int) (c : Cert) : Prop where
  head : okHead n c
  digest : 1 ≤ c.digest ∧ c.digest ≤ 65536
  sigs : riseB c.sigs 1 n
  enough : (c.sigs.length : Int) ≥ quo n
structure fewL (c : Cert) : Prop where
  bats : few c.bats
  pars : few c.pars
  sigs : few c.sigs
open Classical in
theorem rHeader_ok (c : Cert) (hf : fewL c) (n : Int) : ACalls Tryz.prog 51 [c.hav, .d (.int .i64 n)] [] (fun av L => av = .d (.bool (decide (okHead n c))) ∧ L = []) := by
  have hpl := nums_length c.pars
  refine acalls_go ttOk zOk foOk Tryz.func51 rfl Tryz.ntmps51 rfl false rfl ?_
  conv => whnf
  refine (rMay_ok n).mono ?_
  rintro _ _ ⟨rfl, rfl⟩
  cases hn : isN n with
  | false =>
    conv => whnf
    exact ⟨by rw [decide_eq_false (fun h => by have := h.isn; rw [hn] at this; cases this)]; rfl, rfl⟩
  | true =>
    have hn' := of_decide_eq_true hn
    conv => whnf
    refine rdw ?_; repeat' ((with_reducible apply tw) <;> intro _)
    · rename_i h
      exact ⟨by rw [decide_eq_false (fun h1 => by have := h1.author; omega)]; rfl, rfl⟩
    · rename_i h1 h
      exact ⟨by rw [decide_eq_false (fun h1 => by have := h1.author; omega)]; rfl, rfl⟩
    · rename_i h1 h2 h
      exact ⟨by rw [decide_eq_false (fun h1 => by have := h1.round; omega)]; rfl, rfl⟩
    · rename_i h1 h2 h3 h
      exact ⟨by rw [decide_eq_false (fun h1 => by have := h1.round; omega)]; rfl, rfl⟩
    · rename_i h1 h2 h3 h4
      refine (rdigests_ok c.bats hf.bats 8).mono ?_
      rintro _ _ ⟨rfl, rfl⟩
      conv => whnf
      refine rdw ?_; repeat' ((with_reducible apply tw) <;> intro _)
      · rename_i h5
        exact ⟨by rw [decide_eq_false (fun h => of_decide_eq_false h5 h.bats)]; rfl, rfl⟩
      · rename_i h5
        replace h5 := of_decide_eq_true h5
        refine (rdigests_ok c.pars hf.pars n).mono ?_
        rintro _ _ ⟨rfl, rfl⟩
        conv => whnf
        refine rdw ?_; repeat' ((with_reducible apply tw) <;> intro _)
        · rename_i h6
          exact ⟨by rw [decide_eq_false (fun h => of_decide_eq_false h6 h.pars)]; rfl, rfl⟩
        · rename_i h6 h7
          replace h6 := of_decide_eq_true h6
          refine ⟨boolEq ?_, rfl⟩
          simp only [beq_iff_eq, decide_eq_true_iff, hpl]
          constructor
          · intro h8
            exact ⟨hn, by omega, by omega, h5, h6, fun _ => List.eq_nil_of_length_eq_zero (by omega), fun h => absurd h7 h⟩
          · intro h8
            rw [h8.one h7]; rfl
        · rename_i h6 h7
          replace h6 := of_decide_eq_true h6
          ((with_reducible refine draw_pl ttOk zOk foOk mixedOk pl51x5 ?_ ?_); (focus kernel_rfl); (conv => whnf))
          refine rdw ?_; repeat' ((with_reducible apply tw) <;> intro _)
          refine (rQuorum_ok n hn).mono ?_
          rintro _ _ ⟨rfl, rfl⟩
          conv => whnf
          refine rdw ?_; repeat' ((with_reducible apply tw) <;> intro _)
          refine ⟨boolEq ?_, rfl⟩
          simp only [decide_eq_true_iff, hpl]
          constructor
          · intro h8
            exact ⟨hn, by omega, by omega, h5, h6, fun h => absurd h h7, fun _ => h8⟩
          · intro h8
            exact h8.many h7
open Classical in
theorem rCert_ok (c : Cert) (hf : fewL c) (n : Int) : ACalls Tryz.prog 107 [c.av, .d (.int .i64 n)] [] (fun av L => av = .d (.bool (decide (okCert n c))) ∧ L = []) := by
  have hsl := nums_length c.sigs
  refine acalls_go ttOk zOk foOk Tryz.func107 rfl Tryz.ntmps107 rfl false rfl ?_
  conv => whnf
  ((with_reducible refine draw_pl ttOk zOk foOk mixedOk pl107x1 ?_ ?_); (focus kernel_rfl); (conv => whnf))
  refine rdw ?_; repeat' ((with_reducible apply tw) <;> intro _)
  refine (rHeader_ok c hf n).mono ?_
  rintro _ _ ⟨rfl, rfl⟩
  conv => whnf
  refine rdw ?_; repeat' ((with_reducible apply tw) <;> intro _)
  · rename_i h1
    refine (rDigest_ok c.digest).mono ?_
    rintro _ _ ⟨rfl, rfl⟩
    conv => whnf
    refine rdw ?_; repeat' ((with_reducible apply tw) <;> intro _)
    · rename_i h2
      refine (rRising_ok c.sigs hf.sigs).mono ?_
      rintro _ _ ⟨rfl, rfl⟩
      conv => whnf
      refine rdw ?_; repeat' ((with_reducible apply tw) <;> intro _)
      · rename_i h3
        refine (rBetween_ok c.sigs hf.sigs 1 n).mono ?_
        rintro _ _ ⟨rfl, rfl⟩
        conv => whnf
        refine rdw ?_; repeat' ((with_reducible apply tw) <;> intro _)
        · rename_i h4
          refine (rQuorum_ok n h1.isn).mono ?_
          rintro _ _ ⟨rfl, rfl⟩
          conv => whnf
          refine rdw ?_; repeat' ((with_reducible apply tw) <;> intro _)
          refine ⟨boolEq ?_, rfl⟩
          simp only [decide_eq_true_iff, hsl]
          exact ⟨fun h => ⟨h1, h2, ⟨h3, h4⟩, h⟩, fun h => h.enough⟩
        · rename_i h4
          exact ⟨by rw [decide_eq_false (fun h => h4 h.sigs.2)]; rfl, rfl⟩
      · rename_i h3
        exact ⟨by rw [decide_eq_false (fun h => h3 h.sigs.1)]; rfl, rfl⟩
    · rename_i h2
      exact ⟨by rw [decide_eq_false (fun h => h2 h.digest)]; rfl, rfl⟩
  · rename_i h1
    exact ⟨by rw [decide_eq_false (fun h => h1 h.head)]; rfl, rfl⟩
structure okForm (n : Int) (c : Cert) : Prop where
  author : 1 ≤ c.author ∧ c.author ≤ n
  round : 1 ≤ c.round ∧ c.round ≤ 1099511627776
  bats : (c.bats.length : Int) ≤ 8 ∧ riseB c.bats 1 65536
  pars : (c.pars.length : Int) ≤ n ∧ riseB c.pars 1 65536
  one : c.round = 1 → c.pars = []
open Classical in
theorem form_ok (c : Cert) (hf : fewL c) (n : Int) : ACalls Tryz.prog 123 [c.hav, .d (.int .i64 n)] [] (fun av L => av = .d (.bool (decide (okForm n c))) ∧ L = []) := by
  have hpl := nums_length c.pars
  have hbl := nums_length c.bats
  refine acalls_go ttOk zOk foOk Tryz.func123 rfl Tryz.ntmps123 rfl false rfl ?_
  conv => whnf
  refine rdw ?_; repeat' ((with_reducible apply tw) <;> intro _)
  · rename_i h
    exact ⟨by rw [decide_eq_false (fun h1 => by have := h1.author; omega)]; rfl, rfl⟩
  · rename_i h1 h
    exact ⟨by rw [decide_eq_false (fun h1 => by have := h1.author; omega)]; rfl, rfl⟩
  · rename_i h1 h2 h
    exact ⟨by rw [decide_eq_false (fun h1 => by have := h1.round; omega)]; rfl, rfl⟩
  · rename_i h1 h2 h3 h
    exact ⟨by rw [decide_eq_false (fun h1 => by have := h1.round; omega)]; rfl, rfl⟩
  · rename_i h1 h2 h3 h4 h
    exact ⟨by rw [decide_eq_false (fun h1 => by have := h1.bats.1; omega)]; rfl, rfl⟩
  · rename_i h1 h2 h3 h4 h5
    refine (digests_ok c.bats hf.bats).mono ?_
    rintro _ _ ⟨rfl, rfl⟩
    conv => whnf
    refine rdw ?_; repeat' ((with_reducible apply tw) <;> intro _)
    · rename_i h6
      refine (digests_ok c.pars hf.pars).mono ?_
      rintro _ _ ⟨rfl, rfl⟩
      conv => whnf
      refine rdw ?_; repeat' ((with_reducible apply tw) <;> intro _)
      · rename_i h7 h8 h9
        exact ⟨by rw [decide_eq_true ⟨by omega, by omega, ⟨by omega, h6⟩, ⟨by omega, h7⟩, fun h => absurd h (by omega)⟩]; rfl, rfl⟩
      · rename_i h7 h8 h9
        refine ⟨boolEq ?_, rfl⟩
        simp only [beq_iff_eq, decide_eq_true_iff, hpl]
        exact ⟨fun h => ⟨by omega, by omega, ⟨by omega, h6⟩, ⟨by omega, h7⟩, fun _ => List.eq_nil_of_length_eq_zero (by omega)⟩, fun h => by rw [h.one (by omega)]; rfl⟩
      · rename_i h7 h8
        exact ⟨by rw [decide_eq_false (fun h => by have := h.pars.1; omega)]; rfl, rfl⟩
      · rename_i h7
        exact ⟨by rw [decide_eq_false (fun h => h7 h.pars.2)]; rfl, rfl⟩
    · rename_i h6
      exact ⟨by rw [decide_eq_false (fun h => h6 h.bats.2)]; rfl, rfl⟩
open Classical in
theorem hMay_ok (c : Cert) (hf : fewL c) (n : Int) : ACalls Tryz.prog 71 [c.hav, .d (.int .i64 n)] [] (fun av L => av = .d (.bool (decide (okHead n c))) ∧ L = []) := by
  have hpl := nums_length c.pars
  refine acalls_go ttOk zOk foOk Tryz.func71 rfl Tryz.ntmps71 rfl false rfl ?_
  conv => whnf
  ((with_reducible refine draw_pl ttOk zOk foOk mixedOk pl71x1 ?_ ?_); (focus kernel_rfl); (conv => whnf))
  refine rdw ?_; repeat' ((with_reducible apply tw) <;> intro _)
  refine (is_ok n).mono ?_
  rintro _ _ ⟨rfl, rfl⟩
  obtain ⟨b, hb⟩ : ∃ b, isN n = b := ⟨_, rfl⟩
  rw [hb]
  conv => whnf
  refine rdw ?_; repeat' ((with_reducible apply tw) <;> intro _)
  · rename_i h1
    rw [h1] at hb
    have hn' := of_decide_eq_true hb
    refine (form_ok c hf n).mono ?_
    rintro _ _ ⟨rfl, rfl⟩
    conv => whnf
    refine rdw ?_; repeat' ((with_reducible apply tw) <;> intro _)
    · rename_i h2 h3
      exact ⟨by rw [decide_eq_true ⟨hb, h2.author, h2.round, h2.bats, h2.pars, h2.one, fun h => absurd h3 h⟩]; rfl, rfl⟩
    · rename_i h2 h3
      refine (q_ok n ⟨by omega, by omega⟩).mono ?_
      rintro _ _ ⟨rfl, rfl⟩
      conv => whnf
      refine rdw ?_; repeat' ((with_reducible apply tw) <;> intro _)
      refine ⟨boolEq ?_, rfl⟩
      simp only [decide_eq_true_iff, hpl]
      exact ⟨fun h => ⟨hb, h2.author, h2.round, h2.bats, h2.pars, h2.one, fun _ => h⟩, fun h => h.many h3⟩
    · rename_i h2
      exact ⟨by rw [decide_eq_false (fun h => h2 ⟨h.author, h.round, h.bats, h.pars, h.one⟩)]; rfl, rfl⟩
  · rename_i h1
    rw [h1] at hb
    exact ⟨by rw [decide_eq_false (fun h => by have := h.isn; rw [hb] at this; cases this)]; rfl, rfl⟩
open Classical in
theorem mayCert_ok (c : Cert) (hf : fewL c) (n : Int) : ACalls Tryz.prog 159 [c.av, .d (.int .i64 n)] [] (fun av L => av = .d (.bool (decide (okCert n c))) ∧ L = []) := by
  have hsl := nums_length c.sigs
  refine acalls_go ttOk zOk foOk Tryz.func159 rfl Tryz.ntmps159 rfl false rfl ?_
  conv => whnf
  ((with_reducible refine draw_pl ttOk zOk foOk mixedOk pl159x1 ?_ ?_); (focus kernel_rfl); (conv => whnf))
  refine rdw ?_; repeat' ((with_reducible apply tw) <;> intro _)
  refine (hMay_ok c hf n).mono ?_
  rintro _ _ ⟨rfl, rfl⟩
  conv => whnf
  refine rdw ?_; repeat' ((with_reducible apply tw) <;> intro _)
  · rename_i h1
    have hn' := of_decide_eq_true h1.isn
    refine (digest_ok c.digest).mono ?_
    rintro _ _ ⟨rfl, rfl⟩
    conv => whnf
    refine rdw ?_; repeat' ((with_reducible apply tw) <;> intro _)
    · rename_i h2
      refine (crising_ok c.sigs hf.sigs 1 n).mono ?_
      rintro _ _ ⟨rfl, rfl⟩
      conv => whnf
      refine rdw ?_; repeat' ((with_reducible apply tw) <;> intro _)
      · rename_i h3
        refine (q_ok n ⟨by omega, by omega⟩).mono ?_
        rintro _ _ ⟨rfl, rfl⟩
        conv => whnf
        refine rdw ?_; repeat' ((with_reducible apply tw) <;> intro _)
        refine ⟨boolEq ?_, rfl⟩
        simp only [decide_eq_true_iff, hsl]
        exact ⟨fun h => ⟨h1, h2, h3, h⟩, fun h => h.enough⟩
      · rename_i h3
        exact ⟨by rw [decide_eq_false (fun h => h3 h.sigs)]; rfl, rfl⟩
    · rename_i h2
      exact ⟨by rw [decide_eq_false (fun h => h2 h.digest)]; rfl, rfl⟩
  · rename_i h1
    exact ⟨by rw [decide_eq_false (fun h => h1 h.head)]; rfl, rfl⟩
end Go.Proofs.YtpgnaajkeeenbaaGreat
namespace Go.Proofs.YtpgnaajkeeenbaaGreat
open Go.Ab Go.RowKit
theorem dig_inj {l : List Cert} (h : (l.map (·.digest)).Nodup) {x y : Cert} (hx : x ∈ l) (hy : y ∈ l) (e : x.digest = y.digest) : x = y := by
  induction l with
  | nil => cases hx
  | cons z r ih =>
    rw [List.map_cons, List.nodup_cons] at h
    rcases List.mem_cons.1 hx with hx1 | hx1
    · rcases List.mem_cons.1 hy with hy1 | hy1
      · rw [hx1, hy1]
      · exact absurd (List.mem_map.2 ⟨y, hy1, by rw [← e, hx1]⟩) h.1
    · rcases List.mem_cons.1 hy with hy1 | hy1
      · exact absurd (List.mem_map.2 ⟨x, hx1, by rw [e, hy1]⟩) h.1
      · exact ih h.2 hx1 hy1
def certOf (d : Dag) (x : Int) : Option Cert := (getC d.certs x).bind fun i => d.certs[i]?
theorem certOf_mem {d : Dag} (h : (d.certs.map (·.digest)).Nodup) {c : Cert} (hc : c ∈ d.certs) : certOf d c.digest = some c := by
  unfold certOf
  cases hg : getC d.certs c.digest with
  | none =>
    unfold getC at hg
    rw [List.findIdx?_eq_none_iff] at hg
    have := hg c hc
    simp at this
  | some i =>
    obtain ⟨c', h1, h2⟩ := getC_some hg
    rw [Option.bind_some, h1, dig_inj h (List.mem_of_getElem? h1) hc h2]
theorem certOf_some {d : Dag} {x : Int} {c : Cert} (h : certOf d x = some c) : c ∈ d.certs ∧ c.digest = x ∧ ∃ i, getC d.certs x = some i ∧ d.certs[i]? = some c := by
  unfold certOf at h
  cases hg : getC d.certs x with
  | none => rw [hg] at h; cases h
  | some i =>
    rw [hg, Option.bind_some] at h
    obtain ⟨c', h1, h2⟩ := getC_some hg
    rw [h1] at h; cases h
    exact ⟨List.mem_of_getElem? h1, h2, i, rfl, h1⟩
end Go.Proofs.YtpgnaajkeeenbaaGreat
namespace Go.Proofs.YtpgnaajkeeenbaaGreat
open Go.Ab Go.RowKit Go.MapKept
attribute [local irreducible] ACalls AW ADraw Into fltB fnear
set_option maxRecDepth 100000
def mapP (ps : List (Int × Int)) : List (KV × MV) := ps.map fun p => (.one (.int .i64 p.1), .v (.one (.int .i64 p.2)))
def lookP (k : Int) : List (Int × Int) → Option Int
  | [] => none
  | p :: r => if p.1 = k then some p.2 else lookP k r
theorem mapP_find (k : Int) : ∀ (ps : List (Int × Int)) (j : Nat), ∃ r, mfind (.one (.int .i64 k)) (mapP ps) j = some r ∧ ((∃ v i, lookP k ps = some v ∧ r = some (i, .v (.one (.int .i64 v)))) ∨ (lookP k ps = none ∧ r = none))
  | [], j => ⟨none, rfl, .inr ⟨rfl, rfl⟩⟩
  | p :: t, j => by
    obtain ⟨r, h1, h2⟩ := mapP_find k t (j + 1)
    have e : mfind (.one (.int .i64 k)) (mapP (p :: t)) j = match some (k == p.1) with
        | some true => some (some (j, .v (.one (.int .i64 p.2))))
        | some false => mfind (.one (.int .i64 k)) (mapP t) (j + 1)
        | none => none := rfl
    by_cases h : p.1 = k
    · rw [e, show (k == p.1) = true by simp [h]]
      exact ⟨_, rfl, .inl ⟨p.2, j, by rw [lookP, if_pos h], rfl⟩⟩
    · rw [e, show (k == p.1) = false by simpa using Ne.symm h]
      refine ⟨r, h1, ?_⟩
      rw [lookP, if_neg h]
      exact h2
theorem lookP_none {k : Int} : ∀ {ps : List (Int × Int)}, (∀ p ∈ ps, p.1 ≠ k) → lookP k ps = none
  | [], _ => rfl
  | p :: r, h => by rw [lookP, if_neg (h p (by simp)), lookP_none fun q hq => h q (by simp [hq])]
theorem lookP_some {k v : Int} : ∀ {ps : List (Int × Int)}, (ps.map (·.1)).Nodup → (k, v) ∈ ps → lookP k ps = some v
  | p :: r, hn, h => by
    rw [List.map_cons, List.nodup_cons] at hn
    rcases List.mem_cons.1 h with h | h
    · subst h; rw [lookP, if_pos rfl]
    · rw [lookP, if_neg (fun e => hn.1 (List.mem_map.2 ⟨_, h, e.symm⟩)), lookP_some hn.2 h]
theorem mapP_new {k v : Int} {ps : List (Int × Int)} (h : lookP k ps = none) : ∃ r, mfind (.one (.int .i64 k)) (mapP ps) 0 = some r ∧ mputAt (mapP ps) r (.one (.int .i64 k)) (.v (.one (.int .i64 v))) = mapP (ps ++ [(k, v)]) := by
  obtain ⟨r, h1, ⟨w, i, h2, _⟩ | ⟨_, rfl⟩⟩ := mapP_find k ps 0
  · rw [h] at h2; cases h2
  · exact ⟨none, h1, by simp [mputAt, mapP]⟩
structure Valid (d : Dag) : Prop where
  nodes : isN d.nodes = true
  low : 0 ≤ d.low ∧ d.low ≤ 1099511627776
  len : d.certs.length ≤ 65536
  certs : ∀ c ∈ d.certs, okCert d.nodes c
  above : ∀ c ∈ d.certs, d.low < c.round
  sorted : sortedC d.certs
  dig : (d.certs.map (·.digest)).Nodup
  here : ∀ c ∈ d.certs, c.round > d.low + 1 → ∀ x ∈ c.pars, ∃ c' ∈ d.certs, c'.digest = x ∧ c'.round = c.round - 1
theorem Valid.well {d : Dag} (h : Valid d) : d.well := by
  have hn := of_decide_eq_true h.nodes
  have hr : ∀ c ∈ d.certs, 1 ≤ c.round ∧ c.round ≤ 1099511627776 := fun c hc => (h.certs c hc).head.round
  have ha : ∀ c ∈ d.certs, 1 ≤ c.author ∧ c.author ≤ d.nodes := fun c hc => (h.certs c hc).head.author
  have hl := h.len
  refine ⟨⟨by unfold few; omega, h.sorted, fun c hc => ⟨⟨by have := hr c hc; omega, by have := hr c hc; omega⟩, ⟨by have := ha c hc; omega, by have := ha c hc; omega⟩⟩, fun c hc => ⟨(ha c hc).1, by have := ha c hc; omega⟩⟩, ⟨by omega, by omega⟩, fun c hc => by have := (h.certs c hc).head.pars.1; unfold few; omega, h.low, ?_, h.len, h.dig, fun c hc => (h.certs c hc).digest.1⟩
  unfold topR
  cases hg : d.certs.getLast? with
  | none => decide
  | some c => exact (hr c (List.mem_of_getLast? hg)).2
theorem Valid.fewL {d : Dag} (h : Valid d) {c : Cert} (hc : c ∈ d.certs) : fewL c := by
  have hn := of_decide_eq_true h.nodes
  have h1 := h.certs c hc
  have h2 := h1.head.bats.1
  have h3 := h1.head.pars.1
  refine ⟨by unfold few; omega, by unfold few; omega, ?_⟩
  have := rising_nodup h1.sigs.1
  have := sub_len (m := (List.range 17).map fun n : Nat => (n : Int)) this fun x hx => by
    have := h1.sigs.2 x hx
    exact List.mem_map.2 ⟨x.toNat, by simp; omega, by omega⟩
  simp at this
  unfold few
  omega
def seenP (l : List Cert) : List (Int × Int) := l.map fun c => (c.digest, c.round)
theorem seen_keys (l : List Cert) : (seenP l).map (·.1) = l.map (·.digest) := by simp [seenP]
theorem Valid.fresh {d : Dag} (h : Valid d) {j : Nat} {c : Cert} (hc : d.certs[j]? = some c) : lookP c.digest (seenP (d.certs.take j)) = none := by
  refine lookP_none fun p hp e => ?_
  obtain ⟨c', hc', rfl⟩ := List.mem_map.1 hp
  have h1 := h.dig
  have h2 : d.certs.take (j + 1) = d.certs.take j ++ [c] := by rw [List.take_add_one, hc]; rfl
  have h3 : ((d.certs.take (j + 1)).map (·.digest)).Nodup := h1.sublist ((List.take_sublist ..).map _)
  rw [h2, List.map_append, List.nodup_append] at h3
  exact h3.2.2 c'.digest (List.mem_map.2 ⟨c', hc', rfl⟩) c.digest (by simp) e
theorem Valid.parent {d : Dag} (h : Valid d) {j : Nat} {c : Cert} (hc : d.certs[j]? = some c) (hr : c.round > d.low + 1) {x : Int} (hx : x ∈ c.pars) : lookP x (seenP (d.certs.take j)) = some (c.round - 1) := by
  obtain ⟨c', h1, h2, h3⟩ := h.here c (List.mem_of_getElem? hc) hr x hx
  obtain ⟨i, hi⟩ := List.getElem?_of_mem h1
  have hjl : j < d.certs.length := by
    rcases Nat.lt_or_ge j d.certs.length with h | h
    · exact h
    · rw [List.getElem?_eq_none h] at hc; cases hc
  have hil : i < d.certs.length := by
    rcases Nat.lt_or_ge i d.certs.length with h | h
    · exact h
    · rw [List.getElem?_eq_none h] at hi; cases hi
  have hij : i < j := by
    rcases Nat.lt_trichotomy i j with h4 | h4 | h4
    · exact h4
    · subst h4; rw [hc] at hi; cases hi; omega
    · have := List.pairwise_iff_getElem.1 h.sorted j i hjl hil h4
      rw [List.getElem?_eq_getElem hjl] at hc
      rw [List.getElem?_eq_getElem hil] at hi
      cases hc; cases hi
      have := before_iff.1 this
      omega
  refine lookP_some ?_ ?_
  · rw [seen_keys]; exact h.dig.sublist ((List.take_sublist ..).map _)
  · refine List.mem_map.2 ⟨c', ?_, by rw [h2, h3]⟩
    rw [List.mem_take_iff_getElem]
    rw [List.getElem?_eq_getElem hil] at hi
    exact ⟨i, by omega, Option.some.inj hi⟩
def tiny {α : Type} (l : List α) : Prop := l.length ≤ 1099511627776
structure Cert.tiny (c : Cert) : Prop where
  bats : Go.Proofs.YtpgnaajkeeenbaaGreat.tiny c.bats
  pars : Go.Proofs.YtpgnaajkeeenbaaGreat.tiny c.pars
  sigs : Go.Proofs.YtpgnaajkeeenbaaGreat.tiny c.sigs
theorem wrap_u64 (i : Int) : IntKind.u64.wrap i = i % 18446744073709551616 := by
  simp [IntKind.wrap, IntKind.signed, IntKind.bits]
theorem within_ok (i n : Int) (hn : 0 < n) (hn2 : n ≤ 1000000) (hi : -9223372036854775808 ≤ i ∧ i < 9223372036854775808) : ACalls Tryz.prog 14 [.d (.int .i64 i), .d (.int .i64 n)] [] (fun av L => av = .d (.int .i64 ((i % 18446744073709551616) % n)) ∧ L = []) := by
  refine acalls_go ttOk zOk foOk Tryz.func14 rfl Tryz.ntmps14 rfl false rfl ?_
  conv => whnf
  intro z hz
  rw [wrap_u64] at hz
  have h0 := Int.emod_nonneg i (show (18446744073709551616 : Int) ≠ 0 by decide)
  rw [← hz] at h0 ⊢
  clear hz
  conv => whnf
  intro m hm
  have hm' : m = n := by rw [hm, wrap_u64]; omega
  clear hm
  subst hm'
  conv => whnf
  refine ⟨by omega, ?_⟩
  intro r hr
  have hr' : r = z % m := by rw [hr, Int.tmod_eq_emod_of_nonneg h0]
  clear hr
  have h1 := Int.emod_nonneg z (show m ≠ 0 by omega)
  have h2 := Int.emod_lt_of_pos z hn
  rw [← hr'] at h1 h2 ⊢
  clear hr'
  conv => whnf
  intro q hq
  have hq' : q = r := by rw [hq, wrapI (by omega)]
  clear hq
  subst hq'
  conv => whnf
  exact ⟨rfl, rfl⟩
theorem take_succ_eq {α : Type} {xs ys : List α} {k : Nat} {a b : α} (hx : xs[k]? = some a) (hy : ys[k]? = some b) (h : xs.take k = ys.take k) : xs.take (k + 1) = ys.take (k + 1) ↔ a = b := by
  rw [List.take_add_one, List.take_add_one, h, hx, hy]
  simp only [Option.toList_some, List.append_cancel_left_eq, List.cons.injEq, and_true]
theorem eqNumbers_ok (xs ys : List Int) (hm : few xs) : ACalls Tryz.prog 21 [.d (.sl 1 (nums xs)), .d (.sl 1 (nums ys))] [] (fun av L => av = .d (.bool (decide (xs = ys))) ∧ L = []) := by
  have hx := nums_length xs
  have hy := nums_length ys
  unfold few at hm
  refine acalls_go ttOk zOk foOk Tryz.func21 rfl Tryz.ntmps21 rfl false rfl ?_
  conv => whnf
  rw [hx, hy]
  refine rdw ?_; repeat' ((with_reducible apply tw) <;> intro _)
  · rename_i h
    rw [decide_eq_false (fun e => h (by rw [e]))]
    exact ⟨rfl, rfl⟩
  · rename_i h
    have hl : xs.length = ys.length := by omega
    refine loop_go ttOk zOk foOk (σ := Nat) (fun k => ([(0, .d (.sl 1 (nums xs))), (1, .d (.sl 1 (nums ys))), (5, .d (.int .i64 k))], [])) (fun k => k ≤ xs.length ∧ xs.take k = ys.take k) (fun k => xs.length - k) [0, 1, 5] ?_ ?_
    · conv => whnf
      exact ⟨0, rfl, rfl, by simp⟩
    · rintro k ⟨hk, he⟩
      conv => whnf
      rw [hx]
      refine rdw ?_; repeat' ((with_reducible apply tw) <;> intro _)
      · rename_i h
        refine Exists.elim (⟨_, List.getElem?_eq_getElem (by omega)⟩ : ∃ a, xs[k]? = some a) fun a ha => ?_
        refine Exists.elim (⟨_, List.getElem?_eq_getElem (by omega)⟩ : ∃ b, ys[k]? = some b) fun b hb => ?_
        ((with_reducible refine draw_pl ttOk zOk foOk mixedOk pl21x6 ?_ ?_); (focus kernel_rfl); (conv => whnf))
        refine rdw ?_; repeat' ((with_reducible apply tw) <;> intro _)
        ((with_reducible apply rd_intro); (focus (intro K hK; (conv => whnf); exact ⟨by omega, [.int .i64 a], nums_at ha, hK⟩)); (conv => whnf))
        refine rdw ?_; repeat' ((with_reducible apply tw) <;> intro _)
        ((with_reducible apply rd_intro); (focus (intro K hK; (conv => whnf); exact ⟨by omega, [.int .i64 b], nums_at hb, hK⟩)); (conv => whnf))
        refine rdw ?_; repeat' ((with_reducible apply tw) <;> intro _)
        · rename_i h
          rw [decide_eq_false (fun e => by subst e; rw [ha] at hb; cases hb; exact h rfl)]
          exact ⟨rfl, rfl⟩
        · rename_i h
          exact ⟨k + 1, rfl, rfl, ⟨by omega, (take_succ_eq ha hb he).2 (by omega)⟩, by omega⟩
      · rename_i h
        obtain rfl : k = xs.length := by omega
        rw [decide_eq_true (by rw [List.take_length, hl, List.take_length] at he; exact he)]
        exact ⟨rfl, rfl⟩
theorem copyNumbers_ok (xs : List Int) (hm : tiny xs) : ACalls Tryz.prog 16 [.d (.sl 1 (nums xs))] [] (fun av L => av = .d (.sl 1 (nums xs)) ∧ L = []) := by
  have hx := nums_length xs
  unfold tiny at hm
  refine acalls_go ttOk zOk foOk Tryz.func16 rfl Tryz.ntmps16 rfl false rfl ?_
  conv => whnf
  refine loop_go ttOk zOk foOk (σ := Nat) (fun k => ([(0, .d (.sl 1 (nums xs))), (3, .arr 0), (4, .d (.int .i64 k))], [.row 3 1 (nums (xs.take k)) false])) (fun k => k ≤ xs.length) (fun k => xs.length - k) [0, 3, 4] ?_ ?_
  · conv => whnf
    exact ⟨0, rfl, rfl, by omega⟩
  · intro k hk
    conv => whnf
    rw [hx]
    refine rdw ?_; repeat' ((with_reducible apply tw) <;> intro _)
    · rename_i h
      refine Exists.elim (⟨_, List.getElem?_eq_getElem (by omega)⟩ : ∃ a, xs[k]? = some a) fun a ha => ?_
      have hkn := nums_length (xs.take k)
      refine ⟨by omega, [.int .i64 a], nums_at ha, ?_⟩
      conv => whnf
      refine rdw ?_; repeat' ((with_reducible apply tw) <;> intro _)
      refine ⟨by simp [hkn]; omega, ?_⟩
      conv => whnf
      refine rdw ?_; repeat' ((with_reducible apply tw) <;> intro _)
      refine ⟨k + 1, rfl, ?_, by omega, by omega⟩
      rw [List.take_add_one, ha, ← nums_apps]
      rfl
    · rename_i h
      rw [List.take_of_length_le (by omega)]
      exact ⟨rfl, rfl⟩
theorem copyHeader_ok (c : Cert) (h : c.tiny) : ACalls Tryz.prog 24 [c.hav] [] (fun av L => av = c.hav ∧ L = []) := by
  refine acalls_go ttOk zOk foOk Tryz.func24 rfl Tryz.ntmps24 rfl false rfl ?_
  conv => whnf
  refine (copyNumbers_ok c.bats h.bats).mono ?_
  rintro _ _ ⟨rfl, rfl⟩
  conv => whnf
  refine (copyNumbers_ok c.pars h.pars).mono ?_
  rintro _ _ ⟨rfl, rfl⟩
  conv => whnf
  exact ⟨rfl, rfl⟩
theorem copyCert_ok (c : Cert) (h : c.tiny) : ACalls Tryz.prog 80 [c.av] [] (fun av L => av = c.av ∧ L = []) := by
  refine acalls_go ttOk zOk foOk Tryz.func80 rfl Tryz.ntmps80 rfl false rfl ?_
  conv => whnf
  refine (copyHeader_ok c h).mono ?_
  rintro _ _ ⟨rfl, rfl⟩
  conv => whnf
  refine (copyNumbers_ok c.sigs h.sigs).mono ?_
  rintro _ _ ⟨rfl, rfl⟩
  conv => whnf
  exact ⟨rfl, rfl⟩
theorem copyCerts_ok (l : List Cert) (hl : tiny l) (h : ∀ c ∈ l, c.tiny) : ACalls Tryz.prog 44 [.d (.sl 6 (certsD l))] [] (fun av L => av = .d (.sl 6 (certsD l)) ∧ L = []) := by
  have hx := certsD_length l
  unfold tiny at hl
  refine acalls_go ttOk zOk foOk Tryz.func44 rfl Tryz.ntmps44 rfl false rfl ?_
  conv => whnf
  refine loop_go ttOk zOk foOk (σ := Nat) (fun k => ([(0, .d (.sl 6 (certsD l))), (3, .arr 0), (4, .d (.int .i64 k))], [.row 40 6 (certsD (l.take k)) false])) (fun k => k ≤ l.length) (fun k => l.length - k) [0, 3, 4] ?_ ?_
  · conv => whnf
    exact ⟨0, rfl, rfl, by omega⟩
  · intro k hk
    conv => whnf
    rw [hx]
    refine rdw ?_; repeat' ((with_reducible apply tw) <;> intro _)
    · rename_i h2
      refine Exists.elim (⟨_, List.getElem?_eq_getElem (by omega)⟩ : ∃ a, l[k]? = some a) fun a ha => ?_
      have hkn := certsD_length (l.take k)
      refine ⟨by omega, a.cs, certsD_at ha, ?_⟩
      conv => whnf
      refine rdw ?_; repeat' ((with_reducible apply tw) <;> intro _)
      refine (copyCert_ok a (h a (List.mem_of_getElem? ha))).mono ?_
      rintro _ _ ⟨rfl, rfl⟩
      conv => whnf
      refine rdw ?_; repeat' ((with_reducible apply tw) <;> intro _)
      refine ⟨by simp [hkn]; omega, ?_⟩
      conv => whnf
      refine rdw ?_; repeat' ((with_reducible apply tw) <;> intro _)
      refine ⟨k + 1, rfl, ?_, by omega, by omega⟩
      rw [List.take_add_one, ha]
      simp [certsD, Cert.cs]
    · rename_i h2
      rw [List.take_of_length_le (by omega)]
      exact ⟨rfl, rfl⟩
end Go.Proofs.YtpgnaajkeeenbaaGreat
namespace Go.Ab
noncomputable section
open Go.RowKit
def deepK (x : AV) (L : List AB) (K : AV → List AB → Prop) : Prop :=
  match x with
  | .agg xs => argsK xs L fun ys L' => K (.agg ys) L'
  | x => argK x L K
noncomputable def deepsK (xs : List AV) : List AB → (List AV → List AB → Prop) → Prop :=
  List.rec (motive := fun _ => List AB → (List AV → List AB → Prop) → Prop) (fun L K => K [] L) (fun x _ ih L K => deepK x L fun y L1 => ih L1 fun l L2 => K (y :: l) L2) xs
theorem argsS_ok {c : Ctx} (hc : c.wf) {E : Nat → Option Nat} {w : World} : ∀ {xs : List AV} {L : List AB} {K : List AV → List AB → Prop} {us : List Value}, SimH c E L w → argsK xs L K → VRs (rcOf c.M0 E L w) xs us →
    ∃ ys L', K ys L' ∧ SimH c E L' w ∧ (rcOf c.M0 E L w).le (rcOf c.M0 E L' w) ∧ VRs (rcOf c.M0 E L' w) ys us
  | [], L, K, us, hs, h, hv => ⟨[], L, h, hs, .refl _, by simpa [VRs] using hv⟩
  | x :: xs, L, K, us, hs, h, hv => by
    simp only [VRs] at hv
    obtain ⟨u, us', rfl, h0, h1, h2⟩ := hv
    obtain ⟨y, L1, k1, k2, k3, k4⟩ := argK_ok hc hs (show argK x L fun y L1 => argsK xs L1 fun l L2 => K (y :: l) L2 from h) h1
    obtain ⟨ys, L2, m1, m2, m3, m4⟩ := argsS_ok hc (xs := xs) k2 k1 (VRs.mono k3 _ _ h2)
    exact ⟨y :: ys, L2, m1, m2, k3.trans m3, by simp only [VRs]; exact ⟨u, us', rfl, h0, VR.mono m3 _ _ k4, m4⟩⟩
theorem deepK_ok {c : Ctx} (hc : c.wf) {E : Nat → Option Nat} {L : List AB} {w : World} (hs : SimH c E L w) {x : AV} {K : AV → List AB → Prop} (h : deepK x L K) {v : Value} (hv : VR (rcOf c.M0 E L w) x v) :
    ∃ y L', K y L' ∧ SimH c E L' w ∧ (rcOf c.M0 E L w).le (rcOf c.M0 E L' w) ∧ VR (rcOf c.M0 E L' w) y v := by
  unfold deepK at h
  split at h
  · rename_i xs
    simp only [VR] at hv
    obtain ⟨us, rfl, hv⟩ := hv
    obtain ⟨ys, L', h1, h2, h3, h4⟩ := argsS_ok hc hs h hv
    exact ⟨_, L', h1, h2, h3, by simp only [VR]; exact ⟨us, rfl, h4⟩⟩
  · exact argK_ok hc hs h hv
theorem deepsK_ok {c : Ctx} (hc : c.wf) {E : Nat → Option Nat} {w : World} : ∀ {xs : List AV} {L : List AB} {K : List AV → List AB → Prop} {us : List Value}, SimH c E L w → deepsK xs L K → VRt (rcOf c.M0 E L w) xs us →
    ∃ ys L', K ys L' ∧ SimH c E L' w ∧ (rcOf c.M0 E L w).le (rcOf c.M0 E L' w) ∧ VRt (rcOf c.M0 E L' w) ys us
  | [], L, K, us, hs, h, hv => ⟨[], L, h, hs, .refl _, by simpa [VRt] using hv⟩
  | x :: xs, L, K, us, hs, h, hv => by
    simp only [VRt] at hv
    obtain ⟨u, us', rfl, h1, h2⟩ := hv
    obtain ⟨y, L1, k1, k2, k3, k4⟩ := deepK_ok hc hs (show deepK x L fun y L1 => deepsK xs L1 fun l L2 => K (y :: l) L2 from h) h1
    obtain ⟨ys, L2, m1, m2, m3, m4⟩ := deepsK_ok hc (xs := xs) k2 k1 (VRt.mono k3 _ _ h2)
    exact ⟨y :: ys, L2, m1, m2, k3.trans m3, by simp only [VRt]; exact ⟨u, us', rfl, VR.mono m3 _ _ k4, m4⟩⟩
def dataK (x : AV) (L : List AB) (K : AV → List AB → Prop) : Prop :=
  match x with
  | .tup xs => deepsK xs L fun ys L' => K (.tup ys) L'
  | x => deepK x L K
theorem dataK_ok {c : Ctx} (hc : c.wf) {E : Nat → Option Nat} {L : List AB} {w : World} (hs : SimH c E L w) {x : AV} {K : AV → List AB → Prop} (h : dataK x L K) {v : Value} (hv : VR (rcOf c.M0 E L w) x v) :
    ∃ y L', K y L' ∧ SimH c E L' w ∧ (rcOf c.M0 E L w).le (rcOf c.M0 E L' w) ∧ VR (rcOf c.M0 E L' w) y v := by
  unfold dataK at h
  split at h
  · rename_i xs
    simp only [VR] at hv
    obtain ⟨us, rfl, hv⟩ := hv
    obtain ⟨ys, L', h1, h2, h3, h4⟩ := deepsK_ok hc hs h hv
    exact ⟨_, L', h1, h2, h3, by simp only [VR]; exact ⟨us, rfl, h4⟩⟩
  · exact deepK_ok hc hs h hv
theorem acalls_data {P : Program} {f : FuncId} {avs : List AV} {Lin : List AB} {post post' : AV → List AB → Prop} (h : ACalls P f avs Lin post) (hp : ∀ av L, post av L → dataK av L fun av' L' => finK Lin.length av' L' post') : ACalls P f avs Lin post' := by
  intro c vs hc hL hs hv
  refine (h c vs hc hL hs hv).mono ?_
  rintro e w' ⟨v, av, L', E', rfl, k2, k3, k4⟩
  obtain ⟨y, L2, h1, h2, h3, h4⟩ := dataK_ok hc k3 (hp _ _ k2) k4
  obtain ⟨E3, av3, L3, m1, m2, m3⟩ := finK_ok h1 (by rw [hL]) h2 h4
  exact ⟨v, av3, L3, E3, rfl, m1, m2, m3⟩
end
end Go.Ab
namespace Go.Proofs.YtpgnaajkeeenbaaGreat
open Go.Ab Go.RowKit Go.MapKept
attribute [local irreducible] ACalls AW ADraw Into fltB fnear
set_option maxRecDepth 100000
theorem findIdx_at {l : List Cert} {p : Cert → Bool} {j : Nat} {c : Cert} (hc : l[j]? = some c) (hp : p c = true) (h : ∀ (i : Nat) c, i < j → l[i]? = some c → p c = false) : l.findIdx? p = some j := by
  rw [List.findIdx?_eq_some_iff_getElem]
  have hj := (List.getElem?_eq_some_iff.1 hc).1
  refine ⟨hj, ?_, fun i hi => ?_⟩
  · rw [List.getElem?_eq_getElem hj] at hc
    rw [Option.some.inj hc]; exact hp
  · have := h i l[i] hi (List.getElem?_eq_getElem (by omega))
    simpa using this
theorem findIdx_no {l : List Cert} {p : Cert → Bool} (h : ∀ (i : Nat) c, l[i]? = some c → p c = false) : l.findIdx? p = none := by
  rw [List.findIdx?_eq_none_iff]
  intro c hc
  obtain ⟨i, hi⟩ := List.getElem?_of_mem hc
  exact h i c hi
theorem elim_ge (o : Option Nat) : (decide ((o.elim (-1) fun i => (i : Int)) ≥ 0)) = o.isSome := by
  cases o <;> simp
theorem hasf_ok (c : Cert) (x : Int) : ACalls Tryz.prog 218 [c.av, .ptr 0 0] [.cells [.d (.int .i64 x)]] (fun av L => av = .d (.bool (c.digest == x)) ∧ L = [.cells [.d (.int .i64 x)]]) := by
  refine acalls_go ttOk zOk foOk Tryz.func218 rfl Tryz.ntmps218 rfl false rfl ?_
  conv => whnf
  exact ⟨rfl, rfl⟩
theorem indexH_ok (l : List Cert) (hl : few l) (x : Int) : ACalls Tryz.prog 141 [.d (.sl 6 (certsD l)), .fn 218 [.ptr 0 0]] [.cells [.d (.int .i64 x)]] (fun av L => av = .d (.int .i64 ((l.findIdx? (fun c => c.digest == x)).elim (-1) fun i => (i : Int))) ∧ L = [.cells [.d (.int .i64 x)]]) := by
  have hll := certsD_length l
  unfold few at hl
  refine acalls_go ttOk zOk foOk Tryz.func141 rfl Tryz.ntmps141 rfl false rfl ?_
  conv => whnf
  refine loop_go ttOk zOk foOk (σ := Nat) (fun j => ([(1, .fn 218 [.ptr 0 0]), (0, .d (.sl 6 (certsD l))), (7, .d (.int .i64 l.length)), (8, .d (.int .i64 j))], [.cells [.d (.int .i64 x)]])) (fun j => j ≤ l.length ∧ ∀ i c, i < j → l[i]? = some c → (c.digest == x) = false) (fun j => l.length - j) [1, 0, 7, 8] ?_ ?_
  · conv => whnf
    exact ⟨0, by rw [hll]; rfl, rfl, Nat.zero_le _, by omega⟩
  · rintro j ⟨h1, h2⟩
    conv => whnf
    refine rdw ?_; repeat' ((with_reducible apply tw) <;> intro _)
    · rename_i h
      obtain ⟨c, hc⟩ : ∃ c, l[j]? = some c := ⟨_, List.getElem?_eq_getElem (by omega)⟩
      refine ⟨by omega, c.cs, certsD_at hc, ?_⟩
      conv => whnf
      refine (hasf_ok c x).mono ?_
      rintro _ _ ⟨rfl, rfl⟩
      obtain ⟨b, hb⟩ : ∃ b, (c.digest == x) = b := ⟨_, rfl⟩
      rw [hb]
      conv => whnf
      refine rdw ?_; repeat' ((with_reducible apply tw) <;> intro _)
      · rename_i h3
        subst h3
        exact ⟨by rw [findIdx_at hc hb h2]; rfl, rfl⟩
      · rename_i h3
        refine ⟨j + 1, rfl, rfl, ⟨by omega, fun i c' hi hc' => ?_⟩, by omega⟩
        rcases Nat.lt_or_ge i j with h4 | h4
        · exact h2 i c' h4 hc'
        · obtain rfl : i = j := by omega
          rw [hc] at hc'; cases hc'; rw [hb]; simpa using h3
    · rename_i h
      exact ⟨by rw [findIdx_no (l := l) fun i c hi => h2 i c (by have := (List.getElem?_eq_some_iff.1 hi).1; omega) hi]; rfl, rfl⟩
theorem containsH_ok (l : List Cert) (hl : few l) (x : Int) : ACalls Tryz.prog 217 [.d (.sl 6 (certsD l)), .fn 218 [.ptr 0 0]] [.cells [.d (.int .i64 x)]] (fun av L => av = .d (.bool (l.findIdx? (fun c => c.digest == x)).isSome) ∧ L = [.cells [.d (.int .i64 x)]]) := by
  refine acalls_go ttOk zOk foOk Tryz.func217 rfl Tryz.ntmps217 rfl false rfl ?_
  conv => whnf
  refine (indexH_ok l hl x).mono ?_
  rintro _ _ ⟨rfl, rfl⟩
  conv => whnf
  exact ⟨by rw [← elim_ge], rfl⟩
theorem isSome_any {l : List Cert} {p : Cert → Bool} : (l.findIdx? p).isSome = l.any p := by
  rw [Bool.eq_iff_iff, List.findIdx?_isSome]
theorem has_ok (l : List Cert) (hl : few l) (x : Int) : ACalls Tryz.prog 181 [.d (.sl 6 (certsD l)), .d (.int .i64 x)] [] (fun av L => av = .d (.bool (l.any fun c => c.digest == x)) ∧ L = []) := by
  refine acalls_go ttOk zOk foOk Tryz.func181 rfl Tryz.ntmps181 rfl false rfl ?_
  conv => whnf
  refine (containsH_ok l hl x).mono ?_
  rintro _ _ ⟨rfl, rfl⟩
  conv => whnf
  exact ⟨by rw [← isSome_any], rfl⟩
theorem cloneC_ok (l : List Cert) (hl : l.length ≤ 1099511627776) : ACalls Tryz.prog 184 [.d (.sl 6 (certsD l))] [] (fun av L => av = .arr 0 ∧ L = [.row 40 6 (certsD l) false]) := by
  have hll := certsD_length l
  refine acalls_go ttOk zOk foOk Tryz.func184 rfl Tryz.ntmps184 rfl true rfl ?_
  conv => whnf
  intro b hb
  conv => whnf
  refine rdw ?_; repeat' ((with_reducible apply tw) <;> intro _)
  · rename_i h
    have : l = [] := by simpa [certsD] using hb h
    subst this
    exact ⟨rfl, rfl⟩
  · rename_i h
    refine ⟨by rw [hll]; show (0 + l.length) * 96 ≤ _; omega, ?_⟩
    conv => whnf
    exact ⟨rfl, rfl⟩
theorem own_row (c : Cert) (h : c.tiny) : ACalls Tryz.prog 128 [c.hav] [] (fun av L => av = .agg [.d (.int .i64 c.author), .d (.int .i64 c.round), .arr 0, .arr 1] ∧ L = [.row 3 1 (nums c.bats) false, .row 3 1 (nums c.pars) false]) := by
  refine acalls_go ttOk zOk foOk Tryz.func128 rfl Tryz.ntmps128 rfl true rfl ?_
  conv => whnf
  ((with_reducible refine draw_pl ttOk zOk foOk mixedOk pl128x1 ?_ ?_); (focus kernel_rfl); (conv => whnf))
  refine rdw ?_; repeat' ((with_reducible apply tw) <;> intro _)
  refine (clone_ok c.bats h.bats).mono ?_
  rintro _ _ ⟨rfl, rfl⟩
  conv => whnf
  refine rdw ?_; repeat' ((with_reducible apply tw) <;> intro _)
  refine (clone_ok c.pars h.pars).mono ?_
  rintro _ _ ⟨rfl, rfl⟩
  conv => whnf
  refine rdw ?_; repeat' ((with_reducible apply tw) <;> intro _)
  exact ⟨rfl, rfl⟩
theorem ownCert_row (c : Cert) (h : c.tiny) : ACalls Tryz.prog 168 [c.av] [] (fun av L => av = .agg [.d (.int .i64 c.author), .d (.int .i64 c.round), .arr 0, .arr 1, .d (.int .i64 c.digest), .arr 2] ∧ L = [.row 3 1 (nums c.bats) false, .row 3 1 (nums c.pars) false, .row 3 1 (nums c.sigs) false]) := by
  refine acalls_go ttOk zOk foOk Tryz.func168 rfl Tryz.ntmps168 rfl true rfl ?_
  conv => whnf
  ((with_reducible refine draw_pl ttOk zOk foOk mixedOk pl168x1 ?_ ?_); (focus kernel_rfl); (conv => whnf))
  refine rdw ?_; repeat' ((with_reducible apply tw) <;> intro _)
  refine (own_row c h).mono ?_
  rintro _ _ ⟨rfl, rfl⟩
  conv => whnf
  refine rdw ?_; repeat' ((with_reducible apply tw) <;> intro _)
  refine (clone_ok c.sigs h.sigs).mono ?_
  rintro _ _ ⟨rfl, rfl⟩
  conv => whnf
  refine rdw ?_; repeat' ((with_reducible apply tw) <;> intro _)
  exact ⟨rfl, rfl⟩
theorem own_ok (c : Cert) (h : c.tiny) : ACalls Tryz.prog 128 [c.hav] [] (fun av L => av = c.hav ∧ L = []) := by
  refine acalls_data (own_row c h) ?_
  rintro _ _ ⟨rfl, rfl⟩
  conv => whnf
  exact ⟨rfl, rfl⟩
theorem ownCert_ok (c : Cert) (h : c.tiny) : ACalls Tryz.prog 168 [c.av] [] (fun av L => av = c.av ∧ L = []) := by
  refine acalls_data (ownCert_row c h) ?_
  rintro _ _ ⟨rfl, rfl⟩
  conv => whnf
  exact ⟨rfl, rfl⟩
theorem getC_no {l : List Cert} {x : Int} (h : ∀ c ∈ l, c.digest ≠ x) : getC l x = none := by
  unfold getC
  rw [List.findIdx?_eq_none_iff]
  intro c hc
  simp [h c hc]
theorem getC_here {l : List Cert} {x : Int} {j : Nat} {c : Cert} (hc : l[j]? = some c) (hx : c.digest = x) (h : ∀ c ∈ l.take j, c.digest ≠ x) : getC l x = some j := by
  unfold getC
  rw [List.findIdx?_eq_some_iff_getElem]
  obtain ⟨hj, rfl⟩ := List.getElem?_eq_some_iff.1 hc
  refine ⟨hj, by simpa using hx, fun i hi => ?_⟩
  have := h l[i] (List.mem_take_iff_getElem.2 ⟨i, by omega, rfl⟩)
  simpa using this
theorem rFind_ok (d : Dag) (hd : few d.certs) (x : Int) : ACalls Tryz.prog 92 [d.av, .d (.int .i64 x)] [] (fun av L => av = .d (.int .i64 (getI d.certs x)) ∧ L = []) := by
  have hcl := certsD_length d.certs
  unfold few at hd
  refine acalls_go ttOk zOk foOk Tryz.func92 rfl Tryz.ntmps92 rfl false rfl ?_
  conv => whnf
  refine loop_go ttOk zOk foOk (σ := Nat) (fun j => ([(1, .d (.int .i64 x)), (2, .ptr 0 0), (5, .d (.int .i64 j))], [.cells d.cells])) (fun j => j ≤ d.certs.length ∧ ∀ c ∈ d.certs.take j, c.digest ≠ x) (fun j => d.certs.length - j) [1, 2, 5] ?_ ?_
  · conv => whnf
    exact ⟨0, rfl, rfl, Nat.zero_le _, by simp⟩
  · rintro j ⟨hj, hall⟩
    conv => whnf
    rw [hcl]
    refine rdz ?_; repeat' ((with_reducible apply tw) <;> intro _)
    · rename_i h
      refine Exists.elim (⟨_, List.getElem?_eq_getElem (by omega)⟩ : ∃ c, d.certs[j]? = some c) fun c hc => ?_
      refine ⟨by omega, c.cs, certsD_at hc, ?_⟩
      conv => whnf
      refine rdz ?_; repeat' ((with_reducible apply tw) <;> intro _)
      · rename_i h2
        rw [getI, getC_here hc h2 hall]
        exact ⟨rfl, rfl⟩
      · rename_i h2
        refine ⟨j + 1, rfl, rfl, ⟨by omega, fun y hy => ?_⟩, by omega⟩
        rw [List.take_add_one, hc] at hy
        rcases List.mem_append.1 hy with hy | hy
        · exact hall y hy
        · simp at hy; rw [hy]; exact h2
    · rename_i h
      rw [List.take_of_length_le (by omega)] at hall
      rw [getI, getC_no hall]
      exact ⟨rfl, rfl⟩
def lackB (d : Dag) (r x : Int) : Bool := match certOf d x with | some c => decide (c.round ≠ r - 1) | none => true
def lacksI (d : Dag) (c : Cert) : List Int := if c.round - 1 ≤ d.low then [] else c.pars.filter fun x => lackB d c.round x
theorem rLacks_ok (d : Dag) (hd : few d.certs) (c : Cert) (hc : c.pars.length ≤ 1099511627776) (hr : 1 ≤ c.round ∧ c.round ≤ 1099511627776) : ACalls Tryz.prog 108 [d.av, c.hav] [] (fun av L => av = .d (.sl 1 (nums (lacksI d c))) ∧ L = []) := by
  have hcl := certsD_length d.certs
  have hpl := nums_length c.pars
  refine acalls_go ttOk zOk foOk Tryz.func108 rfl Tryz.ntmps108 rfl false rfl ?_
  conv => whnf
  refine rdw ?_; repeat' ((with_reducible apply tw) <;> intro _)
  · rename_i h
    rw [lacksI, if_pos h]
    exact ⟨rfl, rfl⟩
  · rename_i h
    rw [lacksI, if_neg h]
    refine loop_go ttOk zOk foOk (σ := Nat) (fun j => ([(2, .ptr 0 0), (3, .ptr 1 0), (5, .arr 2), (6, .d (.int .i64 j))], [.cells d.cells, .cells c.hcells, .row 3 1 (nums ((c.pars.take j).filter fun x => lackB d c.round x)) false])) (fun j => j ≤ c.pars.length) (fun j => c.pars.length - j) [2, 3, 5, 6] ?_ ?_
    · conv => whnf
      exact ⟨0, rfl, rfl, Nat.zero_le _⟩
    · intro j hj
      conv => whnf
      rw [hpl]
      refine rdw ?_; repeat' ((with_reducible apply tw) <;> intro _)
      · rename_i hjl
        refine Exists.elim (⟨_, List.getElem?_eq_getElem (by omega)⟩ : ∃ x, c.pars[j]? = some x) fun x hx => ?_
        ((with_reducible refine draw_pl ttOk zOk foOk mixedOk pl108x7 ?_ ?_); (focus kernel_rfl); (conv => whnf))
        refine rdw ?_; repeat' ((with_reducible apply tw) <;> intro _)
        ((with_reducible apply rd_intro); (focus (intro K hK; (conv => whnf); exact ⟨by omega, [.int .i64 x], nums_at hx, hK⟩)); (conv => whnf))
        refine rdw ?_; repeat' ((with_reducible apply tw) <;> intro _)
        refine (rFind_ok d hd x).mono ?_
        rintro _ _ ⟨rfl, rfl⟩
        conv => whnf
        refine rdw ?_; repeat' ((with_reducible apply tw) <;> intro _)
        have hsn : ∀ b, lackB d c.round x = b → (c.pars.take (j + 1)).filter (fun x => lackB d c.round x) = (c.pars.take j).filter (fun x => lackB d c.round x) ++ (if b then [x] else []) := by
          intro b hb
          rw [List.take_add_one, hx]
          simp only [Option.toList_some, List.filter_append, List.filter_cons, hb]
          cases b <;> rfl
        have hfl : ((c.pars.take j).filter (fun x => lackB d c.round x)).length ≤ j := by
          have h1 := List.length_filter_le (fun x => lackB d c.round x) (c.pars.take j)
          rw [List.length_take] at h1
          omega
        have hfn := nums_length ((c.pars.take j).filter (fun x => lackB d c.round x))
        cases hg : getC d.certs x with
        | none =>
          rw [show getI d.certs x = -1 by rw [getI, hg]; rfl]
          have hlb : lackB d c.round x = true := by rw [lackB, certOf, hg]; rfl
          conv => whnf
          refine rdw ?_; repeat' ((with_reducible apply tw) <;> intro _)
          ((with_reducible refine draw_pl ttOk zOk foOk mixedOk pl108x8 ?_ ?_); (focus kernel_rfl); (conv => whnf))
          refine rdw ?_; repeat' ((with_reducible apply tw) <;> intro _)
          refine ⟨by omega, [.int .i64 x], nums_at hx, ?_⟩
          conv => whnf
          refine rdw ?_; repeat' ((with_reducible apply tw) <;> intro _)
          refine ⟨by simp [hfn]; omega, ?_⟩
          conv => whnf
          refine rdw ?_; repeat' ((with_reducible apply tw) <;> intro _)
          refine ⟨j + 1, rfl, ?_, by omega, by omega⟩
          rw [hsn _ hlb, ← nums_apps]
          rfl
        | some k =>
          obtain ⟨c', hc', hd'⟩ := getC_some hg
          rw [show getI d.certs x = (k : Int) by rw [getI, hg]; rfl]
          have hlb : lackB d c.round x = decide (c'.round ≠ c.round - 1) := by rw [lackB, certOf, hg, Option.bind_some, hc']
          have hkl := (List.getElem?_eq_some_iff.1 hc').1
          conv => whnf
          refine rdw ?_; repeat' ((with_reducible apply tw) <;> intro _)
          ((with_reducible refine draw_pl ttOk zOk foOk mixedOk pl108x8 ?_ ?_); (focus kernel_rfl); (conv => whnf))
          refine rdw ?_; repeat' ((with_reducible apply tw) <;> intro _)
          ((with_reducible apply rd_intro); (focus (intro K hK; (conv => whnf); exact ⟨by omega, c'.cs, certsD_at hc', hK⟩)); (conv => whnf))
          refine rdw ?_; repeat' ((with_reducible apply tw) <;> intro _)
          · rename_i h1
            rw [decide_eq_true (by omega)] at hlb
            refine ⟨by omega, [.int .i64 x], nums_at hx, ?_⟩
            conv => whnf
            refine rdw ?_; repeat' ((with_reducible apply tw) <;> intro _)
            refine ⟨by simp [hfn]; omega, ?_⟩
            conv => whnf
            refine rdw ?_; repeat' ((with_reducible apply tw) <;> intro _)
            refine ⟨j + 1, rfl, ?_, by omega, by omega⟩
            rw [hsn _ hlb, ← nums_apps]
            rfl
          · rename_i h1
            rw [decide_eq_false (by omega)] at hlb
            refine ⟨j + 1, rfl, ?_, by omega, by omega⟩
            rw [hsn _ hlb]; simp [Dag.cells, Cert.hcells]
      · rename_i hjl
        rw [List.take_of_length_le (by omega)]
        exact ⟨rfl, rfl⟩
end Go.Proofs.YtpgnaajkeeenbaaGreat
