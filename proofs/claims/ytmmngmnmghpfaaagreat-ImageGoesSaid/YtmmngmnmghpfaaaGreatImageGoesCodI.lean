/- ImageGoes: contracts. -/
import Derived.Test.YtmmngmnmghpfaaaGreatImageGoesCodH
import Derived.Lib.AppendZerosOnto
import Derived.Lib.Slices
import Derived.Lib.SliceRun
import Derived.Lib.Walk
set_option linter.unusedVariables false
set_option linter.unusedSimpArgs false
namespace Go.Proofs.YtmmngmnmghpfaaaGreat
open Go.Ab Go.RowKit Go.MapKept
attribute [local irreducible] ACalls AW ADraw Into fltB fnear
set_option maxRecDepth 100000
structure okHeld (h : HeldS) : Prop where
  dig : 1 ≤ h.dig ∧ h.dig ≤ 65536
  bat : okBatch h.bat
def digsH (l : List HeldS) : List Int := l.map (·.dig)
structure heldMay (l : List HeldS) : Prop where
  all : ∀ h ∈ l, okHeld h
  rise : risingI (digsH l)
theorem held_next {l : List HeldS} {k : Nat} {h : HeldS} (hh : l[k]? = some h) (ih : heldMay (l.take k)) (ho : okHeld h) (hr : k = 0 ∨ ∃ g, l[k - 1]? = some g ∧ g.dig < h.dig) : heldMay (l.take (k + 1)) := by
  have ht : l.take (k + 1) = l.take k ++ [h] := jtake_snoc hh
  rw [ht]
  refine ⟨fun x hx => ?_, ?_⟩
  · rcases List.mem_append.1 hx with hx | hx
    · exact ih.all x hx
    · simp at hx; subst hx; exact ho
  · unfold digsH
    rw [List.map_append]
    refine List.pairwise_append.2 ⟨ih.rise, by simp, fun a ha b hb => ?_⟩
    simp at hb
    subst hb
    rcases hr with rfl | ⟨g, hg, hgh⟩
    · simp at ha
    · obtain ⟨x, hx, rfl⟩ := List.mem_map.1 ha
      obtain ⟨i, hi, rfl⟩ := List.mem_iff_getElem.1 hx
      rw [List.length_take] at hi
      have hk : k ≤ l.length := by have := (List.getElem?_eq_some_iff.1 hh).1; omega
      rcases Nat.lt_or_ge i (k - 1) with h1 | h1
      · have := List.pairwise_iff_getElem.1 ih.rise i (k - 1) (by simp [digsH]; omega) (by simp [digsH]; omega) h1
        simp only [digsH, List.getElem_map, List.getElem_take] at this
        obtain ⟨h2, h3⟩ := List.getElem?_eq_some_iff.1 hg
        rw [h3] at this
        simp only [List.getElem_take]
        omega
      · have : i = k - 1 := by omega
        subst this
        obtain ⟨h2, h3⟩ := List.getElem?_eq_some_iff.1 hg
        simp only [List.getElem_take, h3]
        exact hgh
open Classical in
theorem rHeld_ok (l : List HeldS) (hl : few l) (hx : ∀ h ∈ l, few h.bat.txs) : ACalls Tryz.prog 23 [.d (.sl 4 (heldD l))] [] (fun av L => (∃ b, av = .d (.bool b) ∧ (b = true → heldMay l)) ∧ L = []) := by
  have hcl := heldD_len l
  unfold few at hl
  (refine acalls_go ttOk zOk foOk Tryz.func23 rfl Tryz.ntmps23 rfl false rfl ?_); (conv => whnf)
  refine loop_go ttOk zOk foOk (σ := Nat) (fun k => ([(0, .d (.sl 4 (heldD l))), (3, .d (.int .i64 k))], [])) (fun k => k ≤ l.length ∧ heldMay (l.take k)) (fun k => l.length - k) [0, 3] ?_ ?_
  · conv => whnf
    exact ⟨0, rfl, rfl, Nat.zero_le _, by simp, by simp [digsH, risingI]⟩
  · rintro k ⟨hk, hm⟩
    conv => whnf
    refine rdw ?_; repeat' ((with_reducible apply tw) <;> intro _)
    · rename_i k1
      replace k1 : (k : Int) < ((heldD l).length : Int) := k1
      obtain ⟨h, hh⟩ : ∃ h, l[k]? = some h := ⟨_, List.getElem?_eq_getElem (by omega)⟩
      have hf := hx h (List.mem_of_getElem? hh)
      have hb := rBatch_ok h.bat hf
      ((with_reducible refine draw_pl ttOk zOk foOk mixedOk pl23x4 ?_ ?_); (focus kernel_rfl); (conv => whnf))
      refine rdw ?_; repeat' ((with_reducible apply tw) <;> intro _)
      ((with_reducible apply rd_intro); (focus (intro K hK; (conv => whnf); exact ⟨by omega, _, heldD_at hh, hK⟩)); (conv => whnf))
      refine rdw ?_; repeat' ((with_reducible apply tw) <;> intro _)
      (refine (rDigest_ok h.dig).mono ?_; rintro _ _ ⟨rfl, rfl⟩; (conv => whnf))
      refine rdw ?_; repeat' ((with_reducible apply tw) <;> intro _)
      · exact ⟨⟨false, rfl, fun h => by cases h⟩, rfl⟩
      · rename_i e1
        ((with_reducible apply rd_intro); (focus (intro K hK; (conv => whnf); exact ⟨by omega, _, heldD_at hh, hK⟩)); (conv => whnf))
        refine rdw ?_; repeat' ((with_reducible apply tw) <;> intro _)
        refine hb.mono ?_
        rintro _ _ ⟨rfl, rfl⟩
        by_cases hbb : okBatch h.bat
        rotate_left
        · rw [decide_eq_false hbb]
          conv => whnf
          refine rdw ?_; repeat' ((with_reducible apply tw) <;> intro _)
          exact ⟨⟨false, rfl, fun h => by cases h⟩, rfl⟩
        rw [decide_eq_true hbb]
        conv => whnf
        refine rdw ?_; repeat' ((with_reducible apply tw) <;> intro _)
        · rename_i e2
          obtain ⟨g, hg⟩ : ∃ g, l[k - 1]? = some g := ⟨_, List.getElem?_eq_getElem (by omega)⟩
          ((with_reducible apply rd_intro); (focus (intro K hK; (conv => whnf); exact ix_map hg (by first | rfl | omega) hK)); (conv => whnf))
          refine rdw ?_; repeat' ((with_reducible apply tw) <;> intro _)
          ((with_reducible apply rd_intro); (focus (intro K hK; (conv => whnf); exact ix_map hh (by first | rfl | omega) hK)); (conv => whnf))
          refine rdw ?_; repeat' ((with_reducible apply tw) <;> intro _)
          · exact ⟨⟨false, rfl, fun h => by cases h⟩, rfl⟩
          · rename_i e3
            replace e3 : ¬ g.dig ≥ h.dig := e3
            exact ⟨k + 1, rfl, rfl, ⟨by omega, held_next hh hm ⟨of_decide_eq_true e1, hbb⟩ (.inr ⟨g, hg, by omega⟩)⟩, by omega⟩
        · rename_i e2
          exact ⟨k + 1, rfl, rfl, ⟨by omega, held_next hh hm ⟨of_decide_eq_true e1, hbb⟩ (.inl (by omega))⟩, by omega⟩
    · rename_i k1
      replace k1 : ¬ (k : Int) < ((heldD l).length : Int) := k1
      rw [List.take_of_length_le (by omega)] at hm
      exact ⟨⟨true, rfl, fun _ => hm⟩, rfl⟩
theorem rHeld22_ok (l : List HeldS) (hl : few l) (hx : ∀ h ∈ l, few h.bat.txs) : ACalls Tryz.prog 7 [.d (.sl 4 (heldD l))] [] (fun av L => (∃ b, av = .d (.bool b) ∧ (b = true → heldMay l)) ∧ L = []) := by
  (refine acalls_go ttOk zOk foOk Tryz.func7 rfl Tryz.ntmps7 rfl false rfl ?_); (conv => whnf)
  refine (rHeld_ok l hl hx).mono ?_
  rintro _ _ ⟨⟨b, rfl, hb⟩, rfl⟩
  conv => whnf
  exact ⟨⟨b, rfl, hb⟩, rfl⟩
open Classical in
theorem mayHeld_ok (l : List HeldS) (hl : few l) (hm : heldMay l) : ACalls Tryz.prog 59 [.d (.sl 4 (heldD l))] [] (fun av L => av = .d (.bool true) ∧ L = []) := by
  have hcl := heldD_len l
  unfold few at hl
  (refine acalls_go ttOk zOk foOk Tryz.func59 rfl Tryz.ntmps59 rfl false rfl ?_); (conv => whnf)
  refine loop_go ttOk zOk foOk (σ := Nat) (fun k => ([(0, .d (.sl 4 (heldD l))), (5, .d (.sl 4 (heldD l))), (6, .d (.int .i64 l.length)), (7, .d (.int .i64 k))], [])) (fun k => k ≤ l.length) (fun k => l.length - k) [0, 5, 6, 7] ?_ ?_
  · conv => whnf
    exact ⟨0, by rw [hcl]; rfl, rfl, Nat.zero_le _⟩
  · rintro k hk
    conv => whnf
    refine rdw ?_; repeat' ((with_reducible apply tw) <;> intro _)
    · rename_i k1
      replace k1 : (k : Int) < (l.length : Int) := k1
      obtain ⟨h, hh⟩ : ∃ h, l[k]? = some h := ⟨_, List.getElem?_eq_getElem (by omega)⟩
      have ho := hm.all h (List.mem_of_getElem? hh)
      have hb := batchMay_ok h.bat (by have := ho.bat.len; unfold few; omega)
      rw [decide_eq_true ho.bat] at hb
      have hd := digest_ok h.dig
      rw [decide_eq_true ho.dig] at hd
      refine ⟨by omega, _, heldD_at hh, ?_⟩
      conv => whnf
      ((with_reducible refine draw_pl ttOk zOk foOk mixedOk pl59x4 ?_ ?_); (focus kernel_rfl); (conv => whnf))
      refine rdw ?_; repeat' ((with_reducible apply tw) <;> intro _)
      (refine (hd).mono ?_; rintro _ _ ⟨rfl, rfl⟩; (conv => whnf))
      refine rdw ?_; repeat' ((with_reducible apply tw) <;> intro _)
      · rename_i e2
        obtain ⟨g, hg⟩ : ∃ g, l[k - 1]? = some g := ⟨_, List.getElem?_eq_getElem (by omega)⟩
        have hgh : g.dig < h.dig := by
          obtain ⟨i1, i2⟩ := List.getElem?_eq_some_iff.1 hg
          obtain ⟨j1, j2⟩ := List.getElem?_eq_some_iff.1 hh
          have := List.pairwise_iff_getElem.1 hm.rise (k - 1) k (by simp [digsH]; omega) (by simp [digsH]; omega) (by omega)
          simp only [digsH, List.getElem_map] at this
          rw [i2, j2] at this
          exact this
        ((with_reducible apply rd_intro); (focus (intro K hK; (conv => whnf); exact ix_map hg (by first | rfl | omega) hK)); (conv => whnf))
        refine rdw ?_; repeat' ((with_reducible apply tw) <;> intro _)
        · rename_i e3
          replace e3 : g.dig ≥ h.dig := e3
          exact absurd e3 (by omega)
        · refine hb.mono ?_
          rintro _ _ ⟨rfl, rfl⟩
          conv => whnf
          refine rdw ?_; repeat' ((with_reducible apply tw) <;> intro _)
          exact ⟨k + 1, rfl, rfl, by omega, by omega⟩
      · refine hb.mono ?_
        rintro _ _ ⟨rfl, rfl⟩
        conv => whnf
        refine rdw ?_; repeat' ((with_reducible apply tw) <;> intro _)
        exact ⟨k + 1, rfl, rfl, by omega, by omega⟩
    · exact ⟨rfl, rfl⟩
theorem heldW_ok (l : List HeldS) (hl : l.length ≤ 3000000000000) (hx : ∀ h ∈ l, few h.bat.txs ∧ ∀ t ∈ h.bat.txs, t.ok) : ACalls Tryz.prog 6 [.d (.sl 4 (heldD l))] [] (fun av L => (∃ n : Int, av = .d (.int .i64 n)) ∧ L = []) := by
  have hcl := heldD_len l
  (refine acalls_go ttOk zOk foOk Tryz.func6 rfl Tryz.ntmps6 rfl false rfl ?_); (conv => whnf)
  refine loop_go2 ttOk zOk foOk (σ := Int) (ρ := Nat) (fun w j => ([(0, .d (.sl 4 (heldD l))), (3, .d (.int .i64 w)), (4, .d (.int .i64 j))], [])) (fun w j => j ≤ l.length ∧ 0 ≤ w ∧ w ≤ 1000000000000000) (fun _ j => l.length - j) [0, 3, 4] ?_ ?_
  · conv => whnf
    exact ⟨l.length, 0, by rw [hcl]; rfl, rfl, by omega, by omega, by omega⟩
  · rintro w j ⟨hj, hw0, hw1⟩
    conv => whnf
    rw [hcl]
    refine rdw ?_; repeat' ((with_reducible apply tw) <;> intro _)
    · rename_i k1 k2
      obtain ⟨h, hh⟩ : ∃ h, l[j]? = some h := ⟨_, List.getElem?_eq_getElem (by omega)⟩
      obtain ⟨f1, f2⟩ := hx h (List.mem_of_getElem? hh)
      refine ⟨by omega, _, heldD_at hh, ?_⟩
      conv => whnf
      refine (txW_full h.bat.txs f1 f2).mono ?_
      rintro _ _ ⟨⟨n, rfl, hn1, hn2⟩, rfl⟩
      conv => whnf
      replace k2 : w < 1048576 := k2
      refine rdw ?_; repeat' ((with_reducible apply tw) <;> intro _)
      exact ⟨_, j + 1, rfl, rfl, ⟨by omega, by omega, by omega⟩, by omega⟩
    · exact ⟨⟨_, rfl⟩, rfl⟩
    · exact ⟨⟨_, rfl⟩, rfl⟩
theorem cloneP_row (l : List PairS) (hl : l.length ≤ 1000000) : ACalls Tryz.prog 108 [.d (.sl 2 (pairsD l))] [] (fun av L => av = .arr 0 ∧ L = [rowP l]) := by
  have hll := pairsD_length l
  (refine acalls_go ttOk zOk foOk Tryz.func108 rfl Tryz.ntmps108 rfl true rfl ?_); (conv => whnf)
  intro b hb
  conv => whnf
  refine sp_any (fun h => ?_) (fun h => ?_)
  · conv => whnf
    have : l = [] := by simpa [pairsD] using hb h
    subst this
    exact ⟨rfl, rfl⟩
  · conv => whnf
    refine ⟨by rw [hll]; show (0 + _) * 32 ≤ _; omega, ?_⟩
    conv => whnf
    exact ⟨rfl, rfl⟩
theorem cloneA_row (l : List AccS) (hl : l.length ≤ 1000000) : ACalls Tryz.prog 109 [.d (.sl 2 (accsD l))] [] (fun av L => av = .arr 0 ∧ L = [rowA l]) := by
  have hll := accsD_length l
  (refine acalls_go ttOk zOk foOk Tryz.func109 rfl Tryz.ntmps109 rfl true rfl ?_); (conv => whnf)
  intro b hb
  conv => whnf
  refine sp_any (fun h => ?_) (fun h => ?_)
  · conv => whnf
    have : l = [] := by simpa [accsD] using hb h
    subst this
    exact ⟨rfl, rfl⟩
  · conv => whnf
    refine ⟨by rw [hll]; show (0 + _) * 16 ≤ _; omega, ?_⟩
    conv => whnf
    exact ⟨rfl, rfl⟩
theorem tabOwn_row (t : Tab) (hp : t.prs.length ≤ 1000000) (ha : t.accs.length ≤ 1000000) : ACalls Tryz.prog 84 [tabAV t.prs t.accs] [] (fun av L => av = .agg [.arr 0, .arr 1] ∧ L = [rowP t.prs, rowA t.accs]) := by
  have h1 := cloneP_row t.prs hp
  have h2 := cloneA_row t.accs ha
  (refine acalls_go ttOk zOk foOk Tryz.func84 rfl Tryz.ntmps84 rfl true rfl ?_); (conv => whnf)
  ((with_reducible refine draw_pl ttOk zOk foOk mixedOk pl84x1 ?_ ?_); (focus kernel_rfl); (conv => whnf))
  refine rdw ?_; repeat' ((with_reducible apply tw) <;> intro _)
  (refine (h1).mono ?_; rintro _ _ ⟨rfl, rfl⟩; (conv => whnf))
  refine rdw ?_; repeat' ((with_reducible apply tw) <;> intro _)
  (refine (h2).mono ?_; rintro _ _ ⟨rfl, rfl⟩; (conv => whnf))
  refine rdw ?_; repeat' ((with_reducible apply tw) <;> intro _)
  exact ⟨rfl, rfl⟩
structure Ex where
  tab : Tab
  seen : List Int
  count : Int
def Ex.cs (e : Ex) : List AV := execCs e.tab.prs e.tab.accs e.seen e.count
def Ex.av (e : Ex) : AV := .agg e.cs
theorem exOwn_row (e : Ex) (hp : e.tab.prs.length ≤ 1000000) (ha : e.tab.accs.length ≤ 1000000) (hs : e.seen.length ≤ 1000000) : ACalls Tryz.prog 58 [e.av] [] (fun av L => av = .agg [.arr 0, .arr 1, .arr 2, .d (.int .i64 e.count)] ∧ L = [rowP e.tab.prs, rowA e.tab.accs, .row 3 1 (nums e.seen) false]) := by
  have h1 := tabOwn_row e.tab hp ha
  have h2 := clone_ok e.seen (by omega)
  (refine acalls_go ttOk zOk foOk Tryz.func58 rfl Tryz.ntmps58 rfl true rfl ?_); (conv => whnf)
  ((with_reducible refine draw_pl ttOk zOk foOk mixedOk pl58x1 ?_ ?_); (focus kernel_rfl); (conv => whnf))
  refine rdw ?_; repeat' ((with_reducible apply tw) <;> intro _)
  (refine (h1).mono ?_; rintro _ _ ⟨rfl, rfl⟩; (conv => whnf))
  refine rdw ?_; repeat' ((with_reducible apply tw) <;> intro _)
  (refine (h2).mono ?_; rintro _ _ ⟨rfl, rfl⟩; (conv => whnf))
  refine rdw ?_; repeat' ((with_reducible apply tw) <;> intro _)
  exact ⟨rfl, rfl⟩
theorem exOwn_ok (e : Ex) (hp : e.tab.prs.length ≤ 1000000) (ha : e.tab.accs.length ≤ 1000000) (hs : e.seen.length ≤ 1000000) : ACalls Tryz.prog 58 [e.av] [] (fun av L => av = e.av ∧ L = []) :=
  acalls_data (exOwn_row e hp ha hs) (by
    rintro _ _ ⟨rfl, rfl⟩
    conv => whnf
    exact ⟨rfl, rfl⟩)
def heldAt (l : List HeldS) (d : Int) : Option Bat := (l.find? fun h => decide (h.dig = d)).map (·.bat)
noncomputable def exR (l : List HeldS) : List Int → Tab → Tab × Nat
  | [], t => (t, 0)
  | d :: r, t => match heldAt l d with
    | none => (t, 0)
    | some b => ((exR l r (t.acts b.txs)).1, (exR l r (t.acts b.txs)).2 + 1)
noncomputable def Ex.run (e : Ex) (l : List HeldS) : Ex := ⟨(exR l (e.seen.drop e.count.toNat) e.tab).1, e.seen, e.count + (exR l (e.seen.drop e.count.toNat) e.tab).2⟩
theorem held_fnd {l : List HeldS} (hs : l.Pairwise fun x y => x.dig < y.dig) (d : Int) : (fndB (fun h : HeldS => decide (h.dig < d)) (fun h => decide (h.dig = d)) l = true → ∃ h, l[posB (fun h : HeldS => decide (h.dig < d)) l]? = some h ∧ heldAt l d = some h.bat) ∧
    (fndB (fun h : HeldS => decide (h.dig < d)) (fun h => decide (h.dig = d)) l = false → heldAt l d = none) := by
  have hm := Held_mono hs d
  constructor
  · intro h
    obtain ⟨x, hx, he⟩ := fnd_some h
    refine ⟨x, hx, ?_⟩
    have he := of_decide_eq_true he
    unfold heldAt
    cases hf : l.find? fun h => decide (h.dig = d) with
    | none =>
      rw [List.find?_eq_none] at hf
      exact absurd (by simpa using he) (by simpa using hf x (List.mem_of_getElem? hx))
    | some y =>
      have hy : decide (y.dig = d) = true := by simpa using List.find?_some hf
      have hy := of_decide_eq_true hy
      have hmem := List.mem_of_find?_eq_some hf
      obtain ⟨i, hi, rfl⟩ := List.mem_iff_getElem.1 hmem
      obtain ⟨j, rfl⟩ := List.getElem?_eq_some_iff.1 hx
      have : i = posB (fun h : HeldS => decide (h.dig < d)) l := by
        rcases Nat.lt_trichotomy i (posB (fun h : HeldS => decide (h.dig < d)) l) with h1 | h1 | h1
        · have := List.pairwise_iff_getElem.1 hs i _ hi j h1; omega
        · exact h1
        · have := List.pairwise_iff_getElem.1 hs _ i j hi h1; omega
      subst this
      rfl
  · intro h
    unfold heldAt
    rw [Option.map_eq_none_iff, List.find?_eq_none]
    intro x hx
    obtain ⟨i, hi, rfl⟩ := List.mem_iff_getElem.1 hx
    simp only [decide_eq_true_eq]
    intro he
    have hp := posB_iff hm (List.getElem?_eq_getElem hi)
    have hn : ¬ i < posB (fun h : HeldS => decide (h.dig < d)) l := fun h1 => by have := of_decide_eq_true (hp.2 h1); omega
    have hle : posB (fun h : HeldS => decide (h.dig < d)) l < l.length := by omega
    obtain ⟨h1, h2⟩ := at_pos hm h (List.getElem?_eq_getElem hle)
    have h1 := of_decide_eq_false h1
    have h2 := of_decide_eq_false h2
    rcases Nat.lt_or_ge (posB (fun h : HeldS => decide (h.dig < d)) l) i with h3 | h3
    · have := List.pairwise_iff_getElem.1 hs _ i hle hi h3; omega
    · have e : i = posB (fun h : HeldS => decide (h.dig < d)) l := by omega
      subst e
      exact h2 he
def runCs (o : Bool) (t : Tab) (seen : List Int) (c : Nat) : List AB := match o with
  | false => [.cells [.d (.sl 2 (pairsD t.prs)), .d (.sl 2 (accsD t.accs)), .d (.sl 1 (nums seen)), .d (.int .i64 c)], .cells [.d .nils, .d .nils, .d .nils, .d (.int .i64 0)]]
  | true => [.cells [.arr 2, .arr 3, .d (.sl 1 (nums seen)), .d (.int .i64 c)], .cells [.d .nils, .d .nils, .d .nils, .d (.int .i64 0)], rowP t.prs, rowA t.accs]
def runSt (seen : List Int) (l : List HeldS) (q : (Bool × Tab) × Nat × Nat) : AF × List AB := ([(1, .d (.sl 4 (heldD l))), (2, .ptr 0 0), (4, .ptr 1 0), (6, .d (.int .i64 q.2.2))], runCs q.1.1 q.1.2 seen q.2.1)
def runInv (e : Ex) (l : List HeldS) (k : Nat) (q : (Bool × Tab) × Nat × Nat) : Prop :=
  q.1.2.fine ∧ q.2.1 ≤ e.seen.length ∧ e.count.toNat ≤ q.2.1 ∧ q.2.2 ≤ q.2.1 ∧ (q.1.1 = false → q.2.1 = e.seen.length) ∧ (k = 0 ∨ k = 1) ∧
    (exR l (e.seen.drop e.count.toNat) e.tab).1 = (exR l (e.seen.drop q.2.1) q.1.2).1 ∧ (exR l (e.seen.drop e.count.toNat) e.tab).2 + e.count.toNat = (exR l (e.seen.drop q.2.1) q.1.2).2 + q.2.1 ∧
    (k = 0 → exR l (e.seen.drop q.2.1) q.1.2 = (q.1.2, 0))
def runMu (e : Ex) (k : Nat) (q : (Bool × Tab) × Nat × Nat) : Nat := match k with
  | 0 => 0
  | _ => (e.seen.length - q.2.1) * 2 + 1
def runPost (e : Ex) (l : List HeldS) (av : AV) (L : List AB) : Prop := ∃ (t : Tab) (c n : Nat), e.run l = ⟨t, e.seen, c⟩ ∧
  ((av = .tup [.agg [.d (.sl 2 (pairsD t.prs)), .d (.sl 2 (accsD t.accs)), .d (.sl 1 (nums e.seen)), .d (.int .i64 c)], .d (.int .i64 n)] ∧ L = []) ∨ (av = .tup [.agg [.arr 0, .arr 1, .d (.sl 1 (nums e.seen)), .d (.int .i64 c)], .d (.int .i64 n)] ∧ L = [rowP t.prs, rowA t.accs]))
theorem run_raw (e : Ex) (hf : e.tab.fine) (hs : e.seen.length ≤ 1000000) (hc : 0 ≤ e.count ∧ e.count ≤ e.seen.length) (l : List HeldS) (hl : few l) (hm : heldMay l) : ACalls Tryz.prog 60 [e.av, .d (.sl 4 (heldD l))] [] (runPost e l) := by
  have h1 := tabOwn_row e.tab (by have := hf.pl; omega) (by have := hf.al; omega)
  have hnl := nums_length e.seen
  obtain ⟨c0, hc0⟩ : ∃ c0 : Nat, e.count = c0 := ⟨e.count.toNat, by omega⟩
  (refine acalls_go ttOk zOk foOk Tryz.func60 rfl Tryz.ntmps60 rfl true rfl ?_); (conv => whnf)
  refine scope_go ttOk zOk foOk (σ := (Bool × Tab) × Nat × Nat) (runSt e.seen l) (runInv e l) (runMu e) ?_ ?_
  · rintro k rest hk ⟨⟨o, t⟩, c, n⟩ ⟨hft, hcl, hcc, hn, hoo, hkk, hr1, hr2, hr3⟩
    change t.fine at hft
    change c ≤ e.seen.length at hcl
    change e.count.toNat ≤ c at hcc
    change n ≤ c at hn
    change o = false → c = e.seen.length at hoo
    change (exR l (e.seen.drop e.count.toNat) e.tab).1 = (exR l (e.seen.drop c) t).1 at hr1
    change (exR l (e.seen.drop e.count.toNat) e.tab).2 + e.count.toNat = (exR l (e.seen.drop c) t).2 + c at hr2
    change k = 0 → exR l (e.seen.drop c) t = (t, 0) at hr3
    have hfin : exR l (e.seen.drop c) t = (t, 0) → e.run l = ⟨t, e.seen, c⟩ := fun h => by
      rw [h] at hr1 hr2
      simp only at hr1 hr2
      unfold Ex.run
      rw [hr1]
      congr 1
      omega
    have hend : k = 1 → c = e.seen.length → exR l (e.seen.drop c) t = (t, 0) := fun _ h => by rw [List.drop_of_length_le (by omega)]; rfl
    rcases hkk with rfl | rfl
    · have e' := Option.some.inj (show some _ = some rest from hk)
      subst e'
      clear hk
      replace hr3 := hr3 rfl
      cases o
      · conv => whnf
        exact ⟨t, c, n, hfin hr3, .inl ⟨rfl, rfl⟩⟩
      · conv => whnf
        exact ⟨t, c, n, hfin hr3, .inr ⟨rfl, rfl⟩⟩
    · have e' := Option.some.inj (show some _ = some rest from hk)
      subst e'
      clear hk
      replace hend := hend rfl
      cases o
      · have hoo' := hoo
        replace hoo := hoo rfl
        conv => whnf
        refine rdw ?_; repeat' ((with_reducible apply tw) <;> intro _)
        · refine into_of [1, 2, 4, 6] ?_
          conv => whnf
          exact ⟨((false, t), c, n), rfl, rfl, ⟨hft, hcl, hcc, hn, hoo', .inl rfl, hr1, hr2, fun _ => hend hoo⟩, by show 0 < (e.seen.length - c) * 2 + 1; omega⟩
        · rename_i hx
          exact absurd (by show (c : Int) = _; rw [hnl, hoo]) hx
      · conv => whnf
        refine rdw ?_; repeat' ((with_reducible apply tw) <;> intro _)
        · rename_i hx
          replace hx : (c : Int) = ((nums e.seen).length : Int) := hx
          refine into_of [1, 2, 4, 6] ?_
          conv => whnf
          exact ⟨((true, t), c, n), rfl, rfl, ⟨hft, hcl, hcc, hn, (fun h => by cases h), .inl rfl, hr1, hr2, fun _ => hend (by omega)⟩, by show 0 < (e.seen.length - c) * 2 + 1; omega⟩
        · rename_i hx
          replace hx : ¬ (c : Int) = ((nums e.seen).length : Int) := hx
          obtain ⟨d, hd⟩ : ∃ d, e.seen[c]? = some d := ⟨_, List.getElem?_eq_getElem (by omega)⟩
          have hdrop : e.seen.drop c = d :: e.seen.drop (c + 1) := by
            obtain ⟨i1, rfl⟩ := List.getElem?_eq_some_iff.1 hd
            exact List.drop_eq_getElem_cons i1
          obtain ⟨hy, hno⟩ := held_fnd (List.pairwise_map.1 hm.rise) d
          refine ⟨by omega, _, (by rw [Int.toNat_natCast]; exact nums_at hd), ?_⟩
          conv => whnf
          (refine (at_ok l hl d (List.pairwise_map.1 hm.rise)).mono ?_; rintro _ _ ⟨rfl, rfl⟩; (conv => whnf))
          refine rdw ?_; repeat' ((with_reducible apply tw) <;> intro _)
          · rename_i hfd
            obtain ⟨h, hh, hat⟩ := hy hfd
            have hbt := (hm.all h (List.mem_of_getElem? hh)).bat.len
            refine ⟨by omega, _, (by rw [Int.toNat_natCast]; exact heldD_at hh), ?_⟩
            conv => whnf
            have hex : exR l (e.seen.drop c) t = ((exR l (e.seen.drop (c + 1)) (t.acts h.bat.txs)).1, (exR l (e.seen.drop (c + 1)) (t.acts h.bat.txs)).2 + 1) := by
              rw [hdrop]
              conv => lhs; unfold exR
              rw [hat]
            rw [hex] at hr1 hr2
            simp only at hr1 hr2
            refine (all_ok t hft h.bat (by omega) (.sl 1 (nums e.seen)) c).mono ?_
            rintro _ _ ⟨⟨r, rfl⟩, mp, ma, rfl⟩
            have hinv : runInv e l 1 ((true, t.acts h.bat.txs), c + 1, n + 1) := ⟨hft.acts _, by show c + 1 ≤ _; omega, by show _ ≤ c + 1; omega, by show n + 1 ≤ c + 1; omega, (fun h => by cases h), .inr rfl, hr1, by show (exR l (e.seen.drop e.count.toNat) e.tab).2 + e.count.toNat = (exR l (e.seen.drop (c + 1)) (t.acts h.bat.txs)).2 + (c + 1); omega, (fun h => by cases h)⟩
            have hmu : runMu e 1 ((true, t.acts h.bat.txs), c + 1, n + 1) < runMu e 1 ((true, t), c, n) := by
              show (e.seen.length - (c + 1)) * 2 + 1 < (e.seen.length - c) * 2 + 1
              omega
            cases mp <;> cases ma
            all_goals
              conv => whnf
              refine rdw ?_; repeat' ((with_reducible apply tw) <;> intro _)
              try (intro z hz; replace hz : z = IntKind.i64.wrap ((c : Int) + 1) := hz; rw [wrapI (by omega)] at hz; subst hz; conv => whnf)
              try (intro z hz; replace hz : z = IntKind.i64.wrap ((n : Int) + 1) := hz; rw [wrapI (by omega)] at hz; subst hz; conv => whnf)
              refine into_of [1, 2, 4, 6] ?_
              conv => whnf
              exact ⟨((true, t.acts h.bat.txs), c + 1, n + 1), rfl, rfl, hinv, hmu⟩
          · rename_i hfd
            have hat := hno hfd
            have hex : exR l (e.seen.drop c) t = (t, 0) := by
              rw [hdrop]
              conv => lhs; unfold exR
              rw [hat]
            refine AW_go ttOk zOk foOk ?_
            conv => whnf
            refine rdw ?_; repeat' ((with_reducible apply tw) <;> intro _)
            exact ⟨t, c, n, hfin hex, .inr ⟨rfl, rfl⟩⟩
  · intro pass
    conv => whnf
    refine rdw ?_; repeat' ((with_reducible apply tw) <;> intro _)
    · rename_i hx
      (refine (h1).mono ?_; rintro _ _ ⟨rfl, rfl⟩; (conv => whnf))
      refine rdw ?_; repeat' ((with_reducible apply tw) <;> intro _)
      refine aw_at (σ := (Bool × Tab) × Nat × Nat) (runSt e.seen l) (fun q => runInv e l 1 q) [1, 2, 4, 6] ?_ ?_
      · conv => whnf
        rw [hc0]
        exact ⟨((true, e.tab), c0, 0), rfl, rfl, hf, by show c0 ≤ _; omega, by show _ ≤ c0; omega, Nat.zero_le _, (fun h => by cases h), .inr rfl, by rw [show e.count.toNat = c0 by omega], by rw [show e.count.toNat = c0 by omega], (fun h => by cases h)⟩
      · intro q hq
        exact pass 1 _ rfl q hq
    · rename_i hx
      replace hx : ¬ e.count < ((nums e.seen).length : Int) := hx
      refine aw_at (σ := (Bool × Tab) × Nat × Nat) (runSt e.seen l) (fun q => runInv e l 1 q) [1, 2, 4, 6] ?_ ?_
      · conv => whnf
        rw [hc0]
        exact ⟨((false, e.tab), c0, 0), rfl, rfl, hf, by show c0 ≤ _; omega, by show _ ≤ c0; omega, Nat.zero_le _, fun _ => by show c0 = _; omega, .inr rfl, by rw [show e.count.toNat = c0 by omega], by rw [show e.count.toNat = c0 by omega], (fun h => by cases h)⟩
      · intro q hq
        exact pass 1 _ rfl q hq
end Go.Proofs.YtmmngmnmghpfaaaGreat
namespace Go.Proofs.YtmmngmnmghpfaaaGreat
open Go Go.Ab Go.RowKit Go.Lib Go.Proofs
set_option maxRecDepth 100000
theorem infoI : (Tryz.prog.info? 3).map (fun i => (i.zero, i.size, i.bytes)) = some (some (.int .i64 0), 1, 8) := by kernel_rfl
set_option maxHeartbeats 4000000 in
theorem grow_w (n : Nat) (w : World) (hn : 0 < n) (hbig : n ≤ 1000000000) :
    Calls Tryz.prog 107 #[.slice none 0 0, .int .i64 n] w fun e w' => e = .returned (.slice (some ⟨w.heap.size, 0, none⟩) 0 (grownCap w n 0 3)) ∧
      w' = w.drew.alloc (.cells (#[] ++ Builtin.zeroCells (Value.int .i64 0).cells n ++ Builtin.zeroCells (Value.int .i64 0).cells (grownCap w n 0 3 - n)) 3) := by
  have mixed := mixedOk
  have t0 := Tryz.underlying0; have a0 := Tryz.isAgg0; have z0 := Tryz.sizeOf0; have v0 := Tryz.zeroValue0
  have t3 := Tryz.underlying3; have a3 := Tryz.isAgg3; have z3 := Tryz.sizeOf3; have v3 := Tryz.zeroValue3
  have t4 := Tryz.underlying4; have a4 := Tryz.isAgg4; have z4 := Tryz.sizeOf4; have v4 := Tryz.zeroValue4
  have t22 := Tryz.underlying33; have a22 := Tryz.isAgg33; have z22 := Tryz.sizeOf33; have v22 := Tryz.zeroValue33
  have u0 := run_underlying t0; have u3 := run_underlying t3; have u4 := run_underlying t4; have u22 := run_underlying t22
  have h1 : ¬ ((n : Int) < 0) := by omega
  have h2 : IntKind.i64.wrap (0 - 0) = 0 := by decide
  have h3 : IntKind.i64.wrap ((n : Int) - 0) = (n : Int) := by rw [IntKind.wrap_i64]; omega
  have h4 : (n : Int) > 0 := by omega
  have hold : (Builtin.firstCells 1 0 (.slice none 0 0)).run Tryz.prog w.drew = .ok #[] w.drew := run_firstCells_none w.drew 1 0 0 0
  obtain ⟨i0, hi, hz0, hz1, hz2⟩ := info_parts infoI
  have hrz : ∀ ty, (Builtin.append_ #[33, 3] ty #[.slice none 0 0, .int .i64 (n : Int)]).run Tryz.prog w =
      .ok (.slice (some ⟨w.heap.size, 0, none⟩) n (grownCap w n 0 3)) (w.drew.alloc (.cells (#[] ++ Builtin.zeroCells (Value.int .i64 0).cells n ++ Builtin.zeroCells (Value.int .i64 0).cells (grownCap w n 0 3 - n)) 3)) := fun ty => by
    have h := Lib.run_append_grow_zeros w 33 3 ty 3 i0 (.int .i64 0) .i64 .i64 t22 t3 hi hz0 none 0 0 [] (by rw [hz1]; exact hold) n hn (by rw [hz1]; decide) (by omega) (by omega) (by rw [hz2]; omega)
      (by rw [hz2]; exact growslice_fits (by omega) (by omega))
    rw [Nat.zero_add] at h
    exact h
  have hGn : n ≤ grownCap w n 0 3 := grownCap_ge w _ _ _
  obtain ⟨G, hG⟩ : ∃ G, G = grownCap w n 0 3 := ⟨_, rfl⟩
  rw [← hG] at hrz hGn ⊢
  have hG63 : G ≤ 9223372036854775807 := by
    have := grownCap_le_maxLen w n 0 3 (by unfold maxLen; omega)
    rw [← hG] at this
    unfold maxLen at this
    omega
  clear hold hG
  go_enter Tryz.func107, Tryz.ntmps107
  go_wp2_with (at_builtin; refine Lib.wpList_append_run _ rfl _ _ _ _ rfl _ _ rfl rfl _ _ (hrz _) ?_)
  go_ret
  exact ⟨rfl, rfl⟩
theorem grow0_w (w : World) : Calls Tryz.prog 107 #[.slice none 0 0, .int .i64 0] w fun e w' => e = .returned (.slice none 0 0) ∧ w' = w := by
  go_enter Tryz.func107, Tryz.ntmps107
  go_wp2
  go_ret
  exact ⟨rfl, rfl⟩
theorem grow_ok (n : Nat) (hn : n ≤ 1000000000) : ACalls Tryz.prog 107 [.d .nils, .d (.int .i64 n)] [] (fun av L => av = .arr 0 ∧ L = [.row 3 1 [] false]) := by
  intro c vs hc hL0 hs hv
  simp only [VRt, VR, VD] at hv
  obtain ⟨u0, r0, hvs, rfl, u1, r1, rfl, rfl, rfl⟩ := hv
  have hvs' : vs = #[.slice none 0 0, .int .i64 n] := by rw [← Array.toArray_toList (xs := vs), hvs]
  rw [hvs']
  rcases Nat.eq_zero_or_pos n with rfl | hpos
  · refine (grow0_w c.w0).mono ?_
    rintro e w' ⟨rfl, rfl⟩
    obtain ⟨hs3, hle3⟩ := hs.nilRow hc 3 1 false (by exact ⟨by decide, rfl⟩)
    refine ⟨_, .arr 0, _, _, rfl, ⟨rfl, rfl⟩, hs3, ?_⟩
    simp only [VR]
    refine ⟨_, rfl, ?_⟩
    simp [arRel, Eupd]
  · refine (grow_w n c.w0 hpos hn).mono ?_
    rintro e w' ⟨rfl, rfl⟩
    have hsz : ∀ k, (Builtin.zeroCells (Value.int .i64 0).cells k).size = k := fun k => by
      have := congrArg List.length (zeroCells_flat (Value.int .i64 0).cells k)
      rw [Array.length_toList, List.length_flatten] at this
      simp [Value.cells] at this
      exact this
    have hge : n ≤ grownCap c.w0 n 0 3 := grownCap_ge _ _ _ _
    have hle := grownCap_le_maxLen c.w0 n 0 3 (by unfold maxLen; omega)
    obtain ⟨hs3, hle3⟩ := hs.newRow hc ((Keeps.drew c.w0).trans (Keeps.alloc c.w0.drew (.cells (#[] ++ Builtin.zeroCells (Value.int .i64 0).cells n ++ Builtin.zeroCells (Value.int .i64 0).cells (grownCap c.w0 n 0 3 - n)) 3))) (e := 3) (n := 1) (cap := grownCap c.w0 n 0 3) (xs := []) false (by exact ⟨by decide, rfl⟩) (by simp) (heap_alloc_new c.w0.drew _) (by rw [Array.size_append, Array.size_append, hsz, hsz]; simp; omega) (Nat.zero_le _) hle (by simp [VDs, Cs])
    refine ⟨_, .arr 0, _, _, rfl, ⟨rfl, rfl⟩, hs3, ?_⟩
    simp only [VR]
    refine ⟨_, rfl, ?_⟩
    simp only [arRel, Eupd]
    exact ⟨_, _, rfl, heap_alloc_new c.w0.drew _, by rw [Array.size_append, Array.size_append, hsz, hsz]; simp; omega⟩
end Go.Proofs.YtmmngmnmghpfaaaGreat
namespace Go.Proofs.YtmmngmnmghpfaaaGreat
open Go.Ab Go.RowKit Go.MapKept
attribute [local irreducible] ACalls AW ADraw Into fltB fnear
set_option maxRecDepth 100000
def cN (a b : List Int) : Nat → Int
  | 0 => 0
  | 1 => a.length
  | _ => (a.length : Int) + b.length
def cL (a b : List Int) : Nat → List Int
  | 0 => []
  | 1 => a
  | _ => a ++ b
theorem concat_ok (a b : List Int) (ha : a.length ≤ 1000000) (hb : b.length ≤ 1000000) : ACalls Tryz.prog 83 [.d (.sl 1 [[.sl 1 (nums a)], [.sl 1 (nums b)]])] [] (fun av L => av = .arr 0 ∧ L = [.row 3 1 (nums (a ++ b)) false]) := by
  have hal := nums_length a
  have hbl := nums_length b
  refine acalls_cut ttOk zOk foOk 3 Tryz.func83 rfl Tryz.ntmps83 rfl true rfl ?_
  conv => whnf
  refine loop_go ttOk zOk foOk (σ := Nat) (fun k => ([(0, .d (.sl 1 [[.sl 1 (nums a)], [.sl 1 (nums b)]])), (3, .d (.int .i64 (cN a b k))), (9, .d (.sl 1 [[.sl 1 (nums a)], [.sl 1 (nums b)]])), (10, .d (.int .i64 2)), (11, .d (.int .i64 k))], [])) (fun k => k ≤ 2) (fun k => 2 - k) [0, 3, 9, 10, 11] ?_ ?_
  · conv => whnf
    exact ⟨0, rfl, rfl, by decide⟩
  · intro k hk
    obtain rfl | rfl | rfl : k = 0 ∨ k = 1 ∨ k = 2 := by omega
    · conv => whnf
      refine ⟨by decide, _, rfl, ?_⟩
      conv => whnf
      intro z hz
      replace hz : z = IntKind.i64.wrap (0 + ((nums a).length : Int)) := hz
      rw [wrapI (by omega)] at hz
      have hz2 : z = a.length := by omega
      subst hz2
      conv => whnf
      refine rdz ?_; repeat' ((with_reducible apply tw) <;> intro _)
      exact ⟨1, rfl, rfl, by decide, by decide⟩
    · conv => whnf
      refine ⟨by decide, _, rfl, ?_⟩
      conv => whnf
      intro z hz
      replace hz : z = IntKind.i64.wrap ((a.length : Int) + ((nums b).length : Int)) := hz
      rw [wrapI (by omega)] at hz
      have hz2 : z = (a.length : Int) + b.length := by omega
      subst hz2
      conv => whnf
      refine rdz ?_; repeat' ((with_reducible apply tw) <;> intro _)
      exact ⟨2, rfl, rfl, by decide, by decide⟩
    · conv => whnf
      refine aw_seq ?_
      refine aw_nilcall ttOk zOk foOk (d0 := 23) (d1 := 24) (d2 := 6) (f := 107) (x := .int .i64 ((a.length + b.length : Nat) : Int)) rfl rfl rfl rfl rfl (by decide) rfl (by decide) rfl (by decide) ?_ rfl rfl ?_
      · conv => whnf
        refine ⟨?_, rfl⟩
        show AV.d (.int .i64 ((a.length : Int) + b.length)) = _
        rw [show (a.length : Int) + b.length = ((a.length + b.length : Nat) : Int) by omega]
      · conv => whnf
        refine (grow_ok (a.length + b.length) (by omega)).mono ?_
        rintro _ _ ⟨rfl, rfl⟩
        conv => whnf
        refine ⟨rfl, ?_⟩
        refine AW_go ttOk zOk foOk ?_
        conv => whnf
        refine loop_go ttOk zOk foOk (σ := Nat) (fun k => ([(6, .arr 0), (25, .d (.sl 1 [[.sl 1 (nums a)], [.sl 1 (nums b)]])), (26, .d (.int .i64 2)), (27, .d (.int .i64 k))], [.row 3 1 (nums (cL a b k)) false])) (fun k => k ≤ 2) (fun k => 2 - k) [6, 25, 26, 27] ?_ ?_
        · conv => whnf
          exact ⟨0, rfl, rfl, by decide⟩
        · intro k hk
          obtain rfl | rfl | rfl : k = 0 ∨ k = 1 ∨ k = 2 := by omega
          · conv => whnf
            refine ⟨by decide, _, rfl, ?_⟩
            conv => whnf
            refine ⟨by rw [hal]; show (0 + _) * 8 ≤ _; omega, ?_⟩
            conv => whnf
            refine rdz ?_; repeat' ((with_reducible apply tw) <;> intro _)
            exact ⟨1, rfl, rfl, by decide, by decide⟩
          · conv => whnf
            refine ⟨by decide, _, rfl, ?_⟩
            conv => whnf
            refine ⟨by rw [hbl]; show ((nums a).length + _) * 8 ≤ _; rw [hal]; omega, ?_⟩
            conv => whnf
            refine rdz ?_; repeat' ((with_reducible apply tw) <;> intro _)
            exact ⟨2, rfl, by show [AB.row _ 1 (nums a ++ nums b) false] = _; rw [nums_apps]; rfl, by decide, by decide⟩
          · conv => whnf
            exact ⟨.inl rfl, rfl, rfl⟩
theorem mfI_at {x : Int} : ∀ {l : List Int} {j : Nat}, x ∈ l → ∃ i, j ≤ i ∧ l[i - j]? = some x ∧ mfind (.one (.int .i64 x)) (l.map entI) j = some (some (i, .v (.one (.bool true))))
  | [], j, h => by simp at h
  | y :: r, j, h => by
    have e : keqM (.one (.int .i64 x)) (.one (.int .i64 y)) = some (x == y) := rfl
    by_cases hy : x = y
    · refine ⟨j, Nat.le_refl _, by simp [hy], ?_⟩
      show (match keqM (.one (.int .i64 x)) (.one (.int .i64 y)) with | some true => _ | some false => _ | none => _) = _
      rw [e, show (x == y) = true by rw [beq_iff_eq]; exact hy]
    · obtain ⟨i, hi1, hi2, hi⟩ := mfI_at (x := x) (l := r) (j := j + 1) ((List.mem_cons.1 h).resolve_left hy)
      refine ⟨i, by omega, ?_, ?_⟩
      · rw [show i - j = (i - (j + 1)) + 1 by omega]
        simpa using hi2
      · show (match keqM (.one (.int .i64 x)) (.one (.int .i64 y)) with | some true => _ | some false => _ | none => _) = _
        rw [e, show (x == y) = false by rw [beq_eq_false_iff_ne]; exact hy]
        exact hi
theorem set_same {l : List Int} {i : Nat} {x : Int} (h : l[i]? = some x) : (l.map entI).set i (entI x) = l.map entI := by
  rw [← List.map_set]
  obtain ⟨h1, rfl⟩ := List.getElem?_eq_some_iff.1 h
  rw [List.set_getElem_self]
def frK (seen l : List Int) : Nat → List Int × List Int
  | 0 => ([], seen)
  | k + 1 => match l[k]? with
    | none => frK seen l k
    | some x => if x ∈ (frK seen l k).2 then frK seen l k else ((frK seen l k).1 ++ [x], (frK seen l k).2 ++ [x])
theorem frK_succ {seen l : List Int} {k : Nat} {x : Int} (h : l[k]? = some x) : frK seen l (k + 1) = if x ∈ (frK seen l k).2 then frK seen l k else ((frK seen l k).1 ++ [x], (frK seen l k).2 ++ [x]) := by rw [frK, h]
theorem frK_two (seen l : List Int) : ∀ k, (frK seen l k).2 = seen ++ (frK seen l k).1
  | 0 => by simp [frK]
  | k + 1 => by
    have ih := frK_two seen l k
    rw [frK]
    split
    · exact ih
    · split
      · exact ih
      · simp only [ih, List.append_assoc]
theorem frK_len (seen l : List Int) : ∀ k, (frK seen l k).1.length ≤ k
  | 0 => Nat.le_refl _
  | k + 1 => by
    have ih := frK_len seen l k
    rw [frK]
    split
    · omega
    · split
      · omega
      · simp only [List.length_append, List.length_singleton]; omega
def Ex.push (e : Ex) (l : List Int) : Ex := { e with seen := e.seen ++ (frK e.seen l l.length).1 }
theorem more_ok (e : Ex) (hs : e.seen.length ≤ 1000000) (hn : e.seen.Nodup) (l : List Int) (hl : l.length ≤ 1000000) : ACalls Tryz.prog 57 [e.av, .d (.sl 1 (nums l))] [] (fun av L => av = .tup [.agg [.d (.sl 2 (pairsD e.tab.prs)), .d (.sl 2 (accsD e.tab.accs)), .arr 0, .d (.int .i64 e.count)], .arr 1] ∧ L = [.row 3 1 (nums (e.push l).seen) false, .row 3 1 (nums (frK e.seen l l.length).1) true]) := by
  have hsl := nums_length e.seen
  have hll := nums_length l
  (refine acalls_go ttOk zOk foOk Tryz.func57 rfl Tryz.ntmps57 rfl true rfl ?_); (conv => whnf)
  refine loop_go ttOk zOk foOk (σ := Nat) (fun j => ([(1, .d (.sl 1 (nums l))), (2, .ptr 0 0), (4, .ptr 1 0), (6, .arr 2), (7, .map 3), (14, .d (.sl 1 (nums e.seen))), (15, .d (.int .i64 e.seen.length)), (16, .d (.int .i64 j))], [.cells e.cs, .cells [.d .nils, .d .nils, .d .nils, .d (.int .i64 0)], .row 3 1 [] false, .map ((e.seen.take j).map entI)])) (fun j => j ≤ e.seen.length) (fun j => e.seen.length - j) [1, 2, 4, 6, 7, 14, 15, 16] ?_ ?_
  · conv => whnf
    exact ⟨0, by rw [hsl]; rfl, rfl, Nat.zero_le _⟩
  · intro j hj
    conv => whnf
    refine rdz ?_; repeat' ((with_reducible apply tw) <;> intro _)
    · rename_i h
      replace h : (j : Int) < e.seen.length := h
      refine Exists.elim (⟨_, List.getElem?_eq_getElem (by omega)⟩ : ∃ c, e.seen[j]? = some c) fun x hx => ?_
      have htk := jtake_snoc hx
      have hin : x ∉ e.seen.take j := by
        have := hn.sublist (List.take_sublist (j + 1) e.seen)
        rw [htk] at this
        exact (nodup_snoc.1 this).2
      refine ⟨by omega, [.int .i64 x], nums_at hx, ?_⟩
      conv => whnf
      refine rdz ?_; repeat' ((with_reducible apply tw) <;> intro _)
      refine ⟨_, mfI_none hin, ?_⟩
      conv => whnf
      refine rdz ?_; repeat' ((with_reducible apply tw) <;> intro _)
      refine ⟨j + 1, rfl, ?_, by omega, by omega⟩
      rw [htk, List.map_append]; rfl
    · rename_i h
      replace h : ¬ (j : Int) < e.seen.length := h
      rw [List.take_of_length_le (by omega)]
      clear hj h
      refine loop_go ttOk zOk foOk (σ := Nat) (fun k => ([(2, .ptr 0 0), (4, .ptr 1 0), (6, .arr 2), (7, .map 3), (23, .d (.sl 1 (nums l))), (24, .d (.int .i64 l.length)), (25, .d (.int .i64 k))], [.cells e.cs, .cells [.d .nils, .d .nils, .d .nils, .d (.int .i64 0)], .row 3 1 (nums (frK e.seen l k).1) false, .map ((frK e.seen l k).2.map entI)])) (fun k => k ≤ l.length) (fun k => l.length - k) [2, 4, 6, 7, 23, 24, 25] ?_ ?_
      · conv => whnf
        exact ⟨0, by rw [hll]; rfl, rfl, Nat.zero_le _⟩
      · clear j
        intro k hk
        have hfl := frK_len e.seen l k
        have hnf := nums_length (frK e.seen l k).1
        conv => whnf
        refine rdz ?_; repeat' ((with_reducible apply tw) <;> intro _)
        · rename_i h
          replace h : (k : Int) < l.length := h
          refine Exists.elim (⟨_, List.getElem?_eq_getElem (by omega)⟩ : ∃ c, l[k]? = some c) fun x hx => ?_
          have hsu := frK_succ (seen := e.seen) hx
          refine ⟨by omega, [.int .i64 x], nums_at hx, ?_⟩
          conv => whnf
          by_cases hin : x ∈ (frK e.seen l k).2
          · rw [if_pos hin] at hsu
            refine Exists.elim (mfI_at (j := 0) hin) fun i hi => ?_
            obtain ⟨_, hi2, hi⟩ := hi
            rw [Nat.sub_zero] at hi2
            refine ⟨_, hi, ?_⟩
            conv => whnf
            refine ⟨_, hi, ?_⟩
            conv => whnf
            refine rdz ?_; repeat' ((with_reducible apply tw) <;> intro _)
            refine ⟨k + 1, rfl, ?_, by omega, by omega⟩
            show _ = [AB.cells e.cs, AB.cells [.d .nils, .d .nils, .d .nils, .d (.int .i64 0)], .row 3 1 (nums (frK e.seen l (k + 1)).1) false, .map ((frK e.seen l (k + 1)).2.map entI)]
            rw [hsu]
            conv => rhs; rw [← set_same hi2]
            rfl
          · rw [if_neg hin] at hsu
            refine ⟨_, mfI_none hin, ?_⟩
            conv => whnf
            refine rdz ?_; repeat' ((with_reducible apply tw) <;> intro _)
            refine ⟨by rw [hnf]; show (_ + 1) * 8 ≤ _; omega, ?_⟩
            conv => whnf
            refine rdz ?_; repeat' ((with_reducible apply tw) <;> intro _)
            refine ⟨_, mfI_none hin, ?_⟩
            conv => whnf
            refine rdz ?_; repeat' ((with_reducible apply tw) <;> intro _)
            refine ⟨k + 1, rfl, ?_, by omega, by omega⟩
            show _ = [AB.cells e.cs, AB.cells [.d .nils, .d .nils, .d .nils, .d (.int .i64 0)], .row 3 1 (nums (frK e.seen l (k + 1)).1) false, .map ((frK e.seen l (k + 1)).2.map entI)]
            rw [hsu]
            simp only [nums, List.map_append]
            rfl
        · rename_i h
          replace h : ¬ (k : Int) < l.length := h
          obtain rfl : k = l.length := by omega
          (refine Or.inl ?_; (conv => whnf))
          (refine (concat_ok e.seen (frK e.seen l l.length).1 hs (by omega)).mono ?_; rintro _ _ ⟨rfl, rfl⟩; (conv => whnf))
          refine rdz ?_; repeat' ((with_reducible apply tw) <;> intro _)
          exact ⟨rfl, rfl⟩
theorem pushf_ok (d : Int) : ACalls Tryz.prog 55 [.d (.int .i64 d)] [] (fun av L => av = .d (.bool (!decide (1 ≤ d ∧ d ≤ 65536))) ∧ L = []) := by
  (refine acalls_go ttOk zOk foOk Tryz.func55 rfl Tryz.ntmps55 rfl false rfl ?_); (conv => whnf)
  refine rdz ?_; repeat' ((with_reducible apply tw) <;> intro _)
  refine (digest_ok d).mono ?_
  rintro _ _ ⟨rfl, rfl⟩
  conv => whnf
  exact ⟨rfl, rfl⟩
theorem indexP_ok (l : List Int) (hl : few l) (hd : ∀ d ∈ l, 1 ≤ d ∧ d ≤ 65536) : ACalls Tryz.prog 82 [.d (.sl 1 (nums l)), .fn 55 []] [] (fun av L => av = .d (.int .i64 (-1)) ∧ L = []) := by
  have hll := nums_length l
  unfold few at hl
  (refine acalls_go ttOk zOk foOk Tryz.func82 rfl Tryz.ntmps82 rfl false rfl ?_); (conv => whnf)
  refine loop_go ttOk zOk foOk (σ := Nat) (fun j => ([(0, .d (.sl 1 (nums l))), (1, .fn 55 []), (7, .d (.int .i64 l.length)), (8, .d (.int .i64 j))], [])) (fun j => j ≤ l.length) (fun j => l.length - j) [0, 1, 7, 8] ?_ ?_
  · conv => whnf
    exact ⟨0, by rw [hll]; rfl, rfl, Nat.zero_le _⟩
  · intro j hj
    conv => whnf
    refine rdz ?_; repeat' ((with_reducible apply tw) <;> intro _)
    · rename_i h
      replace h : (j : Int) < l.length := h
      refine Exists.elim (⟨_, List.getElem?_eq_getElem (by omega)⟩ : ∃ c, l[j]? = some c) fun x hx => ?_
      have hdx := hd x (List.mem_of_getElem? hx)
      have hpf := pushf_ok x
      rw [decide_eq_true hdx] at hpf
      refine ⟨by omega, [.int .i64 x], nums_at hx, ?_⟩
      conv => whnf
      refine hpf.mono ?_
      rintro _ _ ⟨rfl, rfl⟩
      conv => whnf
      refine rdz ?_; repeat' ((with_reducible apply tw) <;> intro _)
      exact ⟨j + 1, rfl, rfl, by omega, by omega⟩
    · exact ⟨rfl, rfl⟩
theorem containsP_ok (l : List Int) (hl : few l) (hd : ∀ d ∈ l, 1 ≤ d ∧ d ≤ 65536) : ACalls Tryz.prog 54 [.d (.sl 1 (nums l)), .fn 55 []] [] (fun av L => av = .d (.bool false) ∧ L = []) := by
  (refine acalls_go ttOk zOk foOk Tryz.func54 rfl Tryz.ntmps54 rfl false rfl ?_); (conv => whnf)
  refine rdz ?_; repeat' ((with_reducible apply tw) <;> intro _)
  refine (indexP_ok l hl hd).mono ?_
  rintro _ _ ⟨rfl, rfl⟩
  conv => whnf
  exact ⟨rfl, rfl⟩
structure Ex.fine (e : Ex) : Prop where
  tab : e.tab.fine
  dig : ∀ x ∈ e.seen, 1 ≤ x ∧ x ≤ 65536
  nd : e.seen.Nodup
  cnt : 0 ≤ e.count ∧ e.count ≤ e.seen.length
theorem Ex.fine.may {e : Ex} (h : e.fine) : execMay e.tab.prs e.tab.accs e.seen e.count := ⟨h.tab.may, h.dig, h.nd, h.cnt⟩
theorem Ex.fine.len {e : Ex} (h : e.fine) : e.seen.length ≤ 65536 := nd_len h.nd h.dig
open Classical in
theorem exMay_ok (e : Ex) (h : e.fine) : ACalls Tryz.prog 53 [e.av] [] (fun av L => av = .d (.bool true) ∧ L = []) := by
  have := exec_ok e.tab.prs e.tab.accs e.seen e.count (by have := h.tab.pl; omega) (by have := h.tab.al; omega) (by have := h.len; omega)
  rw [decide_eq_true h.may] at this
  exact this
theorem push_raw (e : Ex) (h : e.fine) (l : List Int) (hl : l.length ≤ 1000000) (hd : ∀ d ∈ l, 1 ≤ d ∧ d ≤ 65536) : ACalls Tryz.prog 27 [e.av, .d (.sl 1 (nums l))] [] (fun av L => ∃ x y, av = .tup [.agg [.d (.sl 2 (pairsD e.tab.prs)), .d (.sl 2 (accsD e.tab.accs)), .arr x, .d (.int .i64 e.count)], .arr y, .d (.int .i64 0)] ∧ L = [.row 3 1 (nums (e.push l).seen) false, .row 3 1 (nums (frK e.seen l l.length).1) true] ∧ x = 0 ∧ y = 1) := by
  have hm := exMay_ok e h
  have hc := containsP_ok l (by unfold few; omega) hd
  have ho := exOwn_ok e (by have := h.tab.pl; omega) (by have := h.tab.al; omega) (by have := h.len; omega)
  have hmo := more_ok e (by have := h.len; omega) h.nd l hl
  (refine acalls_go ttOk zOk foOk Tryz.func27 rfl Tryz.ntmps27 rfl true rfl ?_); (conv => whnf)
  (refine (hm).mono ?_; rintro _ _ ⟨rfl, rfl⟩; (conv => whnf))
  refine rdz ?_; repeat' ((with_reducible apply tw) <;> intro _)
  (refine (hc).mono ?_; rintro _ _ ⟨rfl, rfl⟩; (conv => whnf))
  refine rdz ?_; repeat' ((with_reducible apply tw) <;> intro _)
  (refine (ho).mono ?_; rintro _ _ ⟨rfl, rfl⟩; (conv => whnf))
  refine rdz ?_; repeat' ((with_reducible apply tw) <;> intro _)
  (refine (hmo).mono ?_; rintro _ _ ⟨rfl, rfl⟩; (conv => whnf))
  refine rdz ?_; repeat' ((with_reducible apply tw) <;> intro _)
  exact ⟨0, 1, rfl, rfl, rfl, rfl⟩
theorem exRun_ok (e : Ex) (h : e.fine) (l : List HeldS) (hl : few l) (hm : heldMay l) : ACalls Tryz.prog 60 [e.av, .d (.sl 4 (heldD l))] [] (fun av L => (∃ n : Int, av = .tup [(e.run l).av, .d (.int .i64 n)]) ∧ L = []) :=
  acalls_data (run_raw e h.tab (by have := h.len; omega) h.cnt l hl hm) (by
    rintro _ _ ⟨t, c, n, he, ⟨rfl, rfl⟩ | ⟨rfl, rfl⟩⟩
    · conv => whnf
      exact ⟨⟨n, by rw [he]; rfl⟩, rfl⟩
    · conv => whnf
      exact ⟨⟨n, by rw [he]; rfl⟩, rfl⟩)
theorem exStep_ok (e : Ex) (h : e.fine) (l : List HeldS) (hl : few l) (hm : heldMay l) : ACalls Tryz.prog 28 [e.av, .d (.sl 4 (heldD l))] [] (fun av L => (∃ n : Int, av = .tup [(e.run l).av, .d (.int .i64 n), .d (.int .i64 0)]) ∧ L = []) := by
  have h1 := exMay_ok e h
  have h2 := mayHeld_ok l hl hm
  have ho := exOwn_ok e (by have := h.tab.pl; omega) (by have := h.tab.al; omega) (by have := h.len; omega)
  have hr := exRun_ok e h l hl hm
  (refine acalls_go ttOk zOk foOk Tryz.func28 rfl Tryz.ntmps28 rfl false rfl ?_); (conv => whnf)
  (refine (h1).mono ?_; rintro _ _ ⟨rfl, rfl⟩; (conv => whnf))
  refine rdz ?_; repeat' ((with_reducible apply tw) <;> intro _)
  (refine (h2).mono ?_; rintro _ _ ⟨rfl, rfl⟩; (conv => whnf))
  refine rdz ?_; repeat' ((with_reducible apply tw) <;> intro _)
  (refine (ho).mono ?_; rintro _ _ ⟨rfl, rfl⟩; (conv => whnf))
  refine rdz ?_; repeat' ((with_reducible apply tw) <;> intro _)
  refine hr.mono ?_
  rintro _ _ ⟨⟨n, rfl⟩, rfl⟩
  conv => whnf
  refine rdz ?_; repeat' ((with_reducible apply tw) <;> intro _)
  exact ⟨⟨n, rfl⟩, rfl⟩
theorem frK_nd (seen l : List Int) (hs : seen.Nodup) : ∀ k, (frK seen l k).2.Nodup ∧ ∀ x ∈ (frK seen l k).2, x ∈ seen ∨ x ∈ l
  | 0 => ⟨hs, fun x hx => .inl hx⟩
  | k + 1 => by
    obtain ⟨h1, h2⟩ := frK_nd seen l hs k
    cases hx : l[k]? with
    | none =>
      rw [frK, hx]
      exact ⟨h1, h2⟩
    | some x =>
      rw [frK_succ hx]
      split
      · exact ⟨h1, h2⟩
      · rename_i hn
        refine ⟨nodup_snoc.2 ⟨h1, hn⟩, fun y hy => ?_⟩
        rcases List.mem_append.1 hy with hy | hy
        · exact h2 y hy
        · rw [List.mem_singleton.1 hy]; exact .inr (List.mem_of_getElem? hx)
theorem Ex.fine.push {e : Ex} (h : e.fine) {l : List Int} (hd : ∀ d ∈ l, 1 ≤ d ∧ d ≤ 65536) : (e.push l).fine := by
  obtain ⟨h1, h2⟩ := frK_nd e.seen l h.nd l.length
  rw [frK_two] at h1 h2
  refine ⟨h.tab, fun x hx => ?_, h1, h.cnt.1, ?_⟩
  · rcases h2 x hx with h3 | h3
    · exact h.dig x h3
    · exact hd x h3
  · have := h.cnt.2
    show e.count ≤ ((e.seen ++ _).length : Nat)
    rw [List.length_append]; omega
theorem exR_fine (H : List HeldS) : ∀ (l : List Int) (t : Tab), t.fine → (exR H l t).1.fine ∧ (exR H l t).2 ≤ l.length
  | [], t, h => ⟨h, Nat.le_refl _⟩
  | d :: r, t, h => by
    rw [exR]
    split
    · exact ⟨h, Nat.zero_le _⟩
    · rename_i b hb
      obtain ⟨h1, h2⟩ := exR_fine H r (t.acts b.txs) (h.acts _)
      exact ⟨h1, by simp only [List.length_cons]; omega⟩
theorem Ex.fine.run {e : Ex} (h : e.fine) (H : List HeldS) : (e.run H).fine := by
  obtain ⟨h1, h2⟩ := exR_fine H (e.seen.drop e.count.toNat) e.tab h.tab
  rw [List.length_drop] at h2
  have hc := h.cnt
  refine ⟨h1, h.dig, h.nd, ?_, ?_⟩
  · show 0 ≤ e.count + _; omega
  · show e.count + ((exR H (e.seen.drop e.count.toNat) e.tab).2 : Nat) ≤ (e.seen.length : Nat); omega
def Ex.pushes (e : Ex) (ls : List (List Int)) : Ex := ls.foldl Ex.push e
theorem pushes_snoc (e : Ex) (ls : List (List Int)) (l : List Int) : e.pushes (ls ++ [l]) = (e.pushes ls).push l := by simp [Ex.pushes]
theorem pushes_app (e : Ex) (a b : List (List Int)) : e.pushes (a ++ b) = (e.pushes a).pushes b := by simp [Ex.pushes]
theorem Ex.fine.pushes {e : Ex} (h : e.fine) : ∀ {ls : List (List Int)}, (∀ l ∈ ls, ∀ d ∈ l, 1 ≤ d ∧ d ≤ 65536) → (e.pushes ls).fine
  | [], _ => h
  | l :: r, hd => (h.push (hd l (by simp))).pushes fun x hx => hd x (by simp [hx])
theorem pushes_seen : ∀ (ls : List (List Int)) (e f : Ex), e.seen = f.seen → (e.pushes ls).seen = (f.pushes ls).seen ∧ (e.pushes ls).tab = e.tab ∧ (e.pushes ls).count = e.count
  | [], e, f, h => ⟨h, rfl, rfl⟩
  | l :: r, e, f, h => by
    have h1 : (e.push l).seen = (f.push l).seen := by show e.seen ++ _ = f.seen ++ _; rw [h]
    obtain ⟨h2, h3, h4⟩ := pushes_seen r (e.push l) (f.push l) h1
    exact ⟨h2, h3, h4⟩
theorem pushes_pre : ∀ (ls : List (List Int)) (e : Ex), ∃ t, (e.pushes ls).seen = e.seen ++ t
  | [], e => ⟨[], by simp [Ex.pushes]⟩
  | l :: r, e => by
    obtain ⟨t, ht⟩ := pushes_pre r (e.push l)
    exact ⟨_, by show ((e.push l).pushes r).seen = _; rw [ht]; show (e.seen ++ _) ++ t = _; rw [List.append_assoc]⟩
theorem exR_parts (H : List HeldS) : ∀ (a b : List Int) (t : Tab), exR H (a ++ b) t = ((exR H ((a ++ b).drop (exR H a t).2) (exR H a t).1).1, (exR H a t).2 + (exR H ((a ++ b).drop (exR H a t).2) (exR H a t).1).2)
  | [], b, t => by simp [exR]
  | d :: r, b, t => by
    rw [List.cons_append]
    cases hd : heldAt H d with
    | none =>
      have e1 : ∀ l, exR H (d :: l) t = (t, 0) := fun l => by rw [exR, hd]
      rw [e1 r, e1]
      simp only [List.drop_zero]
      rw [e1]
      rfl
    | some c =>
      have e1 : ∀ l, exR H (d :: l) t = ((exR H l (t.acts c.txs)).1, (exR H l (t.acts c.txs)).2 + 1) := fun l => by rw [exR, hd]
      have ih := exR_parts H r b (t.acts c.txs)
      rw [e1 r, e1 (r ++ b)]
      simp only [List.drop_succ_cons]
      have i1 := congrArg Prod.fst ih
      have i2 := congrArg Prod.snd ih
      simp only at i1 i2
      refine Prod.ext i1 ?_
      show (exR H (r ++ b) (t.acts c.txs)).2 + 1 = _
      rw [i2]
      show _ = (exR H r (t.acts c.txs)).2 + 1 + _
      omega
theorem run_parts (e : Ex) (h : e.fine) (H : List HeldS) (a b : List (List Int)) : (((e.pushes a).run H).pushes b).run H = (e.pushes (a ++ b)).run H := by
  rw [pushes_app]
  obtain ⟨s1, s2, s3⟩ := pushes_seen b ((e.pushes a).run H) (e.pushes a) rfl
  obtain ⟨s4, s5, s6⟩ := pushes_seen b (e.pushes a) (e.pushes a) rfl
  obtain ⟨t, ht⟩ := pushes_pre b (e.pushes a)
  obtain ⟨f, hf⟩ : ∃ f, e.pushes a = f := ⟨_, rfl⟩
  have hfc : 0 ≤ f.count ∧ f.count ≤ f.seen.length := by
    obtain ⟨u1, u2, u3⟩ := pushes_seen a e e rfl
    obtain ⟨u, hu⟩ := pushes_pre a e
    rw [hf] at u3 hu
    rw [u3, hu, List.length_append]
    have := h.cnt
    omega
  rw [hf] at s1 s2 s3 s4 s5 s6 ht ⊢
  obtain ⟨c, hc⟩ : ∃ c : Nat, f.count = c := ⟨f.count.toNat, by omega⟩
  have hrun : ∀ g : Ex, g.run H = Ex.mk (exR H (g.seen.drop g.count.toNat) g.tab).1 g.seen (g.count + ((exR H (g.seen.drop g.count.toNat) g.tab).2 : Nat)) := fun _ => rfl
  rw [hrun ((f.run H).pushes b), hrun (f.pushes b), s1, s2, s3, s5, s6, ht]
  show Ex.mk (exR H ((f.seen ++ t).drop (f.count + (exR H (f.seen.drop f.count.toNat) f.tab).2).toNat) (exR H (f.seen.drop f.count.toNat) f.tab).1).1 (f.seen ++ t) (f.count + (exR H (f.seen.drop f.count.toNat) f.tab).2 + (exR H ((f.seen ++ t).drop (f.count + (exR H (f.seen.drop f.count.toNat) f.tab).2).toNat) (exR H (f.seen.drop f.count.toNat) f.tab).1).2) = _
  rw [hc, show ((c : Int)).toNat = c from rfl]
  have hdr : (f.seen ++ t).drop c = f.seen.drop c ++ t := List.drop_append_of_le_length (by omega)
  rw [hdr]
  have hp := exR_parts H (f.seen.drop c) t f.tab
  rw [← hdr, List.drop_drop] at hp
  have hk : ((c : Int) + ((exR H (f.seen.drop c) f.tab).2 : Nat)).toNat = c + (exR H (f.seen.drop c) f.tab).2 := by omega
  rw [hk, ← hdr, hp]
  simp only
  congr 1
  omega
theorem eqPair_ok : eqOkB Tryz.prog 88 [false, false] = true := by kernel_rfl
theorem eqPairs_ok (l : List PairS) (hl : l.length ≤ 10000) : ACalls Tryz.prog 67 [.d (.sl 2 (pairsD l)), .d (.sl 2 (pairsD l))] [] (fun av L => av = .d (.bool true) ∧ L = []) := by
  have hx := pairsD_length l
  (refine acalls_go ttOk zOk foOk Tryz.func67 rfl Tryz.ntmps67 rfl false rfl ?_); (conv => whnf)
  rw [hx]
  refine rdw ?_; repeat' ((with_reducible apply tw) <;> intro _)
  · rename_i hx; exact absurd rfl hx
  refine loop_go ttOk zOk foOk (σ := Nat) (fun k => ([(0, .d (.sl 2 (pairsD l))), (1, .d (.sl 2 (pairsD l))), (5, .d (.int .i64 k))], [])) (fun k => k ≤ l.length) (fun k => l.length - k) [0, 1, 5] ?_ ?_
  · conv => whnf
    exact ⟨0, rfl, rfl, by omega⟩
  · intro k hk
    conv => whnf
    rw [hx]
    refine rdw ?_; repeat' ((with_reducible apply tw) <;> intro _)
    · rename_i h
      refine Exists.elim (⟨_, List.getElem?_eq_getElem (by omega)⟩ : ∃ a, l[k]? = some a) fun a ha => ?_
      ((with_reducible refine draw_pl ttOk zOk foOk mixedOk pl67x6 ?_ ?_); (focus kernel_rfl); (conv => whnf))
      repeat' (first | (first | ((with_reducible first | apply rd_intro | apply gd_and); (focus ((conv => whnf) <;> first | rfl | (intro K hK; (conv => whnf); first | exact hK | exact z_wrap (by omega) hK))); conv => whnf) | ((with_reducible apply z_wrap); (focus omega); conv => whnf) | ((with_reducible first | apply mt_dec | apply mt_eq | apply mt_ne | apply mt_not | apply mt_any) <;> (intro _; conv => whnf))) | ((with_reducible apply rd_intro); (focus (intro K hK; (conv => whnf); exact ⟨by omega, a.cs, pairsD_at ha, hK⟩)); (conv => whnf)) | ((with_reducible apply rd_intro); (focus (intro K hK; (conv => whnf); exact ⟨eqPair_ok, hK⟩)); (conv => whnf)) | fail)
      · rename_i hb
        exfalso
        revert hb
        simp
      · exact ⟨k + 1, rfl, rfl, by omega, by omega⟩
    · exact ⟨rfl, rfl⟩
theorem eqAcct_ok : eqOkB Tryz.prog 83 [true, true] = true := by kernel_rfl
theorem eqAccounts_ok (l : List AccS) (hl : l.length ≤ 10000) : ACalls Tryz.prog 68 [.d (.sl 2 (accsD l)), .d (.sl 2 (accsD l))] [] (fun av L => av = .d (.bool true) ∧ L = []) := by
  have hx := accsD_length l
  (refine acalls_go ttOk zOk foOk Tryz.func68 rfl Tryz.ntmps68 rfl false rfl ?_); (conv => whnf)
  rw [hx]
  refine rdw ?_; repeat' ((with_reducible apply tw) <;> intro _)
  · rename_i hx; exact absurd rfl hx
  refine loop_go ttOk zOk foOk (σ := Nat) (fun k => ([(0, .d (.sl 2 (accsD l))), (1, .d (.sl 2 (accsD l))), (5, .d (.int .i64 k))], [])) (fun k => k ≤ l.length) (fun k => l.length - k) [0, 1, 5] ?_ ?_
  · conv => whnf
    exact ⟨0, rfl, rfl, by omega⟩
  · intro k hk
    conv => whnf
    rw [hx]
    refine rdw ?_; repeat' ((with_reducible apply tw) <;> intro _)
    · rename_i h
      refine Exists.elim (⟨_, List.getElem?_eq_getElem (by omega)⟩ : ∃ a, l[k]? = some a) fun a ha => ?_
      ((with_reducible refine draw_pl ttOk zOk foOk mixedOk pl68x6 ?_ ?_); (focus kernel_rfl); (conv => whnf))
      repeat' (first | (first | ((with_reducible first | apply rd_intro | apply gd_and); (focus ((conv => whnf) <;> first | rfl | (intro K hK; (conv => whnf); first | exact hK | exact z_wrap (by omega) hK))); conv => whnf) | ((with_reducible apply z_wrap); (focus omega); conv => whnf) | ((with_reducible first | apply mt_dec | apply mt_eq | apply mt_ne | apply mt_not | apply mt_any) <;> (intro _; conv => whnf))) | ((with_reducible apply rd_intro); (focus (intro K hK; (conv => whnf); exact ⟨by omega, a.cs, accsD_at ha, hK⟩)); (conv => whnf)) | ((with_reducible apply rd_intro); (focus (intro K hK; (conv => whnf); exact ⟨eqAcct_ok, hK⟩)); (conv => whnf)) | fail)
      · rename_i hb
        exfalso
        revert hb
        simp
      · exact ⟨k + 1, rfl, rfl, by omega, by omega⟩
    · exact ⟨rfl, rfl⟩
theorem eqTable_ok (t : Tab) (hp : t.prs.length ≤ 10000) (ha : t.accs.length ≤ 10000) : ACalls Tryz.prog 38 [.agg [.d (.sl 2 (pairsD t.prs)), .d (.sl 2 (accsD t.accs))], .agg [.d (.sl 2 (pairsD t.prs)), .d (.sl 2 (accsD t.accs))]] [] (fun av L => av = .d (.bool true) ∧ L = []) := by
  have h1 := eqPairs_ok t.prs hp
  have h2 := eqAccounts_ok t.accs ha
  (refine acalls_go ttOk zOk foOk Tryz.func38 rfl Tryz.ntmps38 rfl false rfl ?_); (conv => whnf)
  refine rdw ?_; repeat' ((with_reducible apply tw) <;> intro _)
  (refine (h1).mono ?_; rintro _ _ ⟨rfl, rfl⟩; (conv => whnf))
  refine rdw ?_; repeat' ((with_reducible apply tw) <;> intro _)
  (refine (h2).mono ?_; rintro _ _ ⟨rfl, rfl⟩; (conv => whnf))
  exact ⟨rfl, rfl⟩
theorem eqExec_ok (e : Ex) (hp : e.tab.prs.length ≤ 10000) (ha : e.tab.accs.length ≤ 10000) (hs : few e.seen) : ACalls Tryz.prog 15 [e.av, e.av] [] (fun av L => av = .d (.bool true) ∧ L = []) := by
  have h1 := eqTable_ok e.tab hp ha
  have h2 := eqNumbers_ok e.seen e.seen hs
  rw [decide_eq_true rfl] at h2
  (refine acalls_go ttOk zOk foOk Tryz.func15 rfl Tryz.ntmps15 rfl false rfl ?_); (conv => whnf)
  refine rdw ?_; repeat' ((with_reducible apply tw) <;> intro _)
  (refine (h1).mono ?_; rintro _ _ ⟨rfl, rfl⟩; (conv => whnf))
  refine rdw ?_; repeat' ((with_reducible apply tw) <;> intro _)
  (refine (h2).mono ?_; rintro _ _ ⟨rfl, rfl⟩; (conv => whnf))
  refine rdw ?_; repeat' ((with_reducible apply tw) <;> intro _)
  exact ⟨by simp, rfl⟩
def ptOf (c : Cursor) (e : Ex) : Pt := ⟨c, e.tab.prs, e.tab.accs, e.seen, e.count⟩
theorem eqPoint_ok (c : Cursor) (e : Ex) (hc : few c.done) (hp : e.tab.prs.length ≤ 10000) (ha : e.tab.accs.length ≤ 10000) (hs : few e.seen) : ACalls Tryz.prog 14 [(ptOf c e).av, (ptOf c e).av] [] (fun av L => av = .d (.bool true) ∧ L = []) := by
  have h1 := eqCursor_ok c.round c.round c.done c.done c.count c.count hc
  have h2 := eqExec_ok e hp ha hs
  rw [decide_eq_true ⟨rfl, rfl, rfl⟩] at h1
  (refine acalls_go ttOk zOk foOk Tryz.func14 rfl Tryz.ntmps14 rfl false rfl ?_); (conv => whnf)
  refine rdw ?_; repeat' ((with_reducible apply tw) <;> intro _)
  (refine (h1).mono ?_; rintro _ _ ⟨rfl, rfl⟩; (conv => whnf))
  refine rdw ?_; repeat' ((with_reducible apply tw) <;> intro _)
  (refine (h2).mono ?_; rintro _ _ ⟨rfl, rfl⟩; (conv => whnf))
  exact ⟨rfl, rfl⟩
def batL (d : Dag) (x : Int) : List Int := match getC d.certs x with
  | some j => match d.certs[j]? with
    | some c => c.bats
    | none => []
  | none => []
theorem exPush2_ok (e : Ex) (h : e.fine) (l : List Int) (hl : l.length ≤ 1000000) (hd : ∀ d ∈ l, 1 ≤ d ∧ d ≤ 65536) : ACalls Tryz.prog 27 [e.av, .d (.sl 1 (nums l))] [] (fun av L => av = .tup [(e.push l).av, .d (.sl 1 (nums (frK e.seen l l.length).1)), .d (.int .i64 0)] ∧ L = []) :=
  acalls_data (push_raw e h l hl hd) (by
    rintro _ _ ⟨x, y, rfl, rfl, rfl, rfl⟩
    conv => whnf
    exact ⟨rfl, rfl⟩)
theorem here_get {l : List Cert} {x : Int} (h : x ∈ l.map (·.digest)) : ∃ i, getC l x = some i := by
  cases hg : getC l x with
  | some i => exact ⟨i, rfl⟩
  | none =>
    exfalso
    obtain ⟨c, hc, rfl⟩ := List.mem_map.1 h
    unfold getC at hg
    have := (List.findIdx?_eq_none_iff.1 hg) c hc
    simp at this
theorem bat_rng {d : Dag} (h : Valid d) (l : List Int) : ∀ b ∈ l.map (batL d), ∀ x ∈ b, 1 ≤ x ∧ x ≤ 65536 := by
  intro b hb x hx
  obtain ⟨y, -, rfl⟩ := List.mem_map.1 hb
  unfold batL at hx
  split at hx
  · split at hx
    · rename_i c hc
      exact (h.certs c (List.mem_of_getElem? hc)).head.bats.2.2 x hx
    · cases hx
  · cases hx
theorem goes_ok (d : Dag) (hv : Valid d) (h0 : d.low = 0) (c : Cursor) (hc : curMay c) (e : Ex) (he : e.fine) (l : List HeldS) (hl : few l) (hm : heldMay l) (hin : ∀ x ∈ (finW d c).outs, x ∈ d.certs.map (·.digest)) (hfew : (finW d c).outs.length ≤ 4294967296) : ACalls Tryz.prog 10 [d.av, .d (.sl 4 (heldD l)), (ptOf c e).av] [] (fun av L => av = .tup [(ptOf (finW d c).c ((e.pushes ((finW d c).outs.map (batL d))).run l)).av, .d (.bool true)] ∧ L = []) := by
  have hcl := certsD_length d.certs
  have hol := nums_length (finW d c).outs
  have hs := any_data d hv h0 c (.sl 1 (nums c.done)) (.inr rfl) hc
  have hz := num24_ok 0
  (refine acalls_go ttOk zOk foOk Tryz.func10 rfl Tryz.ntmps10 rfl false rfl ?_); (conv => whnf)
  refine rdw ?_; repeat' ((with_reducible apply tw) <;> intro _)
  (refine (hs).mono ?_; rintro _ _ ⟨rfl, rfl⟩; (conv => whnf))
  refine rdw ?_; repeat' ((with_reducible apply tw) <;> intro _)
  (refine (hz).mono ?_; rintro _ _ ⟨rfl, rfl⟩; (conv => whnf))
  refine rdw ?_; repeat' ((with_reducible apply tw) <;> intro _)
  refine loop_go ttOk zOk foOk (σ := Nat) (fun k => ([(1, .d (.sl 4 (heldD l))), (3, .ptr 0 0), (5, .ptr 1 0), (6, .ptr 2 0), (8, .ptr 3 0), (9, .d (.sl 1 (nums (finW d c).outs))), (11, .ptr 4 0), (12, .d (.int .i64 k))], [.cells d.cells, .cells (ptOf c e).cs, .cells (pcs (.int .i64 0) .nils (.int .i64 0) .nils .nils .nils (.int .i64 0)), .cells [.d (.int .i64 (finW d c).c.round), .d (.sl 1 (nums (finW d c).c.done)), .d (.int .i64 (finW d c).c.count)], .cells (e.pushes (((finW d c).outs.take k).map (batL d))).cs])) (fun k => k ≤ (finW d c).outs.length) (fun k => (finW d c).outs.length - k) [1, 3, 5, 6, 8, 9, 11, 12] ?_ ?_
  · conv => whnf
    exact ⟨0, rfl, rfl, Nat.zero_le _⟩
  · intro k hk
    conv => whnf
    rw [hol]
    refine rdw ?_; repeat' ((with_reducible apply tw) <;> intro _)
    · rename_i h
      replace h : (k : Int) < (finW d c).outs.length := h
      refine Exists.elim (⟨_, List.getElem?_eq_getElem (by omega)⟩ : ∃ x, (finW d c).outs[k]? = some x) fun x hx => ?_
      obtain ⟨i, hi⟩ := here_get (hin x (List.mem_of_getElem? hx))
      obtain ⟨y, hy, hyx⟩ := getC_some hi
      have hf := rFind_ok d (by unfold few; have := hv.len; omega) x
      rw [getI, hi, Option.elim_some] at hf
      have hob := (hv.certs y (List.mem_of_getElem? hy)).head.bats
      have hpu := exPush2_ok (e.pushes (((finW d c).outs.take k).map (batL d))) (he.pushes (bat_rng hv _)) y.bats (by omega) hob.2.2
      have hnx : (e.pushes (((finW d c).outs.take (k + 1)).map (batL d))) = (e.pushes (((finW d c).outs.take k).map (batL d))).push y.bats := by
        rw [List.take_add_one, hx, Option.toList_some, List.map_append, List.map_singleton, pushes_snoc]
        congr 1
        simp only [batL, hi, hy]
      ((with_reducible refine draw_pl ttOk zOk foOk mixedOk pl10x8 ?_ ?_); (focus kernel_rfl); (conv => whnf))
      repeat' (first | (first | ((with_reducible first | apply rd_intro | apply gd_and); (focus ((conv => whnf) <;> first | rfl | (intro K hK; (conv => whnf); first | exact hK | exact z_wrap (by omega) hK))); conv => whnf) | ((with_reducible apply z_wrap); (focus omega); conv => whnf) | ((with_reducible first | apply mt_dec | apply mt_eq | apply mt_ne | apply mt_not | apply mt_any) <;> (intro _; conv => whnf))) | ((with_reducible apply rd_intro); (focus (intro K hK; (conv => whnf); exact ⟨by omega, [.int .i64 x], nums_at hx, hK⟩)); (conv => whnf)) | fail)
      (refine (hf).mono ?_; rintro _ _ ⟨rfl, rfl⟩; (conv => whnf))
      refine rdw ?_; repeat' ((with_reducible apply tw) <;> intro _)
      ((with_reducible refine draw_pl ttOk zOk foOk mixedOk pl10x11 ?_ ?_); (focus kernel_rfl); (conv => whnf))
      repeat' (first | (first | ((with_reducible first | apply rd_intro | apply gd_and); (focus ((conv => whnf) <;> first | rfl | (intro K hK; (conv => whnf); first | exact hK | exact z_wrap (by omega) hK))); conv => whnf) | ((with_reducible apply z_wrap); (focus omega); conv => whnf) | ((with_reducible first | apply mt_dec | apply mt_eq | apply mt_ne | apply mt_not | apply mt_any) <;> (intro _; conv => whnf))) | ((with_reducible apply rd_intro); (focus (intro K hK; (conv => whnf); exact ⟨by omega, y.cs, certsD_at hy, hK⟩)); (conv => whnf)) | ((with_reducible apply rd_intro); (focus (intro K hK; (conv => whnf); refine (hpu).mono ?_; rintro _ _ ⟨rfl, rfl⟩; (conv => whnf); exact hK)); (conv => whnf)) | fail)
      repeat' (first | (first | ((with_reducible first | apply rd_intro | apply gd_and); (focus ((conv => whnf) <;> first | rfl | (intro K hK; (conv => whnf); first | exact hK | exact z_wrap (by omega) hK))); conv => whnf) | ((with_reducible apply z_wrap); (focus omega); conv => whnf) | ((with_reducible first | apply mt_dec | apply mt_eq | apply mt_ne | apply mt_not | apply mt_any) <;> (intro _; conv => whnf))) | ((with_reducible apply gd_and); (focus ((conv => whnf); intro K hK; (conv => whnf); exact ⟨by omega, y.cs, certsD_at hy, hK⟩)); (conv => whnf)) | ((with_reducible apply gd_and); (focus ((conv => whnf); intro K hK; (conv => whnf); refine (hpu).mono ?_; rintro _ _ ⟨rfl, rfl⟩; (conv => whnf); exact hK)); (conv => whnf)) | fail)
      (refine (hz).mono ?_; rintro _ _ ⟨rfl, rfl⟩; (conv => whnf))
      refine rdw ?_; repeat' ((with_reducible apply tw) <;> intro _)
      exact ⟨k + 1, rfl, by rw [hnx]; rfl, by omega, by omega⟩
    · rename_i h
      replace h : ¬ (k : Int) < (finW d c).outs.length := h
      obtain rfl : k = (finW d c).outs.length := by omega
      rw [List.take_length]
      have hst := exStep_ok (e.pushes ((finW d c).outs.map (batL d))) (he.pushes (bat_rng hv _)) l hl hm
      refine hst.mono ?_
      rintro _ _ ⟨⟨n, rfl⟩, rfl⟩
      conv => whnf
      refine rdw ?_; repeat' ((with_reducible apply tw) <;> intro _)
      ((with_reducible refine draw_pl ttOk zOk foOk mixedOk pl10x16 ?_ ?_); (focus kernel_rfl); (conv => whnf))
      refine rdw ?_; repeat' ((with_reducible apply tw) <;> intro _)
      (refine (hz).mono ?_; rintro _ _ ⟨rfl, rfl⟩; (conv => whnf))
      refine rdw ?_; repeat' ((with_reducible apply tw) <;> intro _)
      exact ⟨rfl, rfl⟩
def outIn (d : Dag) (w : Wk) : Prop := ∀ x ∈ w.outs, x ∈ d.certs.map (·.digest)
theorem outIn.putA {d : Dag} {w : Wk} (h : outIn d w) (a : Int) : outIn d (w.putA d a) := by
  unfold Wk.putA
  split
  · split
    · intro x hx
      rcases List.mem_append.1 (show x ∈ w.outs ++ _ from hx) with hx | hx
      · exact h x hx
      · exact behind_digs x hx
    · exact h
  · exact h
theorem outIn.putL {d : Dag} : ∀ {l : List Int} {w : Wk}, outIn d w → outIn d (w.putL d l)
  | [], _, h => h
  | a :: l, _, h => outIn.putL (l := l) (h.putA a)
theorem outIn.goF {d : Dag} : ∀ {n : Nat} {w : Wk}, outIn d w → outIn d (Wk.goF d n w)
  | 0, _, h => h
  | n + 1, w, h => by
    rw [Wk.goF]
    split
    · exact outIn.goF h.putL
    · exact h
theorem fin_outs {d : Dag} (c : Cursor) : ∀ x ∈ (finW d c).outs, x ∈ d.certs.map (·.digest) := outIn.goF (n := (topR d.certs).toNat) (w := ⟨c, []⟩) fun x hx => (by cases hx)
theorem batL_of {d : Dag} {x : Int} : batL d x = ((certOf d x).map (·.bats)).getD [] := by
  unfold batL certOf
  cases getC d.certs x with
  | none => rfl
  | some j => cases h : d.certs[j]? <;> simp [h]
theorem batL_sub {A d : Dag} (h : Sub A d) {x : Int} (hx : x ∈ A.certs.map (·.digest)) : batL A x = batL d x := by
  obtain ⟨c, hc, rfl⟩ := List.mem_map.1 hx
  have h1 := certOf_mem h.va.dig hc
  rw [batL_of, batL_of, h1, h.cert h1]
def e0 : Ex := ⟨⟨[], []⟩, [], 0⟩
theorem pushes_in : ∀ (ls : List (List Int)) (e : Ex), e.fine → (∀ l ∈ ls, ∀ d ∈ l, 1 ≤ d ∧ d ≤ 65536) → ∀ x ∈ (e.pushes ls).seen, x ∈ e.seen ∨ ∃ l ∈ ls, x ∈ l
  | [], e, _, _, x, hx => .inl hx
  | l :: r, e, he, hd, x, hx => by
    rcases pushes_in r (e.push l) (he.push (hd l (by simp))) (fun y hy => hd y (by simp [hy])) x hx with h | ⟨y, hy, h⟩
    · have h2 := (frK_nd e.seen l he.nd l.length).2
      rw [frK_two] at h2
      rcases h2 x h with h3 | h3
      · exact .inl h3
      · exact .inr ⟨l, by simp, h3⟩
    · exact .inr ⟨y, by simp [hy], h⟩
noncomputable def endE (d : Dag) (l : List HeldS) : Ex := (e0.pushes ((finW d c0).outs.map (batL d))).run l
noncomputable def endP (d : Dag) (l : List HeldS) : Pt := ptOf (finW d c0).c (endE d l)
theorem e0_fine : e0.fine := by
  refine ⟨⟨Nat.zero_le _, Nat.zero_le _, fun x hx => (by cases hx), fun x hx => (by cases hx), List.Pairwise.nil, List.Pairwise.nil⟩, fun x hx => (by cases hx), List.nodup_nil, by decide, by decide⟩
theorem endE_fine {d : Dag} (h : Valid d) (l : List HeldS) : (endE d l).fine := (e0_fine.pushes (bat_rng h _)).run l
theorem endP_may {d : Dag} (h : Valid d) (h0 : d.low = 0) (l : List HeldS) : ptMay (endP d l) := ⟨fin_may h h0, (endE_fine h l).may⟩
theorem endP_small {d : Dag} (h : Valid d) (h0 : d.low = 0) (hc : d.certs.length ≤ 80) (l : List HeldS) : (endP d l).small := by
  constructor
  · have h1 := sub_len (m := d.certs.map (·.digest)) (rising_nodup (fin_may h h0).done.1) fun x hx => fin_in h h0 x hx
    rw [List.length_map] at h1
    show (finW d c0).c.done.length ≤ 100
    have h2 : (finW d c0).c.done.length ≤ d.certs.length := h1
    omega
  · have h2 := sub_len (m := d.certs.flatMap (·.bats)) (endE_fine h l).nd fun x hx => by
      rcases pushes_in ((finW d c0).outs.map (batL d)) e0 e0_fine (bat_rng h _) x hx with h3 | ⟨b, hb, hx⟩
      · cases h3
      · obtain ⟨y, -, rfl⟩ := List.mem_map.1 hb
        rw [batL_of] at hx
        cases hg : certOf d y with
        | none => rw [hg] at hx; cases hx
        | some c =>
          rw [hg] at hx
          obtain ⟨_, _, i, _, hi⟩ := certOf_some hg
          exact List.mem_flatMap.2 ⟨c, List.mem_of_getElem? hi, hx⟩
    have h3 := flat_le (·.bats) 8 d.certs fun c hc => by have := (h.certs c hc).head.bats.1; omega
    show (endE d l).seen.length ≤ 1000
    omega
theorem on_eq {A d : Dag} (h : Sub A d) (l : List HeldS) : ptOf (finW d (finW A c0).c).c (((endE A l).pushes ((finW d (finW A c0).c).outs.map (batL d))).run l) = endP d l := by
  obtain ⟨h1, h2, -⟩ := part_on h
  have h3 : (finW A c0).outs.map (batL A) = (finW A c0).outs.map (batL d) := List.map_congr_left fun x hx => batL_sub h (fin_outs c0 x hx)
  unfold endP endE
  rw [h1, h3, run_parts e0 e0_fine, ← List.map_append, ← h2]
end Go.Proofs.YtmmngmnmghpfaaaGreat
