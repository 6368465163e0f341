/- DiskExact: contracts. -/
import Derived.Test.YtgoejddmglgogaaDiskExactCodA
set_option linter.unusedVariables false
set_option linter.unusedSimpArgs false
namespace Go.Proofs.Ytgoejddmglgogaa
open Go.Ab Go.RowKit Go.MapKept
attribute [local irreducible] ACalls AW ADraw Into fltB fnear
set_option maxRecDepth 100000
theorem pad_rows (l : List UInt8) (n : Nat) : u8s l ++ List.replicate ((n : Int) - ((u8s l).length : Int)).toNat [DV.int .u8 0] = u8s (padTo n l) := by
  unfold padTo
  rw [u8s_length, show ((n : Int) - (l.length : Int)).toNat = n - l.length by omega]
  simp [u8s]
theorem pad_length {l : List UInt8} {n : Nat} (h : l.length ≤ n) : (padTo n l).length = n := by
  unfold padTo; simp; omega
theorem nums_tail (x : Int) (r : List Int) : ((nums (x :: r)).take ((nums (x :: r)).length : Int).toNat).drop (Int.toNat 1) = nums r := by
  rw [List.take_of_length_le (by simp)]
  rfl
def filesD (files : List FileS) : DV := .sl 2 (files.map FileS.cs)
theorem may_bad {files : List FileS} {k : Nat} (h : k < files.length) (hm : mayAt files k = false) : mayNew files = false := by
  unfold mayNew
  have : (List.range files.length).all (mayAt files) = false := by
    rw [Bool.eq_false_iff]
    intro ha
    rw [List.all_eq_true] at ha
    rw [ha k (by simpa using h)] at hm
    cases hm
  rw [this]; rfl
theorem new_bad {files : List FileS} {k : Nat} (h : k < files.length) (hm : mayAt files k = false) {A : Prop} {av : AV} {L : List AB} (ha : av = .tup [.d .nilp, .d (.int .i64 1)]) (hL : L = []) : (mayNew files = true → A) ∧ (mayNew files = false → av = .tup [.d .nilp, .d (.int .i64 1)] ∧ L = []) :=
  ⟨fun h1 => by (rw [may_bad h hm] at h1; cases h1), fun _ => ⟨ha, hL⟩⟩
attribute [local irreducible] goodS
theorem new_ok (files : List FileS) (hp : ∀ f ∈ files, f.data.length ≤ 140737488355328) (hl : files.length ≤ 140737488355328) : ACalls Try.prog 6 [.d (filesD files)] [] (fun av L => (mayNew files = true → av = .tup [.ptr 0 0, .d (.int .i64 0)] ∧ ∃ fs, L = (Dk.mk 0 false 0 fs).L ∧ newFl fs files) ∧ (mayNew files = false → av = .tup [.d .nilp, .d (.int .i64 1)] ∧ L = [])) := by
  (refine acalls_go ttOk zOk foOk Try.func6 rfl Try.ntmps6 rfl false rfl ?_); (conv => whnf)
  refine loop_go2 ttOk zOk foOk (σ := Nat) (ρ := List Fl) (fun k fs => ([(0, .d (filesD files)), (4, .ptr 0 0), (10, .d (filesD files)), (11, .d (.int .i64 (files.map FileS.cs).length)), (12, .d (.int .i64 k))], (Dk.mk 0 false 0 fs).L))
    (fun k fs => k ≤ files.length ∧ (∀ i, i < k → mayAt files i = true) ∧ newFl fs (files.take k)) (fun k _ => files.length - k) [0, 4, 10, 11, 12] ?_ ?_
  · conv => whnf
    exact ⟨0, [], rfl, rfl, ⟨by omega, fun i h => by omega, by simp [newFl]⟩⟩
  · rintro k fs ⟨hk, hm, hf⟩
    conv => whnf
    refine sp_dec (fun h => ?_) (fun h => ?_) <;> simp only [List.length_map] at h
    · conv => whnf
      have hkl : k < files.length := by omega
      obtain ⟨f, hff⟩ : ∃ f, files[k]? = some f := ⟨_, List.getElem?_eq_getElem hkl⟩
      have hma := mayAt_eq hff
      ((with_reducible refine ix_map hff ?_ ?_); (focus (first | rfl | omega)); (conv => whnf))
      ((with_reducible refine draw_pl ttOk zOk foOk mixedOk pl6x5 ?_ ?_); (focus kernel_rfl); (conv => whnf))
      ((with_reducible apply rd_intro); (focus (intro K hK; (conv => whnf); first | exact hK | (intro z hz; rw [wrapI (by omega)] at hz; subst hz; exact hK))); (conv => whnf))
      ((with_reducible apply rd_intro); (focus (intro K hK; (conv => whnf); first | exact hK | (intro z hz; rw [wrapI (by omega)] at hz; subst hz; exact hK))); (conv => whnf))
      ((with_reducible refine (good_ok f.name).mono ?_); rintro _ _ ⟨rfl, rfl⟩; (conv => whnf))
      refine rdw ?_; repeat' ((with_reducible apply tw) <;> intro _)
      · exact new_bad hkl (by rw [hma]; simp [*]) rfl rfl
      · rename_i h2
        exact new_bad hkl (by rw [hma]; simp at h2; simp; omega) rfl rfl
      · obtain ⟨g, hgg⟩ : ∃ g, files[k - 1]? = some g := ⟨_, List.getElem?_eq_getElem (by omega)⟩
        rw [prevLess_eq hgg] at hma
        ((with_reducible apply rd_intro); (focus (intro K hK; (conv => whnf); exact ix_map hgg (by first | rfl | omega) hK)); (conv => whnf))
        refine rdw ?_; repeat' ((with_reducible apply tw) <;> intro _)
        · exact new_bad hkl (by rw [hma]; simp [lessS, *]; omega) rfl rfl
        · have hm2 : mayAt files k = true := by rw [hma]; simp at *; simp [lessS, *]; omega
          ((with_reducible refine draw_pl ttOk zOk foOk mixedOk pl6x7 ?_ ?_); (focus kernel_rfl); (conv => whnf))
          refine rdw ?_; repeat' ((with_reducible apply tw) <;> intro _)
          ((with_reducible refine (clone_ok f.data (hp f (List.mem_of_getElem? hff))).mono ?_); rintro _ _ ⟨rfl, rfl⟩; (conv => whnf))
          refine rdw ?_; repeat' ((with_reducible apply tw) <;> intro _)
          ((with_reducible refine (clone_ok f.data (hp f (List.mem_of_getElem? hff))).mono ?_); rintro _ _ ⟨rfl, rfl⟩; (conv => whnf))
          refine rdw ?_; repeat' ((with_reducible apply tw) <;> intro _)
          intro b
          conv => whnf
          refine rdw ?_; repeat' ((with_reducible apply tw) <;> intro _)
          refine ⟨none, 3, _, by rw [mfind_ent, new_none hf (fun i hi => by rcases Nat.lt_or_ge i k with h1 | h1; exact hm i h1; rw [show i = k by omega]; exact hm2) hff]; rfl, rfl, ?_⟩
          intro L' hL
          subst hL
          conv => whnf
          refine rdw ?_; repeat' ((with_reducible apply tw) <;> intro _)
          refine ⟨k + 1, fs ++ [⟨f.name, b, f.data, f.data⟩], rfl, ?_, ⟨by omega, fun i hi => ?_, ?_⟩, by omega⟩
          · simp [Dk.L, Fl.ent, mputAt]
          · rcases Nat.lt_or_ge i k with h1 | h1
            · exact hm i h1
            · rw [show i = k by omega]; exact hm2
          · unfold newFl at hf ⊢
            rw [List.map_append, hf, List.take_add_one, hff]
            simp
      · have hm2 : mayAt files k = true := by rw [hma]; simp at *; simp [*]; omega
        ((with_reducible refine draw_pl ttOk zOk foOk mixedOk pl6x7 ?_ ?_); (focus kernel_rfl); (conv => whnf))
        refine rdw ?_; repeat' ((with_reducible apply tw) <;> intro _)
        ((with_reducible refine (clone_ok f.data (hp f (List.mem_of_getElem? hff))).mono ?_); rintro _ _ ⟨rfl, rfl⟩; (conv => whnf))
        refine rdw ?_; repeat' ((with_reducible apply tw) <;> intro _)
        ((with_reducible refine (clone_ok f.data (hp f (List.mem_of_getElem? hff))).mono ?_); rintro _ _ ⟨rfl, rfl⟩; (conv => whnf))
        refine rdw ?_; repeat' ((with_reducible apply tw) <;> intro _)
        intro b
        conv => whnf
        refine rdw ?_; repeat' ((with_reducible apply tw) <;> intro _)
        refine ⟨none, 3, _, by rw [mfind_ent, new_none hf (fun i hi => by rcases Nat.lt_or_ge i k with h1 | h1; exact hm i h1; rw [show i = k by omega]; exact hm2) hff]; rfl, rfl, ?_⟩
        intro L' hL
        subst hL
        conv => whnf
        refine rdw ?_; repeat' ((with_reducible apply tw) <;> intro _)
        refine ⟨k + 1, fs ++ [⟨f.name, b, f.data, f.data⟩], rfl, ?_, ⟨by omega, fun i hi => ?_, ?_⟩, by omega⟩
        · simp [Dk.L, Fl.ent, mputAt]
        · rcases Nat.lt_or_ge i k with h1 | h1
          · exact hm i h1
          · rw [show i = k by omega]; exact hm2
        · unfold newFl at hf ⊢
          rw [List.map_append, hf, List.take_add_one, hff]
          simp
    · conv => whnf
      refine sp_dec (fun h16 => ?_) (fun h16 => ?_)
      · conv => whnf
        have : mayNew files = false := by unfold mayNew; simp at h16; rw [decide_eq_false (show ¬ files.length ≤ 16 by omega)]; simp
        exact ⟨fun h => by (rw [this] at h; cases h), fun _ => ⟨rfl, rfl⟩⟩
      · conv => whnf
        obtain rfl : k = files.length := by omega
        have : mayNew files = true := by
          unfold mayNew
          simp only [List.length_map] at h16
          rw [decide_eq_true (show files.length ≤ 16 by omega), Bool.and_true, List.all_eq_true]
          intro i hi
          exact hm i (by simpa using hi)
        refine ⟨fun _ => ⟨rfl, fs, rfl, by simpa using hf⟩, fun h => by (rw [this] at h; cases h)⟩
end Go.Proofs.Ytgoejddmglgogaa
namespace Go.Proofs.Ytgoejddmglgogaa
open Go.Ab Go.RowKit Go.MapKept
attribute [local irreducible] ACalls AW ADraw Into fltB fnear
set_option maxRecDepth 100000
theorem copyBytes_ok (xs : List UInt8) (hm : xs.length ≤ 140737488355328) : ACalls Try.prog 23 [.d (.sl 1 (u8s xs))] [] (fun av L => av = .d (.sl 1 (u8s xs)) ∧ L = []) := by
  (refine acalls_go ttOk zOk foOk Try.func23 rfl Try.ntmps23 rfl false rfl ?_); (conv => whnf)
  refine loop_go ttOk zOk foOk (σ := Nat) (fun k => ([(0, .d (.sl 1 (u8s xs))), (3, .arr 0), (4, .d (.int .i64 k))], [.row 5 1 (u8s (xs.take k)) false])) (fun k => k ≤ xs.length) (fun k => xs.length - k) [0, 3, 4] ?_ ?_
  · conv => whnf
    exact ⟨0, rfl, rfl, by omega⟩
  · rintro k hk
    conv => whnf
    ((with_reducible refine mt_dec (fun _ => ?_) (fun _ => ?_)) <;> (conv => whnf))
    · rename_i h
      simp only [u8s_length] at h
      obtain ⟨a, ha⟩ : ∃ a, xs[k]? = some a := ⟨_, List.getElem?_eq_getElem (by omega)⟩
      ((with_reducible refine ix_u8 ha ?_ ?_); (focus (first | rfl | omega)); (conv => whnf))
      refine ⟨by simp [u8s]; omega, ?_⟩
      conv => whnf
      refine rdz ?_; repeat' ((with_reducible apply tw) <;> intro _)
      refine ⟨k + 1, rfl, ?_, by omega, by omega⟩
      rw [List.take_add_one, ha]
      simp [u8s]
    · rename_i h
      simp only [u8s_length] at h
      obtain rfl : k = xs.length := by omega
      exact ⟨by simp, by simp⟩
theorem copyBytes_row (xs : List UInt8) (hm : xs.length ≤ 140737488355328) : ACalls Try.prog 23 [.d (.sl 1 (u8s xs))] [] (fun av L => av = .arr 0 ∧ L = [.row 5 1 (u8s xs) false]) := by
  (refine acalls_go ttOk zOk foOk Try.func23 rfl Try.ntmps23 rfl true rfl ?_); (conv => whnf)
  refine loop_go ttOk zOk foOk (σ := Nat) (fun k => ([(0, .d (.sl 1 (u8s xs))), (3, .arr 0), (4, .d (.int .i64 k))], [.row 5 1 (u8s (xs.take k)) false])) (fun k => k ≤ xs.length) (fun k => xs.length - k) [0, 3, 4] ?_ ?_
  · conv => whnf
    exact ⟨0, rfl, rfl, by omega⟩
  · rintro k hk
    conv => whnf
    ((with_reducible refine mt_dec (fun _ => ?_) (fun _ => ?_)) <;> (conv => whnf))
    · rename_i h
      simp only [u8s_length] at h
      obtain ⟨a, ha⟩ : ∃ a, xs[k]? = some a := ⟨_, List.getElem?_eq_getElem (by omega)⟩
      ((with_reducible refine ix_u8 ha ?_ ?_); (focus (first | rfl | omega)); (conv => whnf))
      refine ⟨by simp [u8s]; omega, ?_⟩
      conv => whnf
      refine rdz ?_; repeat' ((with_reducible apply tw) <;> intro _)
      refine ⟨k + 1, rfl, ?_, by omega, by omega⟩
      rw [List.take_add_one, ha]
      simp [u8s]
    · rename_i h
      simp only [u8s_length] at h
      obtain rfl : k = xs.length := by omega
      exact ⟨by simp, by simp⟩
theorem take_succ_eq {α : Type} {xs ys : List α} {k : Nat} {a b : α} (hx : xs[k]? = some a) (hy : ys[k]? = some b) (h : xs.take k = ys.take k) : xs.take (k + 1) = ys.take (k + 1) ↔ a = b := by
  rw [List.take_add_one, List.take_add_one, h, hx, hy]
  simp only [Option.toList_some, List.append_cancel_left_eq, List.cons.injEq, and_true]
theorem eqBytes_ok (xs ys : List UInt8) (hm : xs.length ≤ 140737488355328) : ACalls Try.prog 22 [.d (.sl 1 (u8s xs)), .d (.sl 1 (u8s ys))] [] (fun av L => av = .d (.bool (xs == ys)) ∧ L = []) := by
  (refine acalls_go ttOk zOk foOk Try.func22 rfl Try.ntmps22 rfl false rfl ?_); (conv => whnf)
  ((with_reducible refine mt_ne (fun _ => ?_) (fun _ => ?_)) <;> (conv => whnf))
  · rename_i h
    simp only [u8s_length] at h
    have : (xs == ys) = false := by rw [beq_eq_false_iff_ne]; intro e; exact h (by rw [e])
    rw [this]; exact ⟨rfl, rfl⟩
  · rename_i h
    simp only [u8s_length] at h
    have hl : xs.length = ys.length := by omega
    refine loop_go ttOk zOk foOk (σ := Nat) (fun k => ([(0, .d (.sl 1 (u8s xs))), (1, .d (.sl 1 (u8s ys))), (5, .d (.int .i64 k))], [])) (fun k => k ≤ xs.length ∧ xs.take k = ys.take k) (fun k => xs.length - k) [0, 1, 5] ?_ ?_
    · conv => whnf
      exact ⟨0, rfl, rfl, by simp⟩
    · rintro k ⟨hk, he⟩
      conv => whnf
      ((with_reducible refine mt_dec (fun _ => ?_) (fun _ => ?_)) <;> (conv => whnf))
      · rename_i h
        simp only [u8s_length] at h
        obtain ⟨a, ha⟩ : ∃ a, xs[k]? = some a := ⟨_, List.getElem?_eq_getElem (by omega)⟩
        obtain ⟨b, hb⟩ : ∃ b, ys[k]? = some b := ⟨_, List.getElem?_eq_getElem (by omega)⟩
        ((with_reducible refine draw_pl ttOk zOk foOk mixedOk pl22x6 ?_ ?_); (focus kernel_rfl); (conv => whnf))
        refine rdw ?_; repeat' ((with_reducible apply tw) <;> intro _)
        ((with_reducible apply rd_intro); (focus (intro K hK; (conv => whnf); exact ix_u8 ha (by first | rfl | omega) hK)); (conv => whnf))
        refine rdw ?_; repeat' ((with_reducible apply tw) <;> intro _)
        ((with_reducible apply rd_intro); (focus (intro K hK; (conv => whnf); exact ix_u8 hb (by first | rfl | omega) hK)); (conv => whnf))
        refine rdw ?_; repeat' ((with_reducible apply tw) <;> intro _)
        · rename_i h
          have h2 : a ≠ b := by intro e; rw [e] at h; exact h rfl
          have : (xs == ys) = false := by rw [beq_eq_false_iff_ne]; intro e; subst e; rw [ha] at hb; cases hb; exact h2 rfl
          rw [this]; exact ⟨rfl, rfl⟩
        · rename_i h
          have h2 : a = b := UInt8.toNat_inj.1 (by omega)
          exact ⟨k + 1, rfl, rfl, ⟨by omega, (take_succ_eq ha hb he).2 h2⟩, by omega⟩
      · rename_i h
        simp only [u8s_length] at h
        obtain rfl : k = xs.length := by omega
        have : (xs == ys) = true := by rw [List.take_length, hl, List.take_length] at he; simp [he]
        rw [this]; exact ⟨rfl, rfl⟩
def FileS.cso (f : FileS) : List DV := [.str f.name, .slo 1 (u8s f.data)]
def filesO (files : List FileS) : DV := .slo 2 (files.map FileS.cso)
theorem clone_okO (xs : List UInt8) (hm : xs.length ≤ 140737488355328) : ACalls Try.prog 17 [.d (.slo 1 (u8s xs))] [] (fun av L => av = .d (.sl 1 (u8s xs)) ∧ L = []) := by
  refine acalls_go ttOk zOk foOk Try.func17 rfl Try.ntmps17 rfl false rfl ?_
  conv => whnf
  intro b hb
  conv => whnf
  refine sp_any (fun h => ?_) (fun h => ?_)
  · conv => whnf
    exact ⟨by rw [hb h], rfl⟩
  · conv => whnf
    refine ⟨by simp [u8s]; omega, ?_⟩
    conv => whnf
    exact ⟨rfl, rfl⟩
theorem bclone_rowO (xs : List UInt8) (hm : xs.length ≤ 140737488355328) : ACalls Try.prog 63 [.d (.slo 1 (u8s xs))] [] (fun av L => av = .arr 0 ∧ L = [.row 5 1 (u8s xs) false]) := by
  (refine acalls_go ttOk zOk foOk Try.func63 rfl Try.ntmps63 rfl true rfl ?_); (conv => whnf)
  intro b hb
  conv => whnf
  refine sp_any (fun h => ?_) (fun h => ?_)
  · conv => whnf
    exact ⟨rfl, by rw [hb h]⟩
  · conv => whnf
    refine ⟨by simp [u8s]; omega, ?_⟩
    conv => whnf
    exact ⟨rfl, rfl⟩
theorem copyBytes_okO (xs : List UInt8) (hm : xs.length ≤ 140737488355328) : ACalls Try.prog 23 [.d (.slo 1 (u8s xs))] [] (fun av L => av = .d (.sl 1 (u8s xs)) ∧ L = []) := by
  (refine acalls_go ttOk zOk foOk Try.func23 rfl Try.ntmps23 rfl false rfl ?_); (conv => whnf)
  refine loop_go ttOk zOk foOk (σ := Nat) (fun k => ([(0, .d (.slo 1 (u8s xs))), (3, .arr 0), (4, .d (.int .i64 k))], [.row 5 1 (u8s (xs.take k)) false])) (fun k => k ≤ xs.length) (fun k => xs.length - k) [0, 3, 4] ?_ ?_
  · conv => whnf
    exact ⟨0, rfl, rfl, by omega⟩
  · rintro k hk
    conv => whnf
    ((with_reducible refine mt_dec (fun _ => ?_) (fun _ => ?_)) <;> (conv => whnf))
    · rename_i h
      simp only [u8s_length] at h
      obtain ⟨a, ha⟩ : ∃ a, xs[k]? = some a := ⟨_, List.getElem?_eq_getElem (by omega)⟩
      ((with_reducible refine ix_u8 ha ?_ ?_); (focus (first | rfl | omega)); (conv => whnf))
      refine ⟨by simp [u8s]; omega, ?_⟩
      conv => whnf
      refine rdw ?_; repeat' ((with_reducible apply tw) <;> intro _)
      refine ⟨k + 1, rfl, ?_, by omega, by omega⟩
      rw [List.take_add_one, ha]
      simp [u8s]
    · rename_i h
      simp only [u8s_length] at h
      obtain rfl : k = xs.length := by omega
      exact ⟨by simp, by simp⟩
theorem copyFile_okO (f : FileS) (hm : f.data.length ≤ 140737488355328) : ACalls Try.prog 15 [.agg [.d (.str f.name), .d (.slo 1 (u8s f.data))]] [] (fun av L => av = .agg [.d (.str f.name), .d (.sl 1 (u8s f.data))] ∧ L = []) := by
  (refine acalls_go ttOk zOk foOk Try.func15 rfl Try.ntmps15 rfl false rfl ?_); (conv => whnf)
  ((with_reducible refine (copyBytes_okO f.data hm).mono ?_); rintro _ _ ⟨rfl, rfl⟩; (conv => whnf))
  refine rdw ?_; repeat' ((with_reducible apply tw) <;> intro _)
  exact ⟨rfl, rfl⟩
theorem copyFiles_okO (l : List FileS) (hl : l.length ≤ 1000000) (hm : ∀ f ∈ l, f.data.length ≤ 140737488355328) : ACalls Try.prog 5 [.d (filesO l)] [] (fun av L => av = .d (.sl 2 (l.map FileS.cs)) ∧ L = []) := by
  (refine acalls_go ttOk zOk foOk Try.func5 rfl Try.ntmps5 rfl false rfl ?_); (conv => whnf)
  refine loop_go ttOk zOk foOk (σ := Nat) (fun k => ([(0, .d (filesO l)), (3, .arr 0), (4, .d (.int .i64 k))], [.row 50 2 ((l.take k).map FileS.cs) false])) (fun k => k ≤ l.length) (fun k => l.length - k) [0, 3, 4] ?_ ?_
  · conv => whnf
    exact ⟨0, rfl, rfl, by omega⟩
  · rintro k hk
    conv => whnf
    ((with_reducible refine mt_dec (fun _ => ?_) (fun _ => ?_)) <;> (conv => whnf))
    · rename_i h
      simp only [List.length_map] at h
      obtain ⟨a, ha⟩ : ∃ a, l[k]? = some a := ⟨_, List.getElem?_eq_getElem (by omega)⟩
      ((with_reducible refine ix_map ha ?_ ?_); (focus (first | rfl | omega)); (conv => whnf))
      ((with_reducible refine (copyFile_okO a (hm a (List.mem_of_getElem? ha))).mono ?_); rintro _ _ ⟨rfl, rfl⟩; (conv => whnf))
      refine rdw ?_; repeat' ((with_reducible apply tw) <;> intro _)
      refine ⟨by simp; omega, ?_⟩
      conv => whnf
      refine rdw ?_; repeat' ((with_reducible apply tw) <;> intro _)
      refine ⟨k + 1, rfl, ?_, by omega, by omega⟩
      rw [List.take_add_one, ha]
      simp [FileS.cs]
    · rename_i h
      simp only [List.length_map] at h
      obtain rfl : k = l.length := by omega
      exact ⟨by simp, rfl⟩
attribute [local irreducible] goodS
theorem new_okO (files : List FileS) (hp : ∀ f ∈ files, f.data.length ≤ 140737488355328) (hl : files.length ≤ 140737488355328) : ACalls Try.prog 6 [.d (filesO files)] [] (fun av L => (mayNew files = true → av = .tup [.ptr 0 0, .d (.int .i64 0)] ∧ ∃ fs, L = (Dk.mk 0 false 0 fs).L ∧ newFl fs files) ∧ (mayNew files = false → av = .tup [.d .nilp, .d (.int .i64 1)] ∧ L = [])) := by
  (refine acalls_go ttOk zOk foOk Try.func6 rfl Try.ntmps6 rfl false rfl ?_); (conv => whnf)
  refine loop_go2 ttOk zOk foOk (σ := Nat) (ρ := List Fl) (fun k fs => ([(0, .d (filesO files)), (4, .ptr 0 0), (10, .d (filesO files)), (11, .d (.int .i64 (files.map FileS.cso).length)), (12, .d (.int .i64 k))], (Dk.mk 0 false 0 fs).L))
    (fun k fs => k ≤ files.length ∧ (∀ i, i < k → mayAt files i = true) ∧ newFl fs (files.take k)) (fun k _ => files.length - k) [0, 4, 10, 11, 12] ?_ ?_
  · conv => whnf
    exact ⟨0, [], rfl, rfl, ⟨by omega, fun i h => by omega, by simp [newFl]⟩⟩
  · rintro k fs ⟨hk, hm, hf⟩
    conv => whnf
    refine sp_dec (fun h => ?_) (fun h => ?_) <;> simp only [List.length_map] at h
    · conv => whnf
      have hkl : k < files.length := by omega
      obtain ⟨f, hff⟩ : ∃ f, files[k]? = some f := ⟨_, List.getElem?_eq_getElem hkl⟩
      have hma := mayAt_eq hff
      ((with_reducible refine ix_map hff ?_ ?_); (focus (first | rfl | omega)); (conv => whnf))
      ((with_reducible refine draw_pl ttOk zOk foOk mixedOk pl6x5 ?_ ?_); (focus kernel_rfl); (conv => whnf))
      ((with_reducible apply rd_intro); (focus (intro K hK; (conv => whnf); first | exact hK | (intro z hz; rw [wrapI (by omega)] at hz; subst hz; exact hK))); (conv => whnf))
      ((with_reducible apply rd_intro); (focus (intro K hK; (conv => whnf); first | exact hK | (intro z hz; rw [wrapI (by omega)] at hz; subst hz; exact hK))); (conv => whnf))
      ((with_reducible refine (good_ok f.name).mono ?_); rintro _ _ ⟨rfl, rfl⟩; (conv => whnf))
      refine rdw ?_; repeat' ((with_reducible apply tw) <;> intro _)
      · exact new_bad hkl (by rw [hma]; simp [*]) rfl rfl
      · rename_i h2
        exact new_bad hkl (by rw [hma]; simp at h2; simp; omega) rfl rfl
      · obtain ⟨g, hgg⟩ : ∃ g, files[k - 1]? = some g := ⟨_, List.getElem?_eq_getElem (by omega)⟩
        rw [prevLess_eq hgg] at hma
        ((with_reducible apply rd_intro); (focus (intro K hK; (conv => whnf); exact ix_map hgg (by first | rfl | omega) hK)); (conv => whnf))
        refine rdw ?_; repeat' ((with_reducible apply tw) <;> intro _)
        · exact new_bad hkl (by rw [hma]; simp [lessS, *]; omega) rfl rfl
        · have hm2 : mayAt files k = true := by rw [hma]; simp at *; simp [lessS, *]; omega
          ((with_reducible refine draw_pl ttOk zOk foOk mixedOk pl6x7 ?_ ?_); (focus kernel_rfl); (conv => whnf))
          refine rdw ?_; repeat' ((with_reducible apply tw) <;> intro _)
          ((with_reducible refine (clone_okO f.data (hp f (List.mem_of_getElem? hff))).mono ?_); rintro _ _ ⟨rfl, rfl⟩; (conv => whnf))
          refine rdw ?_; repeat' ((with_reducible apply tw) <;> intro _)
          ((with_reducible refine (clone_okO f.data (hp f (List.mem_of_getElem? hff))).mono ?_); rintro _ _ ⟨rfl, rfl⟩; (conv => whnf))
          refine rdw ?_; repeat' ((with_reducible apply tw) <;> intro _)
          intro b
          conv => whnf
          refine rdw ?_; repeat' ((with_reducible apply tw) <;> intro _)
          refine ⟨none, 3, _, by rw [mfind_ent, new_none hf (fun i hi => by rcases Nat.lt_or_ge i k with h1 | h1; exact hm i h1; rw [show i = k by omega]; exact hm2) hff]; rfl, rfl, ?_⟩
          intro L' hL
          subst hL
          conv => whnf
          refine rdw ?_; repeat' ((with_reducible apply tw) <;> intro _)
          refine ⟨k + 1, fs ++ [⟨f.name, b, f.data, f.data⟩], rfl, ?_, ⟨by omega, fun i hi => ?_, ?_⟩, by omega⟩
          · simp [Dk.L, Fl.ent, mputAt]
          · rcases Nat.lt_or_ge i k with h1 | h1
            · exact hm i h1
            · rw [show i = k by omega]; exact hm2
          · unfold newFl at hf ⊢
            rw [List.map_append, hf, List.take_add_one, hff]
            simp
      · have hm2 : mayAt files k = true := by rw [hma]; simp at *; simp [*]; omega
        ((with_reducible refine draw_pl ttOk zOk foOk mixedOk pl6x7 ?_ ?_); (focus kernel_rfl); (conv => whnf))
        refine rdw ?_; repeat' ((with_reducible apply tw) <;> intro _)
        ((with_reducible refine (clone_okO f.data (hp f (List.mem_of_getElem? hff))).mono ?_); rintro _ _ ⟨rfl, rfl⟩; (conv => whnf))
        refine rdw ?_; repeat' ((with_reducible apply tw) <;> intro _)
        ((with_reducible refine (clone_okO f.data (hp f (List.mem_of_getElem? hff))).mono ?_); rintro _ _ ⟨rfl, rfl⟩; (conv => whnf))
        refine rdw ?_; repeat' ((with_reducible apply tw) <;> intro _)
        intro b
        conv => whnf
        refine rdw ?_; repeat' ((with_reducible apply tw) <;> intro _)
        refine ⟨none, 3, _, by rw [mfind_ent, new_none hf (fun i hi => by rcases Nat.lt_or_ge i k with h1 | h1; exact hm i h1; rw [show i = k by omega]; exact hm2) hff]; rfl, rfl, ?_⟩
        intro L' hL
        subst hL
        conv => whnf
        refine rdw ?_; repeat' ((with_reducible apply tw) <;> intro _)
        refine ⟨k + 1, fs ++ [⟨f.name, b, f.data, f.data⟩], rfl, ?_, ⟨by omega, fun i hi => ?_, ?_⟩, by omega⟩
        · simp [Dk.L, Fl.ent, mputAt]
        · rcases Nat.lt_or_ge i k with h1 | h1
          · exact hm i h1
          · rw [show i = k by omega]; exact hm2
        · unfold newFl at hf ⊢
          rw [List.map_append, hf, List.take_add_one, hff]
          simp
    · conv => whnf
      refine sp_dec (fun h16 => ?_) (fun h16 => ?_)
      · conv => whnf
        have : mayNew files = false := by unfold mayNew; simp at h16; rw [decide_eq_false (show ¬ files.length ≤ 16 by omega)]; simp
        exact ⟨fun h => by (rw [this] at h; cases h), fun _ => ⟨rfl, rfl⟩⟩
      · conv => whnf
        obtain rfl : k = files.length := by omega
        have : mayNew files = true := by
          unfold mayNew
          simp only [List.length_map] at h16
          rw [decide_eq_true (show files.length ≤ 16 by omega), Bool.and_true, List.all_eq_true]
          intro i hi
          exact hm i (by simpa using hi)
        refine ⟨fun _ => ⟨rfl, fs, rfl, by simpa using hf⟩, fun h => by (rw [this] at h; cases h)⟩
end Go.Proofs.Ytgoejddmglgogaa
