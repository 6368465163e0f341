/- Part of the proof of DiskSafe: the contracts of the functions. -/
import Derived.Test.YtpedbknmkgcldaaDiskSafeCodA
import Derived.Shelf.SlIter.Nil
import Derived.Shelf.SortM.Plain
import Derived.Shelf.SortM.SortNone
import Derived.Ground.GgzProg
import Derived.Ground.SlgmProg
import Derived.Test.YtpedbknmkgcldaaProg

set_option linter.unusedVariables false
set_option linter.unusedSimpArgs false
namespace Go.Proofs.Ytpedbknmkgcldaa
open Go.Ab Go.RowKit Go.MapKept
attribute [local irreducible] ACalls AW ADraw Into
set_option maxRecDepth 100000
theorem read_ok (d : Dk) (hd : d.dat.ok) (n : ByteArray) : ACalls Try.prog 27 [.ptr 0 0, .d (.str n)] d.L (fun av L => av = .tup [.d (.sl 1 (u8s (d.dat.read n).1)), .d (.int .i64 (d.dat.read n).2)] ∧ L = d.L) := by
  refine acalls_go ttOk zOk foOk Try.func27 rfl Try.ntmps27 rfl false rfl ?_
  conv => whnf
  refine ⟨_, mfind_ent n d.fs 0, ?_⟩
  cases hf : findF n d.fs 0 with
  | none =>
    conv => whnf
    ((with_reducible refine (good_ok n).mono ?_); rintro _ _ ⟨rfl, rfl⟩; (conv => whnf))
    repeat' (first | ((with_reducible apply rd_intro); (focus (intro K hK; (conv => whnf); first | exact hK | (intro z hz; rw [wrapI (by omega)] at hz; subst hz; exact hK))); (conv => whnf)) | ((with_reducible apply gd_and); (focus ((conv => whnf); first | rfl | (intro K hK; (conv => whnf); first | exact hK | (intro z hz; rw [wrapI (by omega)] at hz; subst hz; exact hK)))); (conv => whnf)) | ((with_reducible apply z_wrap); (focus omega); (conv => whnf)) | ((with_reducible refine mt_dec (fun _ => ?_) (fun _ => ?_)) <;> (conv => whnf)) | ((with_reducible refine mt_eq (fun _ => ?_) (fun _ => ?_)) <;> (conv => whnf)) | ((with_reducible refine mt_ne (fun _ => ?_) (fun _ => ?_)) <;> (conv => whnf)) | ((with_reducible refine mt_not (fun _ => ?_) (fun _ => ?_)) <;> (conv => whnf)) | ((with_reducible refine mt_any (fun _ => ?_) (fun _ => ?_)) <;> (conv => whnf)))
    · rename_i hg; rw [read_bad hg]; exact ⟨rfl, rfl⟩
    · rename_i hg ho; rw [read_off hg ho]; exact ⟨rfl, rfl⟩
    · rename_i hg ho; rw [read_none hg ho (getN_none hf)]; exact ⟨rfl, rfl⟩
  | some p =>
    obtain ⟨i, f⟩ := p
    conv => whnf
    ((with_reducible refine (good_ok n).mono ?_); rintro _ _ ⟨rfl, rfl⟩; (conv => whnf))
    repeat' (first | ((with_reducible apply rd_intro); (focus (intro K hK; (conv => whnf); first | exact hK | (intro z hz; rw [wrapI (by omega)] at hz; subst hz; exact hK))); (conv => whnf)) | ((with_reducible apply gd_and); (focus ((conv => whnf); first | rfl | (intro K hK; (conv => whnf); first | exact hK | (intro z hz; rw [wrapI (by omega)] at hz; subst hz; exact hK)))); (conv => whnf)) | ((with_reducible apply z_wrap); (focus omega); (conv => whnf)) | ((with_reducible refine mt_dec (fun _ => ?_) (fun _ => ?_)) <;> (conv => whnf)) | ((with_reducible refine mt_eq (fun _ => ?_) (fun _ => ?_)) <;> (conv => whnf)) | ((with_reducible refine mt_ne (fun _ => ?_) (fun _ => ?_)) <;> (conv => whnf)) | ((with_reducible refine mt_not (fun _ => ?_) (fun _ => ?_)) <;> (conv => whnf)) | ((with_reducible refine mt_any (fun _ => ?_) (fun _ => ?_)) <;> (conv => whnf)))
    · rename_i hg; rw [read_bad hg]; exact ⟨rfl, rfl⟩
    · rename_i hg ho; rw [read_off hg ho]; exact ⟨rfl, rfl⟩
    · rename_i hg ho
      rw [read_some hg ho (getN_some hf)]
      refine ⟨f.cs, box_at (findF_mem hf), ?_⟩
      have hs : f.seen.length ≤ 1048576 := (hd.len f.dat (mem_getN (getN_some hf))).1
      conv => whnf
      repeat' (first | ((with_reducible apply rd_intro); (focus (intro K hK; (conv => whnf); first | exact hK | (intro z hz; rw [wrapI (by omega)] at hz; subst hz; exact hK))); (conv => whnf)) | ((with_reducible apply gd_and); (focus ((conv => whnf); first | rfl | (intro K hK; (conv => whnf); first | exact hK | (intro z hz; rw [wrapI (by omega)] at hz; subst hz; exact hK)))); (conv => whnf)) | ((with_reducible apply z_wrap); (focus omega); (conv => whnf)) | ((with_reducible refine mt_dec (fun _ => ?_) (fun _ => ?_)) <;> (conv => whnf)) | ((with_reducible refine mt_eq (fun _ => ?_) (fun _ => ?_)) <;> (conv => whnf)) | ((with_reducible refine mt_ne (fun _ => ?_) (fun _ => ?_)) <;> (conv => whnf)) | ((with_reducible refine mt_not (fun _ => ?_) (fun _ => ?_)) <;> (conv => whnf)) | ((with_reducible refine mt_any (fun _ => ?_) (fun _ => ?_)) <;> (conv => whnf)))
      first
      | (refine (clone_ok f.seen (by omega)).mono ?_
         rintro _ _ ⟨rfl, rfl⟩
         conv => whnf
         exact ⟨rfl, rfl⟩)
      | (refine (clone_row f.seen (by omega)).mono ?_
         rintro _ _ ⟨rfl, rfl⟩
         conv => whnf
         exact ⟨rfl, rfl⟩)
theorem read_row (d : Dk) (hd : d.dat.ok) (n : ByteArray) : ACalls Try.prog 27 [.ptr 0 0, .d (.str n)] d.L (fun av L => av = .tup [.arr 2, .d (.int .i64 (d.dat.read n).2)] ∧ L = d.L ++ [.row 5 1 (u8s (d.dat.read n).1) false]) := by
  refine acalls_go ttOk zOk foOk Try.func27 rfl Try.ntmps27 rfl true rfl ?_
  conv => whnf
  refine ⟨_, mfind_ent n d.fs 0, ?_⟩
  cases hf : findF n d.fs 0 with
  | none =>
    conv => whnf
    ((with_reducible refine (good_ok n).mono ?_); rintro _ _ ⟨rfl, rfl⟩; (conv => whnf))
    repeat' (first | ((with_reducible apply rd_intro); (focus (intro K hK; (conv => whnf); first | exact hK | (intro z hz; rw [wrapI (by omega)] at hz; subst hz; exact hK))); (conv => whnf)) | ((with_reducible apply gd_and); (focus ((conv => whnf); first | rfl | (intro K hK; (conv => whnf); first | exact hK | (intro z hz; rw [wrapI (by omega)] at hz; subst hz; exact hK)))); (conv => whnf)) | ((with_reducible apply z_wrap); (focus omega); (conv => whnf)) | ((with_reducible refine mt_dec (fun _ => ?_) (fun _ => ?_)) <;> (conv => whnf)) | ((with_reducible refine mt_eq (fun _ => ?_) (fun _ => ?_)) <;> (conv => whnf)) | ((with_reducible refine mt_ne (fun _ => ?_) (fun _ => ?_)) <;> (conv => whnf)) | ((with_reducible refine mt_not (fun _ => ?_) (fun _ => ?_)) <;> (conv => whnf)) | ((with_reducible refine mt_any (fun _ => ?_) (fun _ => ?_)) <;> (conv => whnf)))
    · rename_i hg; rw [read_bad hg]; exact ⟨rfl, rfl⟩
    · rename_i hg ho; rw [read_off hg ho]; exact ⟨rfl, rfl⟩
    · rename_i hg ho; rw [read_none hg ho (getN_none hf)]; exact ⟨rfl, rfl⟩
  | some p =>
    obtain ⟨i, f⟩ := p
    conv => whnf
    ((with_reducible refine (good_ok n).mono ?_); rintro _ _ ⟨rfl, rfl⟩; (conv => whnf))
    repeat' (first | ((with_reducible apply rd_intro); (focus (intro K hK; (conv => whnf); first | exact hK | (intro z hz; rw [wrapI (by omega)] at hz; subst hz; exact hK))); (conv => whnf)) | ((with_reducible apply gd_and); (focus ((conv => whnf); first | rfl | (intro K hK; (conv => whnf); first | exact hK | (intro z hz; rw [wrapI (by omega)] at hz; subst hz; exact hK)))); (conv => whnf)) | ((with_reducible apply z_wrap); (focus omega); (conv => whnf)) | ((with_reducible refine mt_dec (fun _ => ?_) (fun _ => ?_)) <;> (conv => whnf)) | ((with_reducible refine mt_eq (fun _ => ?_) (fun _ => ?_)) <;> (conv => whnf)) | ((with_reducible refine mt_ne (fun _ => ?_) (fun _ => ?_)) <;> (conv => whnf)) | ((with_reducible refine mt_not (fun _ => ?_) (fun _ => ?_)) <;> (conv => whnf)) | ((with_reducible refine mt_any (fun _ => ?_) (fun _ => ?_)) <;> (conv => whnf)))
    · rename_i hg; rw [read_bad hg]; exact ⟨rfl, rfl⟩
    · rename_i hg ho; rw [read_off hg ho]; exact ⟨rfl, rfl⟩
    · rename_i hg ho
      rw [read_some hg ho (getN_some hf)]
      refine ⟨f.cs, box_at (findF_mem hf), ?_⟩
      have hs : f.seen.length ≤ 1048576 := (hd.len f.dat (mem_getN (getN_some hf))).1
      conv => whnf
      repeat' (first | ((with_reducible apply rd_intro); (focus (intro K hK; (conv => whnf); first | exact hK | (intro z hz; rw [wrapI (by omega)] at hz; subst hz; exact hK))); (conv => whnf)) | ((with_reducible apply gd_and); (focus ((conv => whnf); first | rfl | (intro K hK; (conv => whnf); first | exact hK | (intro z hz; rw [wrapI (by omega)] at hz; subst hz; exact hK)))); (conv => whnf)) | ((with_reducible apply z_wrap); (focus omega); (conv => whnf)) | ((with_reducible refine mt_dec (fun _ => ?_) (fun _ => ?_)) <;> (conv => whnf)) | ((with_reducible refine mt_eq (fun _ => ?_) (fun _ => ?_)) <;> (conv => whnf)) | ((with_reducible refine mt_ne (fun _ => ?_) (fun _ => ?_)) <;> (conv => whnf)) | ((with_reducible refine mt_not (fun _ => ?_) (fun _ => ?_)) <;> (conv => whnf)) | ((with_reducible refine mt_any (fun _ => ?_) (fun _ => ?_)) <;> (conv => whnf)))
      first
      | (refine (clone_ok f.seen (by omega)).mono ?_
         rintro _ _ ⟨rfl, rfl⟩
         conv => whnf
         exact ⟨rfl, rfl⟩)
      | (refine (clone_row f.seen (by omega)).mono ?_
         rintro _ _ ⟨rfl, rfl⟩
         conv => whnf
         exact ⟨rfl, rfl⟩)
end Go.Proofs.Ytpedbknmkgcldaa

namespace Go.Proofs.Ytpedbknmkgcldaa
open Go.Ab Go.RowKit Go.MapKept
attribute [local irreducible] ACalls AW ADraw Into
set_option maxRecDepth 100000
theorem take_succ_eq {α : Type} {xs ys : List α} {k : Nat} {a b : α} (hx : xs[k]? = some a) (hy : ys[k]? = some b) (h : xs.take k = ys.take k) : xs.take (k + 1) = ys.take (k + 1) ↔ a = b := by
  rw [List.take_add_one, List.take_add_one, h, hx, hy]
  simp only [Option.toList_some, List.append_cancel_left_eq, List.cons.injEq, and_true]
theorem eqBytes_ok (xs ys : List UInt8) (hm : xs.length ≤ 140737488355328) : ACalls Try.prog 31 [.d (.sl 1 (u8s xs)), .d (.sl 1 (u8s ys))] [] (fun av L => av = .d (.bool (xs == ys)) ∧ L = []) := by
  refine acalls_go ttOk zOk foOk Try.func31 rfl Try.ntmps31 rfl false rfl ?_
  conv => whnf
  ((with_reducible refine mt_ne (fun _ => ?_) (fun _ => ?_)) <;> (conv => whnf))
  · rename_i h
    simp only [u8s_length] at h
    have : (xs == ys) = false := by rw [beq_eq_false_iff_ne]; intro e; exact h (by rw [e])
    rw [this]; exact ⟨rfl, rfl⟩
  · rename_i h
    simp only [u8s_length] at h
    have hl : xs.length = ys.length := by omega
    refine loop_go ttOk zOk foOk (σ := Nat) (fun k => ([(0, .d (.sl 1 (u8s xs))), (1, .d (.sl 1 (u8s ys))), (5, .d (.int .i64 k))], [])) (fun k => k ≤ xs.length ∧ xs.take k = ys.take k) (fun k => xs.length - k) [0, 1, 5] ?_ ?_
    · conv => whnf
      exact ⟨0, rfl, rfl, by simp⟩
    · rintro k ⟨hk, he⟩
      conv => whnf
      ((with_reducible refine mt_dec (fun _ => ?_) (fun _ => ?_)) <;> (conv => whnf))
      · rename_i h
        simp only [u8s_length] at h
        obtain ⟨a, ha⟩ : ∃ a, xs[k]? = some a := ⟨_, List.getElem?_eq_getElem (by omega)⟩
        obtain ⟨b, hb⟩ : ∃ b, ys[k]? = some b := ⟨_, List.getElem?_eq_getElem (by omega)⟩
        ((with_reducible refine draw_pl ttOk zOk foOk mixedOk pl31x6 ?_ ?_); (focus kernel_rfl); (conv => whnf))
        repeat' (first | ((with_reducible apply rd_intro); (focus (intro K hK; (conv => whnf); first | exact hK | (intro z hz; rw [wrapI (by omega)] at hz; subst hz; exact hK))); (conv => whnf)) | ((with_reducible apply gd_and); (focus ((conv => whnf); first | rfl | (intro K hK; (conv => whnf); first | exact hK | (intro z hz; rw [wrapI (by omega)] at hz; subst hz; exact hK)))); (conv => whnf)) | ((with_reducible apply z_wrap); (focus omega); (conv => whnf)) | ((with_reducible refine mt_dec (fun _ => ?_) (fun _ => ?_)) <;> (conv => whnf)) | ((with_reducible refine mt_eq (fun _ => ?_) (fun _ => ?_)) <;> (conv => whnf)) | ((with_reducible refine mt_ne (fun _ => ?_) (fun _ => ?_)) <;> (conv => whnf)) | ((with_reducible refine mt_not (fun _ => ?_) (fun _ => ?_)) <;> (conv => whnf)) | ((with_reducible refine mt_any (fun _ => ?_) (fun _ => ?_)) <;> (conv => whnf)))
        ((with_reducible apply rd_intro); (focus (intro K hK; (conv => whnf); exact ix_u8 ha (by first | rfl | omega) hK)); (conv => whnf))
        repeat' (first | ((with_reducible apply rd_intro); (focus (intro K hK; (conv => whnf); first | exact hK | (intro z hz; rw [wrapI (by omega)] at hz; subst hz; exact hK))); (conv => whnf)) | ((with_reducible apply gd_and); (focus ((conv => whnf); first | rfl | (intro K hK; (conv => whnf); first | exact hK | (intro z hz; rw [wrapI (by omega)] at hz; subst hz; exact hK)))); (conv => whnf)) | ((with_reducible apply z_wrap); (focus omega); (conv => whnf)) | ((with_reducible refine mt_dec (fun _ => ?_) (fun _ => ?_)) <;> (conv => whnf)) | ((with_reducible refine mt_eq (fun _ => ?_) (fun _ => ?_)) <;> (conv => whnf)) | ((with_reducible refine mt_ne (fun _ => ?_) (fun _ => ?_)) <;> (conv => whnf)) | ((with_reducible refine mt_not (fun _ => ?_) (fun _ => ?_)) <;> (conv => whnf)) | ((with_reducible refine mt_any (fun _ => ?_) (fun _ => ?_)) <;> (conv => whnf)))
        ((with_reducible apply rd_intro); (focus (intro K hK; (conv => whnf); exact ix_u8 hb (by first | rfl | omega) hK)); (conv => whnf))
        repeat' (first | ((with_reducible apply rd_intro); (focus (intro K hK; (conv => whnf); first | exact hK | (intro z hz; rw [wrapI (by omega)] at hz; subst hz; exact hK))); (conv => whnf)) | ((with_reducible apply gd_and); (focus ((conv => whnf); first | rfl | (intro K hK; (conv => whnf); first | exact hK | (intro z hz; rw [wrapI (by omega)] at hz; subst hz; exact hK)))); (conv => whnf)) | ((with_reducible apply z_wrap); (focus omega); (conv => whnf)) | ((with_reducible refine mt_dec (fun _ => ?_) (fun _ => ?_)) <;> (conv => whnf)) | ((with_reducible refine mt_eq (fun _ => ?_) (fun _ => ?_)) <;> (conv => whnf)) | ((with_reducible refine mt_ne (fun _ => ?_) (fun _ => ?_)) <;> (conv => whnf)) | ((with_reducible refine mt_not (fun _ => ?_) (fun _ => ?_)) <;> (conv => whnf)) | ((with_reducible refine mt_any (fun _ => ?_) (fun _ => ?_)) <;> (conv => whnf)))
        · rename_i h
          have h2 : a ≠ b := by intro e; rw [e] at h; exact h rfl
          have : (xs == ys) = false := by rw [beq_eq_false_iff_ne]; intro e; subst e; rw [ha] at hb; cases hb; exact h2 rfl
          rw [this]; exact ⟨rfl, rfl⟩
        · rename_i h
          have h2 : a = b := UInt8.toNat_inj.1 (by omega)
          exact ⟨k + 1, rfl, rfl, ⟨by omega, (take_succ_eq ha hb he).2 h2⟩, by omega⟩
      · rename_i h
        simp only [u8s_length] at h
        obtain rfl : k = xs.length := by omega
        have : (xs == ys) = true := by rw [List.take_length, hl, List.take_length] at he; simp [he]
        rw [this]; exact ⟨rfl, rfl⟩
end Go.Proofs.Ytpedbknmkgcldaa

namespace Go.Proofs.Ytpedbknmkgcldaa
open Go.Ab Go.RowKit Go.MapKept
attribute [local irreducible] ACalls AW ADraw Into
set_option maxRecDepth 100000
theorem new_nil : mayNew [] = true := by decide
theorem wakes9_ok : ACalls Try.prog 20 [] [] (fun av L => av = .d (.bool true) ∧ L = []) := by
  refine acalls_go ttOk zOk foOk Try.func20 rfl Try.ntmps20 rfl false rfl ?_
  conv => whnf
  refine (new_ok [] (by simp) (by simp)).mono ?_
  rintro _ _ ⟨h, _⟩
  obtain ⟨rfl, fs, rfl, hfs⟩ := h new_nil
  have : fs = [] := by simpa [newFl] using hfs
  subst this
  conv => whnf
  clear h hfs
  ((with_reducible refine (num9_ok 0).mono ?_); rintro _ _ ⟨rfl, rfl⟩; (conv => whnf))
  repeat' (first | ((with_reducible apply rd_intro); (focus (intro K hK; (conv => whnf); first | exact hK | (intro z hz; rw [wrapI (by omega)] at hz; subst hz; exact hK))); (conv => whnf)) | ((with_reducible apply gd_and); (focus ((conv => whnf); first | rfl | (intro K hK; (conv => whnf); first | exact hK | (intro z hz; rw [wrapI (by omega)] at hz; subst hz; exact hK)))); (conv => whnf)) | ((with_reducible apply z_wrap); (focus omega); (conv => whnf)) | ((with_reducible refine mt_dec (fun _ => ?_) (fun _ => ?_)) <;> (conv => whnf)) | ((with_reducible refine mt_eq (fun _ => ?_) (fun _ => ?_)) <;> (conv => whnf)) | ((with_reducible refine mt_ne (fun _ => ?_) (fun _ => ?_)) <;> (conv => whnf)) | ((with_reducible refine mt_not (fun _ => ?_) (fun _ => ?_)) <;> (conv => whnf)) | ((with_reducible refine mt_any (fun _ => ?_) (fun _ => ?_)) <;> (conv => whnf)))
  refine ⟨by simp, ?_⟩
  conv => whnf
  repeat' (first | ((with_reducible apply rd_intro); (focus (intro K hK; (conv => whnf); first | exact hK | (intro z hz; rw [wrapI (by omega)] at hz; subst hz; exact hK))); (conv => whnf)) | ((with_reducible apply gd_and); (focus ((conv => whnf); first | rfl | (intro K hK; (conv => whnf); first | exact hK | (intro z hz; rw [wrapI (by omega)] at hz; subst hz; exact hK)))); (conv => whnf)) | ((with_reducible apply z_wrap); (focus omega); (conv => whnf)) | ((with_reducible refine mt_dec (fun _ => ?_) (fun _ => ?_)) <;> (conv => whnf)) | ((with_reducible refine mt_eq (fun _ => ?_) (fun _ => ?_)) <;> (conv => whnf)) | ((with_reducible refine mt_ne (fun _ => ?_) (fun _ => ?_)) <;> (conv => whnf)) | ((with_reducible refine mt_not (fun _ => ?_) (fun _ => ?_)) <;> (conv => whnf)) | ((with_reducible refine mt_any (fun _ => ?_) (fun _ => ?_)) <;> (conv => whnf)))
  refine (append_ok (Dk.mk 0 false 0 []) ⟨by simp [Dk.dat]⟩ ⟨#[97]⟩ [97, 98, 99] (by simp)).mono ?_
  rintro _ _ ⟨d', rfl, rfl, hd'⟩
  rw [show (Dk.mk 0 false 0 []).dat.append ⟨#[97]⟩ [97, 98, 99] = (0, ⟨1, false, 0, [⟨⟨#[97]⟩, [], [97, 98, 99]⟩]⟩) by rfl] at hd' ⊢
  conv => whnf
  ((with_reducible refine (num9_ok 0).mono ?_); rintro _ _ ⟨rfl, rfl⟩; (conv => whnf))
  repeat' (first | ((with_reducible apply rd_intro); (focus (intro K hK; (conv => whnf); first | exact hK | (intro z hz; rw [wrapI (by omega)] at hz; subst hz; exact hK))); (conv => whnf)) | ((with_reducible apply gd_and); (focus ((conv => whnf); first | rfl | (intro K hK; (conv => whnf); first | exact hK | (intro z hz; rw [wrapI (by omega)] at hz; subst hz; exact hK)))); (conv => whnf)) | ((with_reducible apply z_wrap); (focus omega); (conv => whnf)) | ((with_reducible refine mt_dec (fun _ => ?_) (fun _ => ?_)) <;> (conv => whnf)) | ((with_reducible refine mt_eq (fun _ => ?_) (fun _ => ?_)) <;> (conv => whnf)) | ((with_reducible refine mt_ne (fun _ => ?_) (fun _ => ?_)) <;> (conv => whnf)) | ((with_reducible refine mt_not (fun _ => ?_) (fun _ => ?_)) <;> (conv => whnf)) | ((with_reducible refine mt_any (fun _ => ?_) (fun _ => ?_)) <;> (conv => whnf)))
  have hrd : d'.dat.read ⟨#[97]⟩ = ([97, 98, 99], 0) := by rw [hd']; rfl
  refine (read_ok d' (by rw [hd']; exact ⟨by simp⟩) ⟨#[97]⟩).mono ?_
  rintro _ _ ⟨rfl, rfl⟩
  rw [hrd]
  conv => whnf
  ((with_reducible refine (num9_ok 0).mono ?_); rintro _ _ ⟨rfl, rfl⟩; (conv => whnf))
  repeat' (first | ((with_reducible apply rd_intro); (focus (intro K hK; (conv => whnf); first | exact hK | (intro z hz; rw [wrapI (by omega)] at hz; subst hz; exact hK))); (conv => whnf)) | ((with_reducible apply gd_and); (focus ((conv => whnf); first | rfl | (intro K hK; (conv => whnf); first | exact hK | (intro z hz; rw [wrapI (by omega)] at hz; subst hz; exact hK)))); (conv => whnf)) | ((with_reducible apply z_wrap); (focus omega); (conv => whnf)) | ((with_reducible refine mt_dec (fun _ => ?_) (fun _ => ?_)) <;> (conv => whnf)) | ((with_reducible refine mt_eq (fun _ => ?_) (fun _ => ?_)) <;> (conv => whnf)) | ((with_reducible refine mt_ne (fun _ => ?_) (fun _ => ?_)) <;> (conv => whnf)) | ((with_reducible refine mt_not (fun _ => ?_) (fun _ => ?_)) <;> (conv => whnf)) | ((with_reducible refine mt_any (fun _ => ?_) (fun _ => ?_)) <;> (conv => whnf)))
  refine ⟨by simp, ?_⟩
  conv => whnf
  repeat' (first | ((with_reducible apply rd_intro); (focus (intro K hK; (conv => whnf); first | exact hK | (intro z hz; rw [wrapI (by omega)] at hz; subst hz; exact hK))); (conv => whnf)) | ((with_reducible apply gd_and); (focus ((conv => whnf); first | rfl | (intro K hK; (conv => whnf); first | exact hK | (intro z hz; rw [wrapI (by omega)] at hz; subst hz; exact hK)))); (conv => whnf)) | ((with_reducible apply z_wrap); (focus omega); (conv => whnf)) | ((with_reducible refine mt_dec (fun _ => ?_) (fun _ => ?_)) <;> (conv => whnf)) | ((with_reducible refine mt_eq (fun _ => ?_) (fun _ => ?_)) <;> (conv => whnf)) | ((with_reducible refine mt_ne (fun _ => ?_) (fun _ => ?_)) <;> (conv => whnf)) | ((with_reducible refine mt_not (fun _ => ?_) (fun _ => ?_)) <;> (conv => whnf)) | ((with_reducible refine mt_any (fun _ => ?_) (fun _ => ?_)) <;> (conv => whnf)))
  refine (eqBytes_ok [97, 98, 99] [97, 98, 99] (by simp)).mono ?_
  rintro _ _ ⟨rfl, rfl⟩
  conv => whnf
  exact ⟨rfl, rfl⟩
end Go.Proofs.Ytpedbknmkgcldaa

/-
  DERIVED: THE SHELF's CONTRACTS AT THIS DUMP, IN PLAIN WORDS (tools/lay-plain.mjs out of 'TrySortedShelf.lean', which tools/lay-shelf.mjs wrote): THE SAME DECLARATIONS UNDER THE SAME NAMES: 'import', 'namespace', 'open', 'def', 'theorem' AND NOTHING ELSE: no command of the shelf's: FOR A HAND-IN. Each laying: the table of numbers ('.._ren') and one theorem, a field a fact of the dump's own or the kernel's comparison; each contract: ONE APPLICATION.
-/
namespace Go.Proofs
open Go.Shelf
def Try.keys70_ren : Go.Shelf.Ren := ⟨fun | 7 => 70 | 10 => 105 | n => n, fun | 23 => 58 | 26 => 9 | 3 => 105 | 28 => 112 | 0 => 0 | 27 => 111 | 33 => 38 | 4 => 4 | n => n, fun | n => n⟩
theorem Try.keys70 : Go.Proofs.SlLaysZ.n7 Try.prog Try.keys70_ren := {
  mixed := by kernel_rfl
  f7 := ⟨Try.f70.name, by decide, Try.func70.trans (congrArg some (by kernel_rfl))⟩
  f10 := ⟨Try.f105.name, by decide, Try.func105.trans (congrArg some (by kernel_rfl))⟩
  t0 := Try.underlying0
  a0 := Try.isAgg0
  z0 := Try.sizeOf0
  v0 := Try.zeroValue0
  t4 := Try.underlying4
  a4 := Try.isAgg4
  z4 := Try.sizeOf4
  v4 := Try.zeroValue4
  t23 := Try.underlying58
  a23 := Try.isAgg58
  z23 := Try.sizeOf58
  v23 := Try.zeroValue58
  t26 := Try.underlying9
  a26 := Try.isAgg9
  z26 := Try.sizeOf9
  v26 := Try.zeroValue9
  t27 := Try.underlying111
  a27 := Try.isAgg111
  z27 := Try.sizeOf111
  v27 := Try.zeroValue111
  t28 := Try.underlying112
  a28 := Try.isAgg112
  z28 := Try.sizeOf112
  v28 := Try.zeroValue112
  t33 := Try.underlying38
  a33 := Try.isAgg38
  z33 := Try.sizeOf38
  v33 := Try.zeroValue38 }
def Try.sorted69_ren : Go.Shelf.Ren := ⟨fun | 6 => 69 | 8 => 103 | 9 => 104 | 11 => 120 | 13 => 122 | 12 => 121 | 23 => 133 | 24 => 134 | 14 => 124 | 15 => 125 | 16 => 126 | 17 => 127 | 18 => 128 | 19 => 129 | 20 => 130 | 21 => 131 | 22 => 132 | 25 => 135 | 26 => 136 | 27 => 137 | 28 => 138 | 29 => 139 | 30 => 140 | 31 => 141 | n => n, fun | 26 => 9 | 28 => 112 | 24 => 46 | 0 => 0 | 3 => 3 | 37 => 118 | 48 => 158 | 50 => 176 | 4 => 4 | 40 => 168 | 39 => 167 | 45 => 102 | 5 => 5 | 9 => 9 | 51 => 177 | 55 => 181 | 57 => 183 | 58 => 114 | 33 => 38 | n => n, fun | n => n⟩
theorem Try.sorted69 : Go.Proofs.SlLaysZ.n6 Try.prog Try.sorted69_ren := {
  mixed := by kernel_rfl
  f6 := ⟨Try.f69.name, by decide, Try.func69.trans (congrArg some (by kernel_rfl))⟩
  f8 := ⟨Try.f103.name, by decide, Try.func103.trans (congrArg some (by kernel_rfl))⟩
  f11 := ⟨Try.f120.name, by decide, Try.func120.trans (congrArg some (by kernel_rfl))⟩
  t0 := Try.underlying0
  a0 := Try.isAgg0
  z0 := Try.sizeOf0
  v0 := Try.zeroValue0
  t24 := Try.underlying46
  a24 := Try.isAgg46
  z24 := Try.sizeOf46
  v24 := Try.zeroValue46
  t26 := Try.underlying9
  a26 := Try.isAgg9
  z26 := Try.sizeOf9
  v26 := Try.zeroValue9
  t28 := Try.underlying112
  a28 := Try.isAgg112
  z28 := Try.sizeOf112
  v28 := Try.zeroValue112
  i26 := by kernel_rfl }
def Try.sort104_ren : Go.Shelf.Ren := ⟨fun | 6 => 104 | 8 => 122 | 9 => 121 | 19 => 133 | 20 => 134 | 21 => 124 | 22 => 125 | 23 => 126 | 24 => 127 | 25 => 128 | 26 => 129 | 27 => 130 | 28 => 131 | 29 => 132 | 36 => 135 | 31 => 136 | 32 => 137 | 37 => 138 | 38 => 139 | 39 => 140 | 41 => 141 | n => n, fun | 27 => 46 | 29 => 9 | 3 => 3 | 32 => 118 | 26 => 46 | 0 => 0 | 44 => 158 | 46 => 176 | 4 => 4 | 36 => 168 | 35 => 167 | 41 => 102 | 5 => 5 | 9 => 9 | 53 => 177 | 57 => 181 | 63 => 183 | 64 => 114 | n => n, fun | n => n⟩
theorem Try.sort104 : Go.Proofs.SlLaysM.n6 Try.prog Try.sort104_ren := {
  mixed := by kernel_rfl
  f6 := ⟨Try.f104.name, by decide, Try.func104.trans (congrArg some (by kernel_rfl))⟩
  f8 := Try.func122.trans (congrArg some (by kernel_rfl))
  f9 := ⟨Try.f121.name, by decide, Try.func121.trans (congrArg some (by kernel_rfl))⟩
  f19 := Try.func133.trans (congrArg some (by kernel_rfl))
  f20 := Try.func134.trans (congrArg some (by kernel_rfl))
  f21 := ⟨Try.f124.name, by decide, Try.func124.trans (congrArg some (by kernel_rfl))⟩
  f22 := ⟨Try.f125.name, by decide, Try.func125.trans (congrArg some (by kernel_rfl))⟩
  f23 := ⟨Try.f126.name, by decide, Try.func126.trans (congrArg some (by kernel_rfl))⟩
  f24 := ⟨Try.f127.name, by decide, Try.func127.trans (congrArg some (by kernel_rfl))⟩
  f25 := ⟨Try.f128.name, by decide, Try.func128.trans (congrArg some (by kernel_rfl))⟩
  f26 := ⟨Try.f129.name, by decide, Try.func129.trans (congrArg some (by kernel_rfl))⟩
  f27 := ⟨Try.f130.name, by decide, Try.func130.trans (congrArg some (by kernel_rfl))⟩
  f28 := ⟨Try.f131.name, by decide, Try.func131.trans (congrArg some (by kernel_rfl))⟩
  f29 := ⟨Try.f132.name, by decide, Try.func132.trans (congrArg some (by kernel_rfl))⟩
  f31 := Try.func136.trans (congrArg some (by kernel_rfl))
  f32 := Try.func137.trans (congrArg some (by kernel_rfl))
  f36 := ⟨Try.f135.name, by decide, Try.func135.trans (congrArg some (by kernel_rfl))⟩
  f37 := ⟨Try.f138.name, by decide, Try.func138.trans (congrArg some (by kernel_rfl))⟩
  f38 := ⟨Try.f139.name, by decide, Try.func139.trans (congrArg some (by kernel_rfl))⟩
  f39 := ⟨Try.f140.name, by decide, Try.func140.trans (congrArg some (by kernel_rfl))⟩
  f41 := ⟨Try.f141.name, by decide, Try.func141.trans (congrArg some (by kernel_rfl))⟩
  t0 := Try.underlying0
  a0 := Try.isAgg0
  z0 := Try.sizeOf0
  v0 := Try.zeroValue0
  t3 := Try.underlying3
  a3 := Try.isAgg3
  z3 := Try.sizeOf3
  v3 := Try.zeroValue3
  t4 := Try.underlying4
  a4 := Try.isAgg4
  z4 := Try.sizeOf4
  v4 := Try.zeroValue4
  t5 := Try.underlying5
  a5 := Try.isAgg5
  z5 := Try.sizeOf5
  v5 := Try.zeroValue5
  t9 := Try.underlying9
  a9 := Try.isAgg9
  z9 := Try.sizeOf9
  v9 := Try.zeroValue9
  t26 := Try.underlying46
  a26 := Try.isAgg46
  z26 := Try.sizeOf46
  v26 := Try.zeroValue46
  t27 := Try.underlying46
  a27 := Try.isAgg46
  z27 := Try.sizeOf46
  v27 := Try.zeroValue46
  t29 := Try.underlying9
  a29 := Try.isAgg9
  z29 := Try.sizeOf9
  v29 := Try.zeroValue9
  t32 := Try.underlying118
  a32 := Try.isAgg118
  z32 := Try.sizeOf118
  v32 := Try.zeroValue118
  t35 := Try.underlying167
  a35 := Try.isAgg167
  z35 := Try.sizeOf167
  v35 := Try.zeroValue167
  t36 := Try.underlying168
  a36 := Try.isAgg168
  z36 := Try.sizeOf168
  v36 := Try.zeroValue168
  t41 := Try.underlying102
  a41 := Try.isAgg102
  z41 := Try.sizeOf102
  v41 := Try.zeroValue102
  t44 := Try.underlying158
  a44 := Try.isAgg158
  z44 := Try.sizeOf158
  v44 := Try.zeroValue158
  t46 := Try.underlying176
  a46 := Try.isAgg176
  z46 := Try.sizeOf176
  v46 := Try.zeroValue176
  t53 := Try.underlying177
  a53 := Try.isAgg177
  z53 := Try.sizeOf177
  v53 := Try.zeroValue177
  t57 := Try.underlying181
  a57 := Try.isAgg181
  z57 := Try.sizeOf181
  v57 := Try.zeroValue181
  t63 := Try.underlying183
  a63 := Try.isAgg183
  z63 := Try.sizeOf183
  v63 := Try.zeroValue183
  t64 := Try.underlying114
  a64 := Try.isAgg114
  z64 := Try.sizeOf114
  v64 := Try.zeroValue114 }
def Try.keys99_ren : Go.Shelf.Ren := ⟨fun | 7 => 99 | 10 => 119 | n => n, fun | 23 => 142 | 26 => 9 | 3 => 9 | 28 => 112 | 0 => 0 | 27 => 111 | 33 => 38 | 4 => 4 | n => n, fun | n => n⟩
theorem Try.keys99 : Go.Proofs.SlLaysZ.n7 Try.prog Try.keys99_ren := {
  mixed := by kernel_rfl
  f7 := ⟨Try.f99.name, by decide, Try.func99.trans (congrArg some (by kernel_rfl))⟩
  f10 := ⟨Try.f119.name, by decide, Try.func119.trans (congrArg some (by kernel_rfl))⟩
  t0 := Try.underlying0
  a0 := Try.isAgg0
  z0 := Try.sizeOf0
  v0 := Try.zeroValue0
  t4 := Try.underlying4
  a4 := Try.isAgg4
  z4 := Try.sizeOf4
  v4 := Try.zeroValue4
  t23 := Try.underlying142
  a23 := Try.isAgg142
  z23 := Try.sizeOf142
  v23 := Try.zeroValue142
  t26 := Try.underlying9
  a26 := Try.isAgg9
  z26 := Try.sizeOf9
  v26 := Try.zeroValue9
  t27 := Try.underlying111
  a27 := Try.isAgg111
  z27 := Try.sizeOf111
  v27 := Try.zeroValue111
  t28 := Try.underlying112
  a28 := Try.isAgg112
  z28 := Try.sizeOf112
  v28 := Try.zeroValue112
  t33 := Try.underlying38
  a33 := Try.isAgg38
  z33 := Try.sizeOf38
  v33 := Try.zeroValue38 }
open Go.RowKit Go.Maps Go.Sort in
theorem Try.sorts69 (m : Nat) : AnyZ.SortsIn Try.prog Try.sorted69_ren Fence.wide m :=
  ⟨fun blk off cap ss W hH hblk hsz => callsIn_wide.2 (AnyM.slices_Sort_string Try.sort104 blk off cap ss W hH hblk hsz),
   fun p cap W => callsIn_wide.2 (AnyM.slices_Sort_string_none Try.sort104 p cap W)⟩
open Go.RowKit Go.Maps Go.Sort in
theorem Try.maps_Keys_70 (mb : Option Nat) (W : World) : CallsIn Fence.wide 5 Try.prog 70 #[.map mb] W fun e w' => e = .returned (.func (.func 105) #[] #[.pointer (some ⟨W.heap.size, 0, none⟩)]) ∧ w' = W.alloc (.cells #[.map mb] 58) :=
  AnyZ.keys_in Try.keys70 Fence.wide 5 trivial rfl mb W
open Go.RowKit Go.Maps Go.Sort in
theorem Try.slices_Sorted_keys_69_70 {H : Type} (b nn : Nat) (D0 : DataW H) (R : Value → Option (DataW H × List MemPlace)) (w : World) (hown : w.ownsMap Try.prog 9 R b nn D0) (hmax : Maps.size D0 ≤ maxLen) (hbytes : Maps.size D0 * 16 ≤ 140737488355328) :
    CallsIn Fence.wide 5 Try.prog 69 #[.func (.func 105) #[] #[.pointer (some ⟨w.heap.size, 0, none⟩)]] (w.alloc (.cells #[.map (some b)] 58)) fun e w' => ∃ (v : Value) (ss : List (List UInt8)), e = .returned v ∧ ss.Perm (strKeys D0) ∧
      w'.ownsRow (w.alloc (.cells #[.map (some b)] 58)).heap.size 9 1 v ss.length ((ss.mergeSort (fun x y => decide (x ≤ y))).map encStr) ∧ (v = .slice none 0 0 ↔ ss = []) ∧ Below (w.alloc (.cells #[.map (some b)] 58)).heap.size (w.alloc (.cells #[.map (some b)] 58)) w' := by
  have hbl := hown.lt
  have hseq : SeqGives Fence.wide 2 Try.prog 105 #[.pointer (some ⟨w.heap.size, 0, none⟩)] encStr (fun ss => ss.Perm (strKeys D0)) (Maps.size D0) (w.alloc (.cells #[.map (some b)] 58)) :=
    AnyZ.keys_gives (ρ := Try.keys70_ren) { Try.keys70 with } Fence.wide _ trivial rfl (by omega) w.heap.size b nn D0 _ (by simp) (by simp) (by
      obtain ⟨es, clock, hb, Ft, hs, hD⟩ := hown
      exact ⟨es, clock, (Below.heap_alloc _ _ b hbl).trans hb, Ft, hs, hD⟩)
  exact AnyZ.sorted_in Try.sorted69 Fence.wide 5 trivial trivial trivial trivial rfl (by omega) (Try.sorts69 _) (enters_of Try.func104 (by kernel_rfl) rfl) 105 #[.pointer (some ⟨w.heap.size, 0, none⟩)] trivial (enters_of Try.func105 (by kernel_rfl) rfl) _ _ hmax hbytes _ hseq
open Go.RowKit Go.Maps Go.Sort in
theorem Try.slices_Sorted_keys_nil_69_70 (w : World) :
    CallsIn Fence.wide 5 Try.prog 69 #[.func (.func 105) #[] #[.pointer (some ⟨w.heap.size, 0, none⟩)]] (w.alloc (.cells #[.map none] 58)) fun e w' => ∃ (v : Value) (ss : List (List UInt8)), e = .returned v ∧ ss = [] ∧
      w'.ownsRow (w.alloc (.cells #[.map none] 58)).heap.size 9 1 v ss.length ((ss.mergeSort (fun x y => decide (x ≤ y))).map encStr) ∧ (v = .slice none 0 0 ↔ ss = []) ∧ Below (w.alloc (.cells #[.map none] 58)).heap.size (w.alloc (.cells #[.map none] 58)) w' := by
  have hseq : SeqGives Fence.wide 2 Try.prog 105 #[.pointer (some ⟨w.heap.size, 0, none⟩)] encStr (fun ss : List (List UInt8) => ss = []) 0 (w.alloc (.cells #[.map none] 58)) :=
    AnyZ.keys_gives_nil (ρ := Try.keys70_ren) { Try.keys70 with } Fence.wide _ trivial rfl w.heap.size _ (by simp) (by simp)
  exact AnyZ.sorted_in Try.sorted69 Fence.wide 5 trivial trivial trivial trivial rfl (by omega) (Try.sorts69 _) (enters_of Try.func104 (by kernel_rfl) rfl) 105 #[.pointer (some ⟨w.heap.size, 0, none⟩)] trivial (enters_of Try.func105 (by kernel_rfl) rfl) _ 0 (Nat.zero_le _) (by omega) _ hseq
open Go.RowKit Go.Maps Go.Sort in
theorem Try.maps_Keys_99 (mb : Option Nat) (W : World) : CallsIn Fence.wide 5 Try.prog 99 #[.map mb] W fun e w' => e = .returned (.func (.func 119) #[] #[.pointer (some ⟨W.heap.size, 0, none⟩)]) ∧ w' = W.alloc (.cells #[.map mb] 142) :=
  AnyZ.keys_in Try.keys99 Fence.wide 5 trivial rfl mb W
open Go.RowKit Go.Maps Go.Sort in
theorem Try.slices_Sorted_keys_69_99 {H : Type} (b nn : Nat) (D0 : DataW H) (R : Value → Option (DataW H × List MemPlace)) (w : World) (hown : w.ownsMap Try.prog 9 R b nn D0) (hmax : Maps.size D0 ≤ maxLen) (hbytes : Maps.size D0 * 16 ≤ 140737488355328) :
    CallsIn Fence.wide 5 Try.prog 69 #[.func (.func 119) #[] #[.pointer (some ⟨w.heap.size, 0, none⟩)]] (w.alloc (.cells #[.map (some b)] 142)) fun e w' => ∃ (v : Value) (ss : List (List UInt8)), e = .returned v ∧ ss.Perm (strKeys D0) ∧
      w'.ownsRow (w.alloc (.cells #[.map (some b)] 142)).heap.size 9 1 v ss.length ((ss.mergeSort (fun x y => decide (x ≤ y))).map encStr) ∧ (v = .slice none 0 0 ↔ ss = []) ∧ Below (w.alloc (.cells #[.map (some b)] 142)).heap.size (w.alloc (.cells #[.map (some b)] 142)) w' := by
  have hbl := hown.lt
  have hseq : SeqGives Fence.wide 2 Try.prog 119 #[.pointer (some ⟨w.heap.size, 0, none⟩)] encStr (fun ss => ss.Perm (strKeys D0)) (Maps.size D0) (w.alloc (.cells #[.map (some b)] 142)) :=
    AnyZ.keys_gives (ρ := Try.keys99_ren) { Try.keys99 with } Fence.wide _ trivial rfl (by omega) w.heap.size b nn D0 _ (by simp) (by simp) (by
      obtain ⟨es, clock, hb, Ft, hs, hD⟩ := hown
      exact ⟨es, clock, (Below.heap_alloc _ _ b hbl).trans hb, Ft, hs, hD⟩)
  exact AnyZ.sorted_in Try.sorted69 Fence.wide 5 trivial trivial trivial trivial rfl (by omega) (Try.sorts69 _) (enters_of Try.func104 (by kernel_rfl) rfl) 119 #[.pointer (some ⟨w.heap.size, 0, none⟩)] trivial (enters_of Try.func119 (by kernel_rfl) rfl) _ _ hmax hbytes _ hseq
open Go.RowKit Go.Maps Go.Sort in
theorem Try.slices_Sorted_keys_nil_69_99 (w : World) :
    CallsIn Fence.wide 5 Try.prog 69 #[.func (.func 119) #[] #[.pointer (some ⟨w.heap.size, 0, none⟩)]] (w.alloc (.cells #[.map none] 142)) fun e w' => ∃ (v : Value) (ss : List (List UInt8)), e = .returned v ∧ ss = [] ∧
      w'.ownsRow (w.alloc (.cells #[.map none] 142)).heap.size 9 1 v ss.length ((ss.mergeSort (fun x y => decide (x ≤ y))).map encStr) ∧ (v = .slice none 0 0 ↔ ss = []) ∧ Below (w.alloc (.cells #[.map none] 142)).heap.size (w.alloc (.cells #[.map none] 142)) w' := by
  have hseq : SeqGives Fence.wide 2 Try.prog 119 #[.pointer (some ⟨w.heap.size, 0, none⟩)] encStr (fun ss : List (List UInt8) => ss = []) 0 (w.alloc (.cells #[.map none] 142)) :=
    AnyZ.keys_gives_nil (ρ := Try.keys99_ren) { Try.keys99 with } Fence.wide _ trivial rfl w.heap.size _ (by simp) (by simp)
  exact AnyZ.sorted_in Try.sorted69 Fence.wide 5 trivial trivial trivial trivial rfl (by omega) (Try.sorts69 _) (enters_of Try.func104 (by kernel_rfl) rfl) 119 #[.pointer (some ⟨w.heap.size, 0, none⟩)] trivial (enters_of Try.func119 (by kernel_rfl) rfl) _ 0 (Nat.zero_le _) (by omega) _ hseq
end Go.Proofs

namespace Go.Proofs.Ytpedbknmkgcldaa
open Go Go.Ab Go.RowKit Go.Maps Go.Sort Go.Shelf Go.MapKept
/-! the sorted keys of a map, lifted -/
theorem bl_lt : ∀ (x y : List UInt8), Op.bytesLess x y = true ↔ x < y
  | [], [] => by simp [Op.bytesLess]
  | [], b :: y => by simp [Op.bytesLess]
  | a :: x, [] => by simp [Op.bytesLess]
  | a :: x, b :: y => by
    rw [List.cons_lt_cons_iff]
    simp only [Op.bytesLess, Bool.or_eq_true, Bool.and_eq_true, beq_iff_eq, decide_eq_true_eq, bl_lt x y]
theorem insert_perm {H : Type} (x : Lit × DataW H) : ∀ l : List (Lit × DataW H), (DataW.insert x l).Perm (x :: l)
  | [] => List.Perm.refl _
  | y :: r => by
    unfold DataW.insert
    split
    · exact List.Perm.refl _
    · exact ((insert_perm x r).cons y).trans (List.Perm.swap x y r)
theorem foldr_perm {H : Type} : ∀ l : List (Lit × DataW H), (l.foldr DataW.insert []).Perm l
  | [] => List.Perm.refl _
  | x :: l => (insert_perm x _).trans ((foldr_perm l).cons x)
def baOf (l : List UInt8) : ByteArray := ⟨l.toArray⟩
theorem baOf_toList (b : ByteArray) : baOf b.toList = b := by
  rw [ByteArray.toList_eq]; rfl
theorem toList_baOf (l : List UInt8) : (baOf l).toList = l := by
  rw [ByteArray.toList_eq]; rfl
theorem toList_data (b : ByteArray) : b.data.toList = b.toList := by rw [ByteArray.toList_eq]
theorem vme_keys {rd : Addr → Value → Prop} {w : World} : ∀ {es : List (KV × MV)} {ns : List ByteArray} {us : List MapEntry}, es.map (·.1) = ns.map (fun n => KV.one (.str n)) → VME rd w es us → us.map (·.key) = ns.map Value.string
  | [], [], us, _, h => by simp only [VME] at h; subst h; rfl
  | [], n :: ns, _, h, _ => by simp at h
  | e :: es, [], _, h, _ => by simp at h
  | (k, m) :: es, n :: ns, us, h, hv => by
    simp only [VME] at hv
    obtain ⟨u, us', rfl, h1, _, h3⟩ := hv
    simp only [List.map_cons, List.cons.injEq] at h
    obtain ⟨rfl, h⟩ := h
    simp only [VKV, VD] at h1
    simp only [List.map_cons, h1.2, vme_keys h h3]
theorem strs_VDs {rd : Addr → Value → Prop} : ∀ (l : List ByteArray), VDs rd (strs l).flatten (l.map Value.string)
  | [] => by simp [strs, VDs, Cs]
  | b :: bs => by
    simp only [strs, List.map_cons, List.flatten_cons, List.singleton_append, VDs, Cs]
    exact ⟨_, _, rfl, rfl, by simp [VD], by simpa [strs, VDs] using strs_VDs bs⟩
/-- names in order -/
def risingS (l : List ByteArray) : Prop := l.Pairwise fun a b => lessS a b = true
set_option maxRecDepth 100000 in
theorem sorted_ok (es : List (KV × MV)) (ns : List ByteArray) (hk : es.map (·.1) = ns.map (fun n => KV.one (.str n))) (hnd : ns.Nodup) (hl : ns.length ≤ 1000000) (hsz : ∀ n ∈ ns, n.size ≤ maxLen) :
    ACalls Try.prog 69 [.fn 105 [.ptr 0 0]] [.cells [.map 1], .map es] (fun av L => av = .arr 2 ∧ ∃ ss : List ByteArray, ss.Perm ns ∧ risingS ss ∧ L = [.cells [.map 1], .map es, .row 9 1 (strs ss) false]) := by
  intro c vs hc hL0 hs hv
  simp only [VRt, VR] at hv
  obtain ⟨u, us', hvs, ⟨caps, rfl, u1, us1, hcaps, ⟨b0, hp, rfl⟩, rfl⟩, rfl⟩ := hv
  obtain ⟨ab, ha, _, hE0⟩ := hp
  have hb0 := hs.blk 0 _ rfl
  rw [hE0] at hb0
  simp only [BR] at hb0
  obtain ⟨b0', cur, e0, heq, hh0, hcs⟩ := hb0
  cases heq
  simp only [VRs, VR] at hcs
  obtain ⟨u2, us2, hcur, _, ⟨b1, hp1, rfl⟩, rfl⟩ := hcs
  obtain ⟨ab1, _, _, hE1⟩ := hp1
  have hb1 := hs.blk 1 _ rfl
  rw [hE1] at hb1
  simp only [BR] at hb1
  obtain ⟨b1', ents, clock, heq, hh1, hvme, hborn, hclock⟩ := hb1
  cases heq
  have hkeys := vme_keys hk hvme
  have hlen : ents.toList.length = ns.length := by have := congrArg List.length hkeys; simpa using this
  have hrd : ∀ x ∈ ents.toList, ∃ n ∈ ns, x.key = .string n := by
    intro x hx
    have : x.key ∈ ents.toList.map (·.key) := List.mem_map.2 ⟨x, hx, rfl⟩
    rw [hkeys] at this
    obtain ⟨n, h1, h2⟩ := List.mem_map.1 this
    exact ⟨n, h1, h2.symm⟩
  have hu9 : Try.prog.underlying 9 = some .string := Try.underlying9
  have hrd2 : ∀ x ∈ ents.toList, ∀ n, x.key = .string n → n ∈ ns → WideElems.rd (H := Unit) Try.prog 9 (fun _ => some (.nil, [])) x = some (.string n.toList, .nil) := by
    intro x hx n hn hm
    unfold WideElems.rd
    rw [hn, WideMaps.keyOf_string_mk hu9 (hsz n hm)]
    simp [toList_data]
  have hown : c.w0.ownsMap (H := Unit) Try.prog 9 (fun _ => some (.nil, [])) b1 ns.length (.map ((ents.toList.map (WideElems.rg Try.prog 9 (fun _ => some (.nil, [])))).foldr DataW.insert [])) := by
    refine ⟨ents, clock, hh1, ⟨?_, ⟨hclock, ?_, ?_⟩, ?_⟩, ?_, rfl⟩
    · have : ents.size = ns.length := by simpa using hlen
      have h2 : (1000000 : Nat) ≤ maxLen := by decide
      omega
    · exact hborn.imp fun h => Nat.ne_of_lt h
    · rw [hkeys]
      exact List.Pairwise.map _ (fun a b h e => h (by cases e; rfl)) hnd
    · intro x hx
      obtain ⟨n, h1, h2⟩ := hrd x hx
      exact ⟨_, hrd2 x hx n h2 h1⟩
    · simpa using Nat.le_of_eq hlen
  have hstr : (strKeys (H := Unit) (.map ((ents.toList.map (WideElems.rg Try.prog 9 (fun _ => some (.nil, [])))).foldr DataW.insert []))).Perm (ns.map ByteArray.toList) := by
    unfold strKeys
    refine ((foldr_perm _).map _).trans ?_
    refine List.Perm.of_eq ?_
    rw [List.map_map]
    have : ∀ (us : List MapEntry) (ms : List ByteArray), (∀ x ∈ us, x ∈ ents.toList) → (∀ n ∈ ms, n ∈ ns) → us.map (·.key) = ms.map Value.string →
        us.map ((fun p => strOf p.1) ∘ WideElems.rg (H := Unit) Try.prog 9 (fun _ => some (.nil, []))) = ms.map ByteArray.toList := by
      intro us
      induction us with
      | nil => intro ms _ _ h; cases ms with | nil => rfl | cons => simp at h
      | cons x us ih =>
        intro ms h1 h2 h
        cases ms with
        | nil => simp at h
        | cons n ms =>
          simp only [List.map_cons, List.cons.injEq] at h
          simp only [List.map_cons]
          rw [ih ms (fun y hy => h1 y (List.mem_cons_of_mem _ hy)) (fun y hy => h2 y (List.mem_cons_of_mem _ hy)) h.2]
          congr 1
          simp only [Function.comp, WideElems.rg_of (hrd2 x (h1 x (by simp)) n h.1 (h2 n (by simp)))]
          rfl
    exact this _ _ (fun _ h => h) (fun _ h => h) hkeys
  have hsize : Maps.size (H := Unit) (.map ((ents.toList.map (WideElems.rg Try.prog 9 (fun _ => some (.nil, [])))).foldr DataW.insert [])) = ns.length := by
    rw [Maps.size_eq, length_sorted, List.length_map, hlen]
  generalize hD : (DataW.map ((ents.toList.map (WideElems.rg (H := Unit) Try.prog 9 (fun _ => some (.nil, [])))).foldr DataW.insert [])) = D0 at hown hstr hsize
  have hm : (1000000 : Nat) ≤ maxLen := by decide
  have hseq := AnyZ.keys_gives (ρ := Try.keys70_ren) { Try.keys70 with } Fence.wide 2 trivial rfl (by omega) b0 b1 ns.length D0 c.w0 (by
      have := (Array.getElem?_eq_some_iff.1 hh0).1
      exact this) (by
      have hc1 : cur = #[.map (some b1)] := by cases cur; simpa using hcur
      simp [World.cell?, hh0, hc1]) hown
  have hcall := AnyZ.sorted_in Try.sorted69 Fence.wide 5 trivial trivial trivial trivial rfl (by omega) (Try.sorts69 _) (enters_of Try.func104 (by kernel_rfl) rfl) 105 #[.pointer (some ⟨b0, 0, none⟩)] trivial (enters_of Try.func105 (by kernel_rfl) rfl) _ _ (by rw [hsize]; omega) (by rw [hsize]; omega) _ hseq
  have hvs' : vs = #[.func (.func 105) #[] #[.pointer (some ⟨b0, 0, none⟩)]] := by cases vs; cases caps; simp_all
  rw [hvs']
  refine (callsIn_wide.1 hcall).mono ?_
  rintro e w' ⟨v, ss, rfl, hS, ⟨hrl, hrow⟩, hnil, hb⟩
  have hp : ss.Perm (ns.map ByteArray.toList) := hS.trans hstr
  have hpm := List.mergeSort_perm ss (fun x y => decide (x ≤ y))
  have hpw : (ss.mergeSort (fun x y => decide (x ≤ y))).Pairwise (fun x y => x ≤ y) := by
    have := List.pairwise_mergeSort (le := fun x y : List UInt8 => decide (x ≤ y)) (fun a b c h1 h2 => decide_eq_true (List.le_trans (of_decide_eq_true h1) (of_decide_eq_true h2))) (fun a b => by
      rcases List.le_total a b with h | h <;> simp [h]) ss
    exact this.imp fun h => of_decide_eq_true h
  have hnd' : (ss.mergeSort (fun x y => decide (x ≤ y))).Nodup := by
    refine (hpm.trans hp).nodup_iff.2 ?_
    exact List.Pairwise.map _ (fun a b h e => h (toList_inj e)) hnd
  generalize hms : ss.mergeSort (fun x y => decide (x ≤ y)) = ms at *
  have hlen2 : ms.length = ss.length := hpm.length_eq
  have hss : (ms.map baOf).Perm ns := by
    have := (hpm.trans hp).map baOf
    rwa [List.map_map, show (baOf ∘ ByteArray.toList) = id from funext baOf_toList, List.map_id] at this
  have hri : risingS (ms.map baOf) := by
    refine List.Pairwise.map _ (fun a b h => h) ?_
    refine (hpw.and hnd').imp ?_
    rintro a b ⟨h1, h2⟩
    show Op.bytesLess (baOf a).toList (baOf b).toList = true
    rw [toList_baOf, toList_baOf]
    cases h3 : Op.bytesLess a b with
    | true => rfl
    | false =>
      cases h4 : Op.bytesLess b a with
      | true => exact absurd ((bl_lt b a).1 h4) h1
      | false => exact absurd (bl_total a b h3 h4) h2
  have hkeep : Keeps c.w0 w' := ⟨hb.os, hb.tape, hb.output, hb.size, hb.block⟩
  have henc : ms.map encStr = (ms.map baOf).map Value.string := by rw [List.map_map]; rfl
  rcases hrow with ⟨rfl, h0⟩ | ⟨g, cap, cur, rfl, hg, hhg, hcap1, hcap2, hcs, htake⟩
  · have hm0 : ms = [] := by
      apply List.eq_nil_of_length_eq_zero; omega
    subst hm0
    refine ⟨_, .arr 2, _, Eupd c.E0 2 none, rfl, ⟨rfl, _, hss, hri, rfl⟩, hs.extend hc hkeep (.row 9 1 (strs (List.map baOf [])) false) none (fun b h => by cases h) (fun b h => by simp [AB.boxes] at h) (by simp [AB.boxes]) (fun b h => by simp [AB.boxes] at h) ?_, ?_⟩
    · simp only [BR]
      exact ⟨by omega, by simp [strs], rfl⟩
    · exact ⟨_, rfl, by simp [arRel, Eupd]⟩
  · refine ⟨_, .arr 2, _, Eupd c.E0 2 (some g), rfl, ⟨rfl, _, hss, hri, rfl⟩, hs.extend hc hkeep (.row 9 1 (strs (List.map baOf ms)) false) (some g) (fun b h => by cases h; exact hg) (fun b h => by simp [AB.boxes] at h) (by simp [AB.boxes]) (fun b h => by simp [AB.boxes] at h) ?_, ?_⟩
    · simp only [BR]
      refine ⟨by omega, by simp [strs], cap, cur, hhg, hcs, by simp [strs]; omega, hcap2, ?_⟩
      have : (cur.toList.take ((strs (List.map baOf ms)).length * 1)) = (ms.map baOf).map Value.string := by
        rw [← henc, ← htake]; congr 1; simp [strs, hlen2]
      rw [this]
      exact strs_VDs _
    · exact ⟨_, rfl, by
        simp only [arRel, Eupd]
        exact ⟨cap, cur, by simp [strs, hlen2], hhg, hcs⟩⟩
end Go.Proofs.Ytpedbknmkgcldaa

namespace Go.Proofs.Ytpedbknmkgcldaa
open Go.Ab Go.RowKit Go.MapKept
attribute [local irreducible] ACalls AW ADraw Into
set_option maxRecDepth 100000
theorem keys_ok (es : List (KV × MV)) : ACalls Try.prog 70 [.map 0] [.map es] (fun av L => av = .fn 105 [.ptr 1 0] ∧ L = [.map es, .cells [.map 0]]) := by
  refine acalls_go ttOk zOk foOk Try.func70 rfl Try.ntmps70 rfl true rfl ?_
  conv => whnf
  exact ⟨rfl, rfl⟩
end Go.Proofs.Ytpedbknmkgcldaa

namespace Go.Proofs.Ytpedbknmkgcldaa
open Go.Ab Go.RowKit
def DD.cut (d : DD) (n : ByteArray) (k : Int) : Int × DD :=
  if k < 0 ∨ goodS n = false then (1, d) else
  if d.spend.off = true then (9, d.spend) else
  match getN n d.fs with
  | none => (3, d.spend)
  | some f => if (f.seen.length : Int) < k then (1, d.spend) else (0, { d.spend with fs := updN n (fun f => { f with seen := f.seen.take k.toNat }) d.fs })
def DD.remove (d : DD) (n : ByteArray) : Int × DD :=
  if goodS n = false then (1, d) else
  if d.spend.off = true then (9, d.spend) else
  match getN n d.fs with
  | none => (3, d.spend)
  | some _ => (0, { d.spend with fs := delN n d.fs })
def setN (g : FD) (fs : List FD) : List FD := match getN g.name fs with | none => fs ++ [g] | some _ => updN g.name (fun _ => g) fs
def DD.rename (d : DD) (n t : ByteArray) : Int × DD :=
  if goodS t = false ∨ goodS n = false then (1, d) else
  if d.spend.off = true then (9, d.spend) else
  match getN n d.fs with
  | none => (3, d.spend)
  | some f => (0, { d.spend with fs := setN { f with name := t } (delN n d.fs) })
def DD.turn (d : DD) (n : Int) : DD := if n < 1 then { d with off := true } else { d with upto := IntKind.i64.wrap (d.calls + n) }
section
variable {d : DD} {n t : ByteArray} {k : Int}
theorem cut_bad (h : k < 0 ∨ goodS n = false) : d.cut n k = (1, d) := by simp [DD.cut, h]
theorem cut_off (hk : ¬ k < 0) (h : goodS n = true) (ho : d.spend.off = true) : d.cut n k = (9, d.spend) := by simp [DD.cut, h, ho, hk]
theorem cut_none (hk : ¬ k < 0) (h : goodS n = true) (ho : d.spend.off = false) (hg : getN n d.fs = none) : d.cut n k = (3, d.spend) := by simp [DD.cut, h, ho, hg, hk]
theorem cut_long {f : FD} (hk : ¬ k < 0) (h : goodS n = true) (ho : d.spend.off = false) (hg : getN n d.fs = some f) (hl : (f.seen.length : Int) < k) : d.cut n k = (1, d.spend) := by simp [DD.cut, h, ho, hg, hk, hl]
theorem cut_some {f : FD} (hk : ¬ k < 0) (h : goodS n = true) (ho : d.spend.off = false) (hg : getN n d.fs = some f) (hl : ¬ (f.seen.length : Int) < k) : d.cut n k = (0, { d.spend with fs := updN n (fun f => { f with seen := f.seen.take k.toNat }) d.fs }) := by simp [DD.cut, h, ho, hg, hk, hl]
theorem rem_bad (h : goodS n = false) : d.remove n = (1, d) := by simp [DD.remove, h]
theorem rem_off (h : goodS n = true) (ho : d.spend.off = true) : d.remove n = (9, d.spend) := by simp [DD.remove, h, ho]
theorem rem_none (h : goodS n = true) (ho : d.spend.off = false) (hg : getN n d.fs = none) : d.remove n = (3, d.spend) := by simp [DD.remove, h, ho, hg]
theorem rem_some {f : FD} (h : goodS n = true) (ho : d.spend.off = false) (hg : getN n d.fs = some f) : d.remove n = (0, { d.spend with fs := delN n d.fs }) := by simp [DD.remove, h, ho, hg]
theorem ren_bad (h : goodS t = false ∨ goodS n = false) : d.rename n t = (1, d) := by simp [DD.rename, h]
theorem ren_off (ht : goodS t = true) (h : goodS n = true) (ho : d.spend.off = true) : d.rename n t = (9, d.spend) := by simp [DD.rename, h, ho, ht]
theorem ren_none (ht : goodS t = true) (h : goodS n = true) (ho : d.spend.off = false) (hg : getN n d.fs = none) : d.rename n t = (3, d.spend) := by simp [DD.rename, h, ho, hg, ht]
theorem ren_some {f : FD} (ht : goodS t = true) (h : goodS n = true) (ho : d.spend.off = false) (hg : getN n d.fs = some f) : d.rename n t = (0, { d.spend with fs := setN { f with name := t } (delN n d.fs) }) := by simp [DD.rename, h, ho, hg, ht]
end
theorem findF_del {n : ByteArray} : ∀ {fs : List Fl} {j i : Nat} {f : Fl}, findF n fs j = some (i, f) → (fs.eraseIdx (i - j)).map Fl.dat = delN n (fs.map Fl.dat)
  | [], _, _, _, h => by simp [findF] at h
  | x :: r, j, i, f, h => by
    simp only [findF, ba_beq] at h
    by_cases e : n = x.name
    · rw [decide_eq_true e] at h
      simp at h
      obtain ⟨rfl, rfl⟩ := h
      have e' : n = x.dat.name := e
      simp only [List.map_cons, delN, if_pos e', Nat.sub_self, List.eraseIdx_cons_zero]
    · rw [decide_eq_false e] at h
      have e' : ¬ n = x.dat.name := e
      have h4 := findF_del (fs := r) h
      have h1 := (findF_at (fs := r) h).1
      have hi : i - j = (i - (j + 1)) + 1 := by omega
      rw [hi]
      simp only [List.map_cons, delN, if_neg e', List.eraseIdx_cons_succ, h4]
theorem getN_del {n : ByteArray} {d : Dk} {i : Nat} {f : Fl} (h : findF n d.fs 0 = some (i, f)) : (d.fs.eraseIdx i).map Fl.dat = delN n d.dat.fs := findF_del (j := 0) h
theorem erase_map {α β : Type} (g : α → β) : ∀ (fs : List α) (i : Nat), (fs.map g).eraseIdx i = (fs.eraseIdx i).map g
  | [], _ => rfl
  | _ :: _, 0 => rfl
  | x :: r, i + 1 => by simp only [List.map_cons, List.eraseIdx_cons_succ, erase_map g r i]
theorem erase_ent {fs : List Fl} {i : Nat} : (fs.map Fl.ent).eraseIdx i = (fs.eraseIdx i).map Fl.ent := erase_map _ _ _
end Go.Proofs.Ytpedbknmkgcldaa

namespace Go.Proofs.Ytpedbknmkgcldaa
open Go.Ab Go.RowKit
/-- the disk as data, with what holds of it always -/
structure DD.fine (d : DD) : Prop where
  ok : d.ok
  nd : (d.fs.map FD.name).Nodup
  good : ∀ f ∈ d.fs, goodS f.name = true
  few : d.fs.length ≤ 16
theorem goodS_size {n : ByteArray} (h : goodS n = true) : n.size ≤ 1000 := by
  unfold goodS at h
  simp only [Bool.and_eq_true, decide_eq_true_eq] at h
  omega
theorem inj_name : ∀ {fs : List FD}, (fs.map FD.name).Nodup → ∀ {x y : FD}, x ∈ fs → y ∈ fs → x.name = y.name → x = y
  | [], _, _, _, h, _, _ => by simp at h
  | f :: r, hn, x, y, hx, hy, e => by
    simp only [List.map_cons, List.nodup_cons] at hn
    rcases List.mem_cons.1 hx with rfl | hx' <;> rcases List.mem_cons.1 hy with rfl | hy'
    · rfl
    · exact absurd (List.mem_map.2 ⟨y, hy', e.symm⟩) hn.1
    · exact absurd (List.mem_map.2 ⟨x, hx', e⟩) hn.1
    · exact inj_name hn.2 hx' hy' e
theorem getN_name {n : ByteArray} : ∀ {fs : List FD} {f : FD}, getN n fs = some f → f.name = n
  | x :: r, f, h => by
    simp only [getN] at h
    split at h
    · cases h; rename_i h; exact h.symm
    · exact getN_name h
theorem getN_not {n : ByteArray} : ∀ {fs : List FD}, getN n fs = none → n ∉ fs.map FD.name
  | [], _ => by simp
  | x :: r, h => by
    simp only [getN] at h
    split at h
    · cases h
    · rename_i hx
      simp only [List.map_cons, List.mem_cons, not_or]
      exact ⟨hx, getN_not h⟩
theorem upd_names {n : ByteArray} {g : FD → FD} (hg : ∀ f, f.name = n → (g f).name = n) : ∀ (fs : List FD), (updN n g fs).map FD.name = fs.map FD.name
  | [] => rfl
  | x :: r => by
    simp only [updN]
    split
    · rename_i h
      simp only [List.map_cons, hg x h.symm, h]
    · simp only [List.map_cons, upd_names hg r]
theorem mem_updN {n : ByteArray} {g : FD → FD} : ∀ {fs : List FD} {f : FD}, f ∈ updN n g fs → f ∈ fs ∨ ∃ x ∈ fs, x.name = n ∧ f = g x
  | [], _, h => by simp [updN] at h
  | x :: r, f, h => by
    simp only [updN] at h
    split at h
    · rename_i hx
      rcases List.mem_cons.1 h with rfl | h
      · exact .inr ⟨x, by simp, hx.symm, rfl⟩
      · exact .inl (List.mem_cons_of_mem _ h)
    · rcases List.mem_cons.1 h with rfl | h
      · exact .inl (by simp)
      · rcases mem_updN h with h | ⟨y, h1, h2, h3⟩
        · exact .inl (List.mem_cons_of_mem _ h)
        · exact .inr ⟨y, List.mem_cons_of_mem _ h1, h2, h3⟩
theorem del_sub {n : ByteArray} : ∀ {fs : List FD}, (delN n fs).Sublist fs
  | [] => List.Sublist.refl _
  | x :: r => by
    simp only [delN]
    split
    · exact List.sublist_cons_self ..
    · exact del_sub.cons_cons x
theorem upd_length {n : ByteArray} {g : FD → FD} : ∀ (fs : List FD), (updN n g fs).length = fs.length
  | [] => rfl
  | x :: r => by
    simp only [updN]
    split
    · rfl
    · simp only [List.length_cons, upd_length r]
theorem DD.fine.spend {d : DD} (h : d.fine) : d.spend.fine := ⟨⟨h.ok.len⟩, h.nd, h.good, h.few⟩
theorem DD.fine.turn {d : DD} (h : d.fine) (n : Int) : (d.turn n).fine := by
  unfold DD.turn
  split <;> exact ⟨⟨h.ok.len⟩, h.nd, h.good, h.few⟩
theorem DD.fine.upd {d : DD} (h : d.fine) (n : ByteArray) (g : FD → FD) (hg : ∀ f, f.name = n → (g f).name = n) (hl : ∀ f ∈ d.fs, f.name = n → (g f).seen.length ≤ 1048576 ∧ (g f).safe.length ≤ 1048576) : ({ d with fs := updN n g d.fs } : DD).fine := by
  refine ⟨⟨fun f hf => ?_⟩, ?_, fun f hf => ?_, ?_⟩
  · rcases mem_updN hf with hf | ⟨x, hx, hn, rfl⟩
    · exact h.ok.len f hf
    · exact hl x hx hn
  · show ((updN n g d.fs).map FD.name).Nodup
    rw [upd_names hg]; exact h.nd
  · rcases mem_updN hf with hf | ⟨x, hx, hn, rfl⟩
    · exact h.good f hf
    · rw [hg x hn, ← hn]; exact h.good x hx
  · show (updN n g d.fs).length ≤ 16
    rw [upd_length]; exact h.few
theorem DD.fine.append {d : DD} (h : d.fine) (n : ByteArray) (b : List UInt8) : (d.append n b).2.fine := by
  unfold DD.append
  split
  · exact h
  rename_i hg
  split
  · exact h.spend
  split
  · rename_i hn
    split
    · exact h.spend
    split
    · exact h.spend
    · rename_i hb h16
      have hf := h.few
      refine ⟨⟨fun f hf => ?_⟩, ?_, fun f hf => ?_, ?_⟩
      · rcases List.mem_append.1 hf with hf | hf
        · exact h.ok.len f hf
        · simp only [List.mem_singleton] at hf; subst hf; exact ⟨by show b.length ≤ _; omega, by simp⟩
      · show ((d.fs ++ [_]).map FD.name).Nodup
        rw [List.map_append, List.nodup_append]
        refine ⟨h.nd, by simp, ?_⟩
        intro a ha c hc e
        simp only [List.map_cons, List.map_nil, List.mem_singleton] at hc
        subst hc; subst e
        exact getN_not hn ha
      · rcases List.mem_append.1 hf with hf | hf
        · exact h.good f hf
        · simp only [List.mem_singleton] at hf; subst hf
          simpa using hg
      · show (d.fs ++ [_]).length ≤ 16
        rw [List.length_append]; simp; omega
  · rename_i f hn
    split
    · exact h.spend
    · rename_i hb
      refine h.spend.upd n _ (fun f h => h) ?_
      intro x hx hxn
      have hxf : x = f := by
        have h1 := getN_name hn
        have h2 := mem_getN hn
        exact inj_name h.nd hx h2 (hxn.trans h1.symm)
      subst hxf
      have := h.ok.len x hx
      exact ⟨by simp; omega, this.2⟩
theorem DD.fine.sync {d : DD} (h : d.fine) (n : ByteArray) : (d.sync n).2.fine := by
  unfold DD.sync
  split
  · exact h
  split
  · exact h.spend
  split
  · exact h.spend
  · exact h.spend.upd n _ (fun f h => h) fun f hf _ => ⟨(h.ok.len f hf).1, (h.ok.len f hf).1⟩
theorem DD.fine.cut {d : DD} (h : d.fine) (n : ByteArray) (k : Int) : (d.cut n k).2.fine := by
  unfold DD.cut
  split
  · exact h
  split
  · exact h.spend
  split
  · exact h.spend
  split
  · exact h.spend
  · exact h.spend.upd n _ (fun f h => h) fun f hf _ => ⟨by have := (h.ok.len f hf).1; simp only [List.length_take]; omega, (h.ok.len f hf).2⟩
theorem DD.fine.del {d : DD} (h : d.fine) (n : ByteArray) : ({ d with fs := delN n d.fs } : DD).fine :=
  ⟨⟨fun f hf => h.ok.len f (del_sub.subset hf)⟩, h.nd.sublist (del_sub.map _), fun f hf => h.good f (del_sub.subset hf), Nat.le_trans del_sub.length_le h.few⟩
theorem DD.fine.remove {d : DD} (h : d.fine) (n : ByteArray) : (d.remove n).2.fine := by
  unfold DD.remove
  split
  · exact h
  split
  · exact h.spend
  split
  · exact h.spend
  · exact h.spend.del n
theorem DD.fine.set {d : DD} (h : d.fine) (g : FD) (hg : goodS g.name = true) (hl : g.seen.length ≤ 1048576 ∧ g.safe.length ≤ 1048576) (hf : d.fs.length < 16) : ({ d with fs := setN g d.fs } : DD).fine := by
  unfold setN
  cases hn : getN g.name d.fs with
  | some f => exact h.upd g.name _ (fun _ _ => rfl) fun _ _ _ => hl
  | none =>
    refine ⟨⟨fun f hf => ?_⟩, ?_, fun f hf => ?_, ?_⟩
    · rcases List.mem_append.1 hf with hf | hf
      · exact h.ok.len f hf
      · simp only [List.mem_singleton] at hf; subst hf; exact hl
    · show ((d.fs ++ [_]).map FD.name).Nodup
      rw [List.map_append, List.nodup_append]
      refine ⟨h.nd, by simp, ?_⟩
      intro a ha c hc e
      simp only [List.map_cons, List.map_nil, List.mem_singleton] at hc
      subst hc; subst e
      exact getN_not hn ha
    · rcases List.mem_append.1 hf with hf | hf
      · exact h.good f hf
      · simp only [List.mem_singleton] at hf; subst hf; exact hg
    · show (d.fs ++ [_]).length ≤ 16
      rw [List.length_append]; simp; omega
theorem del_length {n : ByteArray} : ∀ {fs : List FD} {f : FD}, getN n fs = some f → (delN n fs).length + 1 = fs.length
  | x :: r, f, h => by
    simp only [getN] at h
    simp only [delN]
    split at h
    · rename_i hx; rw [if_pos hx]; rfl
    · rename_i hx; rw [if_neg hx]
      simp only [List.length_cons, del_length h]
theorem DD.fine.rename {d : DD} (h : d.fine) (n t : ByteArray) : (d.rename n t).2.fine := by
  unfold DD.rename
  split
  · exact h
  rename_i hg
  split
  · exact h.spend
  split
  · exact h.spend
  · rename_i f hn
    have hm := h.ok.len f (mem_getN hn)
    refine (h.spend.del n).set { f with name := t } (by simpa using (not_or.1 hg).1) hm ?_
    have := del_length hn
    have h2 := h.few
    show (delN n d.spend.fs).length < 16
    show (delN n d.fs).length < 16
    omega
end Go.Proofs.Ytpedbknmkgcldaa

namespace Go.Proofs.Ytpedbknmkgcldaa
open Go.Ab Go.RowKit Go.MapKept
attribute [local irreducible] ACalls AW ADraw Into
set_option maxRecDepth 100000
theorem ent_keys (fs : List Fl) : (fs.map Fl.ent).map (·.1) = (fs.map Fl.name).map fun n => KV.one (.str n) := by
  rw [List.map_map, List.map_map]; rfl
theorem dat_names (fs : List Fl) : (fs.map Fl.dat).map FD.name = fs.map Fl.name := by
  rw [List.map_map]; rfl
def DD.list (d : DD) (ss : List ByteArray) : Prop := (d.off = true → ss = []) ∧ (d.off = false → ss.Perm (d.fs.map FD.name)) ∧ risingS ss
theorem list_row (d : Dk) (hd : d.dat.fine) : ACalls Try.prog 26 [.ptr 0 0] d.L (fun av L => av = .tup [.arr 2, .d (.int .i64 (if d.off then 9 else 0))] ∧ ∃ ss : List ByteArray, d.dat.list ss ∧ L = d.L ++ [.row 9 1 (strs ss) false]) := by
  refine acalls_go ttOk zOk foOk Try.func26 rfl Try.ntmps26 rfl true rfl ?_
  conv => whnf
  repeat' (first | ((with_reducible apply rd_intro); (focus (intro K hK; (conv => whnf); first | exact hK | (intro z hz; rw [wrapI (by omega)] at hz; subst hz; exact hK))); (conv => whnf)) | ((with_reducible apply gd_and); (focus ((conv => whnf); first | rfl | (intro K hK; (conv => whnf); first | exact hK | (intro z hz; rw [wrapI (by omega)] at hz; subst hz; exact hK)))); (conv => whnf)) | ((with_reducible apply z_wrap); (focus omega); (conv => whnf)) | ((with_reducible refine mt_dec (fun _ => ?_) (fun _ => ?_)) <;> (conv => whnf)) | ((with_reducible refine mt_eq (fun _ => ?_) (fun _ => ?_)) <;> (conv => whnf)) | ((with_reducible refine mt_ne (fun _ => ?_) (fun _ => ?_)) <;> (conv => whnf)) | ((with_reducible refine mt_not (fun _ => ?_) (fun _ => ?_)) <;> (conv => whnf)) | ((with_reducible refine mt_any (fun _ => ?_) (fun _ => ?_)) <;> (conv => whnf)))
  · rename_i ho
    refine ⟨by simp [ho, avOf1], [], ⟨fun _ => rfl, fun h => (by simp [Dk.dat, ho] at h), by simp [risingS]⟩, rfl⟩
  · rename_i ho
    ((with_reducible refine (keys_ok _).mono ?_); rintro _ _ ⟨rfl, rfl⟩; (conv => whnf))
    refine (sorted_ok _ (d.fs.map Fl.name) (ent_keys _) (by have := hd.nd; rwa [show d.dat.fs = d.fs.map Fl.dat from rfl, dat_names] at this) (by have := hd.few; simp [Dk.dat] at this ⊢; omega) ?_).mono ?_
    · intro n hn
      obtain ⟨f, hf, rfl⟩ := List.mem_map.1 hn
      have := goodS_size (hd.good f.dat (List.mem_map.2 ⟨f, hf, rfl⟩))
      have h2 : (1000 : Nat) ≤ maxLen := by decide
      exact Nat.le_trans this h2
    rintro _ _ ⟨rfl, ss, hp, hr, rfl⟩
    conv => whnf
    refine ⟨by simp [ho, avOf1], ss, ⟨fun h => (by simp [Dk.dat, ho] at h), fun _ => by rw [show d.dat.fs = d.fs.map Fl.dat from rfl, dat_names]; exact hp, hr⟩, rfl⟩
theorem list_ok (d : Dk) (hd : d.dat.fine) : ACalls Try.prog 26 [.ptr 0 0] d.L (fun av L => ∃ ss : List ByteArray, d.dat.list ss ∧ av = .tup [.d (.sl 1 (strs ss)), .d (.int .i64 (if d.off then 9 else 0))] ∧ L = d.L) := by
  refine acalls_go ttOk zOk foOk Try.func26 rfl Try.ntmps26 rfl false rfl ?_
  conv => whnf
  repeat' (first | ((with_reducible apply rd_intro); (focus (intro K hK; (conv => whnf); first | exact hK | (intro z hz; rw [wrapI (by omega)] at hz; subst hz; exact hK))); (conv => whnf)) | ((with_reducible apply gd_and); (focus ((conv => whnf); first | rfl | (intro K hK; (conv => whnf); first | exact hK | (intro z hz; rw [wrapI (by omega)] at hz; subst hz; exact hK)))); (conv => whnf)) | ((with_reducible apply z_wrap); (focus omega); (conv => whnf)) | ((with_reducible refine mt_dec (fun _ => ?_) (fun _ => ?_)) <;> (conv => whnf)) | ((with_reducible refine mt_eq (fun _ => ?_) (fun _ => ?_)) <;> (conv => whnf)) | ((with_reducible refine mt_ne (fun _ => ?_) (fun _ => ?_)) <;> (conv => whnf)) | ((with_reducible refine mt_not (fun _ => ?_) (fun _ => ?_)) <;> (conv => whnf)) | ((with_reducible refine mt_any (fun _ => ?_) (fun _ => ?_)) <;> (conv => whnf)))
  · rename_i ho
    exact ⟨[], ⟨fun _ => rfl, fun h => (by simp [Dk.dat, ho] at h), by simp [risingS]⟩, by simp [ho, avOf1, strs], rfl⟩
  · rename_i ho
    ((with_reducible refine (keys_ok _).mono ?_); rintro _ _ ⟨rfl, rfl⟩; (conv => whnf))
    refine (sorted_ok _ (d.fs.map Fl.name) (ent_keys _) (by have := hd.nd; rwa [show d.dat.fs = d.fs.map Fl.dat from rfl, dat_names] at this) (by have := hd.few; simp [Dk.dat] at this ⊢; omega) ?_).mono ?_
    · intro n hn
      obtain ⟨f, hf, rfl⟩ := List.mem_map.1 hn
      have := goodS_size (hd.good f.dat (List.mem_map.2 ⟨f, hf, rfl⟩))
      have h2 : (1000 : Nat) ≤ maxLen := by decide
      exact Nat.le_trans this h2
    rintro _ _ ⟨rfl, ss, hp, hr, rfl⟩
    conv => whnf
    exact ⟨ss, ⟨fun h => (by simp [Dk.dat, ho] at h), fun _ => by rw [show d.dat.fs = d.fs.map Fl.dat from rfl, dat_names]; exact hp, hr⟩, by simp [ho, avOf1], rfl⟩
end Go.Proofs.Ytpedbknmkgcldaa

namespace Go.Proofs.Ytpedbknmkgcldaa
open Go.Ab Go.RowKit Go.MapKept
attribute [local irreducible] ACalls AW ADraw Into
set_option maxRecDepth 100000
theorem equal_ok (a b : List UInt8) : ACalls Try.prog 71 [.d (.sl 1 (u8s a)), .d (.sl 1 (u8s b))] [] (fun av L => av = .d (.bool (decide (a = b))) ∧ L = []) := by
  refine acalls_go ttOk zOk foOk Try.func71 rfl Try.ntmps71 rfl false rfl ?_
  conv => whnf
  refine ⟨a, rfl, ?_⟩
  conv => whnf
  refine ⟨b, rfl, ?_⟩
  conv => whnf
  have h : ∀ x : List UInt8, (⟨x.toArray⟩ : ByteArray).toList = x := fun x => by rw [ByteArray.toList_eq]
  rw [h, h]
  refine ⟨?_, rfl⟩
  congr 2
  rw [Bool.eq_iff_iff]
  simp
end Go.Proofs.Ytpedbknmkgcldaa

namespace Go.Proofs.Ytpedbknmkgcldaa
open Go.Ab Go.RowKit Go.MapKept
attribute [local irreducible] ACalls AW ADraw Into
set_option maxRecDepth 100000
theorem tdiv_in (p n : Int) (hn : 0 < n) (hp : -9223372036854775808 ≤ p ∧ p < 9223372036854775808) : -9223372036854775808 ≤ p.tdiv n ∧ p.tdiv n < 9223372036854775808 := by
  rcases Int.lt_or_le p 0 with h | h
  · have e : p.tdiv n = -((-p).tdiv n) := by rw [Int.neg_tdiv, Int.neg_neg]
    rw [e, Int.tdiv_eq_ediv_of_nonneg (by omega)]
    have h1 : (-p) / n ≤ -p := Int.ediv_le_self _ (by omega)
    have h2 : 0 ≤ (-p) / n := Int.ediv_nonneg (by omega) (by omega)
    omega
  · rw [Int.tdiv_eq_ediv_of_nonneg h]
    have h1 : p / n ≤ p := Int.ediv_le_self _ h
    have h2 : 0 ≤ p / n := Int.ediv_nonneg h (by omega)
    omega
theorem tmod_in (p n : Int) (hn : 0 < n) : (0 ≤ p.tmod n ∧ p.tmod n = p % n ∧ p.tdiv n = p / n ∧ p.tmod n < n) ∨ (-n < p.tmod n ∧ p.tmod n < 0 ∧ p.tmod n + n = p % n ∧ p.tdiv n - 1 = p / n) := by
  have hd := Int.mul_tdiv_add_tmod p n
  have h3 : p.tmod n < n := Int.tmod_lt_of_pos p hn
  have h4 : -n < p.tmod n := by
    have := Int.tmod_lt_of_pos (-p) hn
    rw [Int.neg_tmod] at this; omega
  rcases Int.lt_or_le (p.tmod n) 0 with h | h
  · right
    have := (Int.ediv_emod_unique (a := p) (b := n) (r := p.tmod n + n) (q := p.tdiv n - 1) hn).2 ⟨by rw [Int.mul_sub]; omega, by omega, by omega⟩
    exact ⟨h4, h, this.2.symm, this.1.symm⟩
  · left
    have := (Int.ediv_emod_unique (a := p) (b := n) (r := p.tmod n) (q := p.tdiv n) hn).2 ⟨by omega, h, h3⟩
    exact ⟨h, this.2.symm, this.1.symm, h3⟩
theorem modulo_ok (p n : Int) (hn : 0 < n) (hn2 : n ≤ 4611686018427387904) (hp : -9223372036854775808 ≤ p ∧ p < 9223372036854775808) : ACalls Try.prog 72 [.d (.int .i64 p), .d (.int .i64 n)] [] (fun av L => av = .tup [.d (.int .i64 (p % n)), .d (.int .i64 (p / n))] ∧ L = []) := by
  refine acalls_go ttOk zOk foOk Try.func72 rfl Try.ntmps72 rfl false rfl ?_
  conv => whnf
  ((with_reducible refine draw_pl ttOk zOk foOk mixedOk pl72x1 ?_ ?_); (focus kernel_rfl); (conv => whnf))
  repeat' (first | ((with_reducible apply rd_intro); (focus (intro K hK; (conv => whnf); first | exact hK | (intro z hz; rw [wrapI (by omega)] at hz; subst hz; exact hK))); (conv => whnf)) | ((with_reducible apply gd_and); (focus ((conv => whnf); first | rfl | (intro K hK; (conv => whnf); first | exact hK | (intro z hz; rw [wrapI (by omega)] at hz; subst hz; exact hK)))); (conv => whnf)) | ((with_reducible apply z_wrap); (focus omega); (conv => whnf)) | ((with_reducible refine mt_dec (fun _ => ?_) (fun _ => ?_)) <;> (conv => whnf)) | ((with_reducible refine mt_eq (fun _ => ?_) (fun _ => ?_)) <;> (conv => whnf)) | ((with_reducible refine mt_ne (fun _ => ?_) (fun _ => ?_)) <;> (conv => whnf)) | ((with_reducible refine mt_not (fun _ => ?_) (fun _ => ?_)) <;> (conv => whnf)) | ((with_reducible refine mt_any (fun _ => ?_) (fun _ => ?_)) <;> (conv => whnf)))
  ((with_reducible apply rd_intro); (focus (intro K hK; (conv => whnf); refine ⟨by omega, ?_⟩; intro z hz; subst hz; exact hK)); (conv => whnf))
  repeat' (first | ((with_reducible apply rd_intro); (focus (intro K hK; (conv => whnf); first | exact hK | (intro z hz; rw [wrapI (by omega)] at hz; subst hz; exact hK))); (conv => whnf)) | ((with_reducible apply gd_and); (focus ((conv => whnf); first | rfl | (intro K hK; (conv => whnf); first | exact hK | (intro z hz; rw [wrapI (by omega)] at hz; subst hz; exact hK)))); (conv => whnf)) | ((with_reducible apply z_wrap); (focus omega); (conv => whnf)) | ((with_reducible refine mt_dec (fun _ => ?_) (fun _ => ?_)) <;> (conv => whnf)) | ((with_reducible refine mt_eq (fun _ => ?_) (fun _ => ?_)) <;> (conv => whnf)) | ((with_reducible refine mt_ne (fun _ => ?_) (fun _ => ?_)) <;> (conv => whnf)) | ((with_reducible refine mt_not (fun _ => ?_) (fun _ => ?_)) <;> (conv => whnf)) | ((with_reducible refine mt_any (fun _ => ?_) (fun _ => ?_)) <;> (conv => whnf)))
  ((with_reducible apply rd_intro); (focus (intro K hK; (conv => whnf); refine ⟨by omega, ?_⟩; intro z hz; subst hz; exact hK)); (conv => whnf))
  have hq := tdiv_in p n hn hp
  rw [show IntKind.i64.wrap (p.tdiv n) = p.tdiv n from wrapI hq]
  have hl := tmod_in p n hn
  repeat' (first | ((with_reducible apply rd_intro); (focus (intro K hK; (conv => whnf); first | exact hK | (intro z hz; rw [wrapI (by omega)] at hz; subst hz; exact hK))); (conv => whnf)) | ((with_reducible apply gd_and); (focus ((conv => whnf); first | rfl | (intro K hK; (conv => whnf); first | exact hK | (intro z hz; rw [wrapI (by omega)] at hz; subst hz; exact hK)))); (conv => whnf)) | ((with_reducible apply z_wrap); (focus omega); (conv => whnf)) | ((with_reducible refine mt_dec (fun _ => ?_) (fun _ => ?_)) <;> (conv => whnf)) | ((with_reducible refine mt_eq (fun _ => ?_) (fun _ => ?_)) <;> (conv => whnf)) | ((with_reducible refine mt_ne (fun _ => ?_) (fun _ => ?_)) <;> (conv => whnf)) | ((with_reducible refine mt_not (fun _ => ?_) (fun _ => ?_)) <;> (conv => whnf)) | ((with_reducible refine mt_any (fun _ => ?_) (fun _ => ?_)) <;> (conv => whnf)))
  · intro z hz
    conv => whnf
    refine ⟨?_, rfl⟩
    subst hz
    rcases hl with hl | hl
    · omega
    · rw [show IntKind.i64.wrap (p.tdiv n - 1) = p.tdiv n - 1 from wrapI (by have := Int.le_ediv_of_mul_le (a := -9223372036854775808) (b := p) hn (by omega); omega)]
      rw [← hl.2.2.1, ← hl.2.2.2]
  · rcases hl with hl | hl
    · rw [← hl.2.1, ← hl.2.2.1]; exact ⟨rfl, rfl⟩
    · omega
end Go.Proofs.Ytpedbknmkgcldaa

namespace Go.Proofs.Ytpedbknmkgcldaa
open Go.Ab Go.RowKit
/-! crashes, as data -/
def padTo (n : Nat) (l : List UInt8) : List UInt8 := l ++ List.replicate (n - l.length) 0
def tornN (safe seen : List UInt8) (p : Int) : Nat := min ((p % (((max safe.length seen.length + 31) / 32 : Nat) + 1 : Int)).toNat * 32) (max safe.length seen.length)
def tornL (safe seen : List UInt8) (p : Int) : List UInt8 :=
  ((padTo (max safe.length seen.length) seen).take (tornN safe seen p) ++ (padTo (max safe.length seen.length) safe).drop (tornN safe seen p)).take seen.length
def headP : List Int → Int
  | [] => 0
  | p :: _ => p
def stepC (f : FD) (picks : List Int) : List UInt8 × List Int :=
  if f.safe = f.seen then (f.seen, picks) else
  (if headP picks % 3 = 0 then f.safe else if headP picks % 3 = 2 then tornL f.safe f.seen (headP picks / 3) else f.seen, picks.tail)
def crashAt (fs : List FD) (picks : List Int) : Nat → List FileS × List Int
  | 0 => ([], picks)
  | k + 1 => match fs[k]? with
    | none => crashAt fs picks k
    | some f => ((crashAt fs picks k).1 ++ [⟨f.name, (stepC f (crashAt fs picks k).2).1⟩], (stepC f (crashAt fs picks k).2).2)
theorem crashAt_succ {fs : List FD} {picks : List Int} {k : Nat} {f : FD} (h : fs[k]? = some f) : crashAt fs picks (k + 1) = ((crashAt fs picks k).1 ++ [⟨f.name, (stepC f (crashAt fs picks k).2).1⟩], (stepC f (crashAt fs picks k).2).2) := by
  simp only [crashAt, h]
theorem crash_length {fs : List FD} {picks : List Int} : ∀ {k : Nat}, k ≤ fs.length → (crashAt fs picks k).1.length = k
  | 0, _ => rfl
  | k + 1, h => by
    rw [crashAt_succ (List.getElem?_eq_getElem (show k < fs.length by omega))]
    simp [crash_length (show k ≤ fs.length by omega)]
theorem step_sub (f : FD) (picks : List Int) : (stepC f picks).2 = picks ∨ (stepC f picks).2 = picks.tail := by
  unfold stepC
  split
  · exact .inl rfl
  · exact .inr rfl
theorem crash_picks {fs : List FD} {picks : List Int} : ∀ {k : Nat}, ∀ x ∈ (crashAt fs picks k).2, x ∈ picks
  | 0, x, h => h
  | k + 1, x, h => by
    cases hf : fs[k]? with
    | none => simp only [crashAt, hf] at h; exact crash_picks x h
    | some f =>
      rw [crashAt_succ hf] at h
      rcases step_sub f (crashAt fs picks k).2 with e | e
      · simp only [e] at h; exact crash_picks x h
      · simp only [e] at h; exact crash_picks x (List.mem_of_mem_tail h)
theorem crash_plen {fs : List FD} {picks : List Int} : ∀ {k : Nat}, (crashAt fs picks k).2.length ≤ picks.length
  | 0 => Nat.le_refl _
  | k + 1 => by
    cases hf : fs[k]? with
    | none => simp only [crashAt, hf]; exact crash_plen
    | some f =>
      rw [crashAt_succ hf]
      rcases step_sub f (crashAt fs picks k).2 with e | e
      · simp only [e]; exact crash_plen
      · simp only [e, List.length_tail]; exact Nat.le_trans (Nat.sub_le _ _) crash_plen
/-- the files by the order of names -/
def pickFs (ss : List ByteArray) (fs : List FD) : List FD := ss.filterMap fun n => getN n fs
theorem pick_names {fs : List FD} : ∀ {ss : List ByteArray}, (∀ n ∈ ss, n ∈ fs.map FD.name) → (pickFs ss fs).map FD.name = ss
  | [], _ => rfl
  | n :: r, h => by
    cases hg : getN n fs with
    | none => exact absurd (h n (by simp)) (getN_not hg)
    | some f =>
      have := pick_names (fs := fs) (ss := r) fun m hm => h m (by simp [hm])
      simp only [pickFs] at this
      simp only [pickFs, List.filterMap_cons, hg, List.map_cons, getN_name hg, this]
theorem getN_mem : ∀ {fs : List FD}, (fs.map FD.name).Nodup → ∀ {f : FD}, f ∈ fs → getN f.name fs = some f
  | [], _, _, h => by simp at h
  | x :: r, hn, f, h => by
    simp only [getN]
    split
    · rename_i he
      exact congrArg some (inj_name hn (by simp) h he.symm)
    · rename_i he
      rcases List.mem_cons.1 h with rfl | h
      · exact absurd rfl he
      · exact getN_mem (List.nodup_cons.1 hn).2 h
theorem pick_self {fs : List FD} (hn : (fs.map FD.name).Nodup) : pickFs (fs.map FD.name) fs = fs := by
  have : ∀ l : List FD, (∀ f ∈ l, f ∈ fs) → pickFs (l.map FD.name) fs = l := by
    intro l
    induction l with
    | nil => intro _; rfl
    | cons x r ih =>
      intro h
      have := ih fun f hf => h f (by simp [hf])
      simp only [pickFs] at this
      simp only [pickFs, List.map_cons, List.filterMap_cons, getN_mem hn (h x (by simp)), this]
  exact this fs fun f hf => hf
theorem pick_perm {ss : List ByteArray} {fs : List FD} (hn : (fs.map FD.name).Nodup) (h : ss.Perm (fs.map FD.name)) : (pickFs ss fs).Perm fs := by
  have := h.filterMap (fun n => getN n fs)
  have e := pick_self hn
  unfold pickFs at e
  rw [e] at this
  exact this
theorem pick_get {ss : List ByteArray} {fs : List FD} (h : ∀ n ∈ ss, n ∈ fs.map FD.name) {k : Nat} {f : FD} (hk : (pickFs ss fs)[k]? = some f) : ss[k]? = some f.name ∧ getN f.name fs = some f := by
  constructor
  · have := congrArg (fun l => l[k]?) (pick_names h)
    simp only [List.getElem?_map, hk, Option.map_some] at this
    exact this.symm
  · have := List.mem_of_getElem? hk
    unfold pickFs at this
    obtain ⟨n, _, hg⟩ := List.mem_filterMap.1 this
    rw [getN_name hg]; exact hg
theorem findF_of_get {n : ByteArray} {d : Dk} {g : FD} (h : getN n d.dat.fs = some g) : ∃ i f, findF n d.fs 0 = some (i, f) ∧ f.dat = g := by
  have := findF_get (n := n) (fs := d.fs) (j := 0)
  rw [show getN n (d.fs.map Fl.dat) = some g from h] at this
  cases hf : findF n d.fs 0 with
  | none => rw [hf] at this; cases this
  | some p => rw [hf] at this; exact ⟨p.1, p.2, rfl, by simpa using this⟩
end Go.Proofs.Ytpedbknmkgcldaa

namespace Go.Proofs.Ytpedbknmkgcldaa
open Go.Ab Go.RowKit Go.MapKept
attribute [local irreducible] ACalls AW ADraw Into
set_option maxRecDepth 100000
theorem crash_same (d : Dk) (hd : d.dat.fine) (picks : List Int) (hp : ∀ k ∈ picks, -9223372036854775808 ≤ k ∧ k < 9223372036854775808) (hpl : picks.length ≤ 140737488355328) (hsame : ∀ f ∈ d.dat.fs, f.safe = f.seen) :
    ACalls Try.prog 21 [.ptr 0 0, .d (.sl 1 (nums picks))] d.L (fun av L => ∃ ss : List ByteArray, ss.Perm (d.dat.fs.map FD.name) ∧ risingS ss ∧ av = .d (.sl 2 ((crashAt (pickFs ss d.dat.fs) picks ss.length).1.map FileS.cs)) ∧ L = d.L) := by
  refine acalls_go ttOk zOk foOk Try.func21 rfl Try.ntmps21 rfl false rfl ?_
  conv => whnf
  ((with_reducible refine (keys_ok _).mono ?_); rintro _ _ ⟨rfl, rfl⟩; (conv => whnf))
  refine (sorted_ok _ (d.fs.map Fl.name) (ent_keys _) (by have := hd.nd; rwa [show d.dat.fs = d.fs.map Fl.dat from rfl, dat_names] at this) (by have := hd.few; simp [Dk.dat] at this ⊢; omega) ?_).mono ?_
  · intro n hn
    obtain ⟨f, hf, rfl⟩ := List.mem_map.1 hn
    have := goodS_size (hd.good f.dat (List.mem_map.2 ⟨f, hf, rfl⟩))
    have h2 : (1000 : Nat) ≤ maxLen := by decide
    exact Nat.le_trans this h2
  rintro _ _ ⟨rfl, ss, hss, hr, rfl⟩
  have hss' : ss.Perm (d.dat.fs.map FD.name) := by rw [show d.dat.fs = d.fs.map Fl.dat from rfl, dat_names]; exact hss
  conv => whnf
  have hln : ss.length = d.fs.length := by have := hss.length_eq; simpa using this
  have hmem : ∀ n ∈ ss, n ∈ d.dat.fs.map FD.name := fun n hn => hss'.subset hn
  have hpk : (pickFs ss d.dat.fs).length = ss.length := by have := congrArg List.length (pick_names hmem); simpa using this
  have hfew : ss.length ≤ 16 := by have := hd.few; rw [hln]; simpa [Dk.dat] using this
  refine loop_go ttOk zOk foOk (σ := Nat) (fun k => ([(0, .ptr 0 0), (1, .d (.sl 1 (nums (crashAt (pickFs ss d.dat.fs) picks k).2))), (4, .arr 2), (17, .arr 3), (18, .d (.int .i64 (strs ss).length)), (19, .d (.int .i64 k))], d.L ++ [.row 36 2 ((crashAt (pickFs ss d.dat.fs) picks k).1.map FileS.cs) false, .row 9 1 (strs ss) false]))
    (fun k => k ≤ ss.length) (fun k => ss.length - k) [0, 1, 4, 17, 18, 19] ?_ ?_
  · conv => whnf
    exact ⟨0, rfl, rfl, by omega⟩
  · rintro k hk
    conv => whnf
    refine sp_dec (fun h => ?_) (fun h => ?_) <;> simp only [strs, List.length_map] at h
    · conv => whnf
      have hkl : k < ss.length := by omega
      obtain ⟨f, hff⟩ : ∃ f, (pickFs ss d.dat.fs)[k]? = some f := ⟨_, List.getElem?_eq_getElem (by omega)⟩
      obtain ⟨hnk, hget⟩ := pick_get hmem hff
      refine ⟨by omega, by simp [strs]; omega, ?_⟩
      conv => whnf
      refine ⟨[.str f.name], by simp [strs, hnk], ?_⟩
      conv => whnf
      obtain ⟨i, g, hgf, rfl⟩ := findF_of_get hget
      refine ⟨_, mfind_ent _ d.fs 0, ?_⟩
      rw [hgf]
      conv => whnf
      repeat' (first | ((with_reducible apply rd_intro); (focus (intro K hK; (conv => whnf); first | exact hK | (intro z hz; rw [wrapI (by omega)] at hz; subst hz; exact hK))); (conv => whnf)) | ((with_reducible apply gd_and); (focus ((conv => whnf); first | rfl | (intro K hK; (conv => whnf); first | exact hK | (intro z hz; rw [wrapI (by omega)] at hz; subst hz; exact hK)))); (conv => whnf)) | ((with_reducible apply z_wrap); (focus omega); (conv => whnf)) | ((with_reducible refine mt_dec (fun _ => ?_) (fun _ => ?_)) <;> (conv => whnf)) | ((with_reducible refine mt_eq (fun _ => ?_) (fun _ => ?_)) <;> (conv => whnf)) | ((with_reducible refine mt_ne (fun _ => ?_) (fun _ => ?_)) <;> (conv => whnf)) | ((with_reducible refine mt_not (fun _ => ?_) (fun _ => ?_)) <;> (conv => whnf)) | ((with_reducible refine mt_any (fun _ => ?_) (fun _ => ?_)) <;> (conv => whnf)))
      refine ⟨g.cs, box_at (findF_mem hgf), ?_⟩
      conv => whnf
      repeat' (first | ((with_reducible apply rd_intro); (focus (intro K hK; (conv => whnf); first | exact hK | (intro z hz; rw [wrapI (by omega)] at hz; subst hz; exact hK))); (conv => whnf)) | ((with_reducible apply gd_and); (focus ((conv => whnf); first | rfl | (intro K hK; (conv => whnf); first | exact hK | (intro z hz; rw [wrapI (by omega)] at hz; subst hz; exact hK)))); (conv => whnf)) | ((with_reducible apply z_wrap); (focus omega); (conv => whnf)) | ((with_reducible refine mt_dec (fun _ => ?_) (fun _ => ?_)) <;> (conv => whnf)) | ((with_reducible refine mt_eq (fun _ => ?_) (fun _ => ?_)) <;> (conv => whnf)) | ((with_reducible refine mt_ne (fun _ => ?_) (fun _ => ?_)) <;> (conv => whnf)) | ((with_reducible refine mt_not (fun _ => ?_) (fun _ => ?_)) <;> (conv => whnf)) | ((with_reducible refine mt_any (fun _ => ?_) (fun _ => ?_)) <;> (conv => whnf)))
      ((with_reducible refine draw_pl ttOk zOk foOk mixedOk pl21x6 ?_ ?_); (focus kernel_rfl); (conv => whnf))
      repeat' (first | ((with_reducible apply rd_intro); (focus (intro K hK; (conv => whnf); first | exact hK | (intro z hz; rw [wrapI (by omega)] at hz; subst hz; exact hK))); (conv => whnf)) | ((with_reducible apply gd_and); (focus ((conv => whnf); first | rfl | (intro K hK; (conv => whnf); first | exact hK | (intro z hz; rw [wrapI (by omega)] at hz; subst hz; exact hK)))); (conv => whnf)) | ((with_reducible apply z_wrap); (focus omega); (conv => whnf)) | ((with_reducible refine mt_dec (fun _ => ?_) (fun _ => ?_)) <;> (conv => whnf)) | ((with_reducible refine mt_eq (fun _ => ?_) (fun _ => ?_)) <;> (conv => whnf)) | ((with_reducible refine mt_ne (fun _ => ?_) (fun _ => ?_)) <;> (conv => whnf)) | ((with_reducible refine mt_not (fun _ => ?_) (fun _ => ?_)) <;> (conv => whnf)) | ((with_reducible refine mt_any (fun _ => ?_) (fun _ => ?_)) <;> (conv => whnf)))
      ((with_reducible apply rd_intro); (focus (intro K hK; (conv => whnf); exact ⟨g.cs, box_at (findF_mem hgf), hK⟩)); (conv => whnf))
      repeat' (first | ((with_reducible apply rd_intro); (focus (intro K hK; (conv => whnf); first | exact hK | (intro z hz; rw [wrapI (by omega)] at hz; subst hz; exact hK))); (conv => whnf)) | ((with_reducible apply gd_and); (focus ((conv => whnf); first | rfl | (intro K hK; (conv => whnf); first | exact hK | (intro z hz; rw [wrapI (by omega)] at hz; subst hz; exact hK)))); (conv => whnf)) | ((with_reducible apply z_wrap); (focus omega); (conv => whnf)) | ((with_reducible refine mt_dec (fun _ => ?_) (fun _ => ?_)) <;> (conv => whnf)) | ((with_reducible refine mt_eq (fun _ => ?_) (fun _ => ?_)) <;> (conv => whnf)) | ((with_reducible refine mt_ne (fun _ => ?_) (fun _ => ?_)) <;> (conv => whnf)) | ((with_reducible refine mt_not (fun _ => ?_) (fun _ => ?_)) <;> (conv => whnf)) | ((with_reducible refine mt_any (fun _ => ?_) (fun _ => ?_)) <;> (conv => whnf)))
      ((with_reducible apply rd_intro); (focus (intro K hK; (conv => whnf); exact ⟨g.cs, box_at (findF_mem hgf), hK⟩)); (conv => whnf))
      repeat' (first | ((with_reducible apply rd_intro); (focus (intro K hK; (conv => whnf); first | exact hK | (intro z hz; rw [wrapI (by omega)] at hz; subst hz; exact hK))); (conv => whnf)) | ((with_reducible apply gd_and); (focus ((conv => whnf); first | rfl | (intro K hK; (conv => whnf); first | exact hK | (intro z hz; rw [wrapI (by omega)] at hz; subst hz; exact hK)))); (conv => whnf)) | ((with_reducible apply z_wrap); (focus omega); (conv => whnf)) | ((with_reducible refine mt_dec (fun _ => ?_) (fun _ => ?_)) <;> (conv => whnf)) | ((with_reducible refine mt_eq (fun _ => ?_) (fun _ => ?_)) <;> (conv => whnf)) | ((with_reducible refine mt_ne (fun _ => ?_) (fun _ => ?_)) <;> (conv => whnf)) | ((with_reducible refine mt_not (fun _ => ?_) (fun _ => ?_)) <;> (conv => whnf)) | ((with_reducible refine mt_any (fun _ => ?_) (fun _ => ?_)) <;> (conv => whnf)))
      ((with_reducible refine (equal_ok g.safe g.seen).mono ?_); rintro _ _ ⟨rfl, rfl⟩; (conv => whnf))
      repeat' (first | ((with_reducible apply rd_intro); (focus (intro K hK; (conv => whnf); first | exact hK | (intro z hz; rw [wrapI (by omega)] at hz; subst hz; exact hK))); (conv => whnf)) | ((with_reducible apply gd_and); (focus ((conv => whnf); first | rfl | (intro K hK; (conv => whnf); first | exact hK | (intro z hz; rw [wrapI (by omega)] at hz; subst hz; exact hK)))); (conv => whnf)) | ((with_reducible apply z_wrap); (focus omega); (conv => whnf)) | ((with_reducible refine mt_dec (fun _ => ?_) (fun _ => ?_)) <;> (conv => whnf)) | ((with_reducible refine mt_eq (fun _ => ?_) (fun _ => ?_)) <;> (conv => whnf)) | ((with_reducible refine mt_ne (fun _ => ?_) (fun _ => ?_)) <;> (conv => whnf)) | ((with_reducible refine mt_not (fun _ => ?_) (fun _ => ?_)) <;> (conv => whnf)) | ((with_reducible refine mt_any (fun _ => ?_) (fun _ => ?_)) <;> (conv => whnf)))
      · rename_i h1 h2
        exact absurd (hsame g.dat (mem_getN hget)) (by simp at h1; exact h1)
      · rename_i h1 h2
        exact absurd (hsame g.dat (mem_getN hget)) (by simp at h1; exact h1)
      · have hlen : g.seen.length ≤ 1048576 := (hd.ok.len g.dat (mem_getN hget)).1
        have heq : g.dat.safe = g.dat.seen := by rename_i h1; simp at h1; exact h1
        have hst : stepC g.dat (crashAt (pickFs ss d.dat.fs) picks k).2 = (g.seen, (crashAt (pickFs ss d.dat.fs) picks k).2) := by rw [stepC, if_pos heq]; rfl
        ((with_reducible refine (clone_ok g.seen (by omega)).mono ?_); rintro _ _ ⟨rfl, rfl⟩; (conv => whnf))
        repeat' (first | ((with_reducible apply rd_intro); (focus (intro K hK; (conv => whnf); first | exact hK | (intro z hz; rw [wrapI (by omega)] at hz; subst hz; exact hK))); (conv => whnf)) | ((with_reducible apply gd_and); (focus ((conv => whnf); first | rfl | (intro K hK; (conv => whnf); first | exact hK | (intro z hz; rw [wrapI (by omega)] at hz; subst hz; exact hK)))); (conv => whnf)) | ((with_reducible apply z_wrap); (focus omega); (conv => whnf)) | ((with_reducible refine mt_dec (fun _ => ?_) (fun _ => ?_)) <;> (conv => whnf)) | ((with_reducible refine mt_eq (fun _ => ?_) (fun _ => ?_)) <;> (conv => whnf)) | ((with_reducible refine mt_ne (fun _ => ?_) (fun _ => ?_)) <;> (conv => whnf)) | ((with_reducible refine mt_not (fun _ => ?_) (fun _ => ?_)) <;> (conv => whnf)) | ((with_reducible refine mt_any (fun _ => ?_) (fun _ => ?_)) <;> (conv => whnf)))
        refine ⟨by have := crash_length (fs := pickFs ss d.dat.fs) (picks := picks) (show k ≤ (pickFs ss d.dat.fs).length by omega); rw [List.length_map, this]; simp only [List.length_cons, List.length_nil]; omega, ?_⟩
        conv => whnf
        repeat' (first | ((with_reducible apply rd_intro); (focus (intro K hK; (conv => whnf); first | exact hK | (intro z hz; rw [wrapI (by omega)] at hz; subst hz; exact hK))); (conv => whnf)) | ((with_reducible apply gd_and); (focus ((conv => whnf); first | rfl | (intro K hK; (conv => whnf); first | exact hK | (intro z hz; rw [wrapI (by omega)] at hz; subst hz; exact hK)))); (conv => whnf)) | ((with_reducible apply z_wrap); (focus omega); (conv => whnf)) | ((with_reducible refine mt_dec (fun _ => ?_) (fun _ => ?_)) <;> (conv => whnf)) | ((with_reducible refine mt_eq (fun _ => ?_) (fun _ => ?_)) <;> (conv => whnf)) | ((with_reducible refine mt_ne (fun _ => ?_) (fun _ => ?_)) <;> (conv => whnf)) | ((with_reducible refine mt_not (fun _ => ?_) (fun _ => ?_)) <;> (conv => whnf)) | ((with_reducible refine mt_any (fun _ => ?_) (fun _ => ?_)) <;> (conv => whnf)))
        refine ⟨k + 1, ?_, ?_, by omega, by omega⟩
        · rw [crashAt_succ hff, hst]; rfl
        · rw [crashAt_succ hff, hst, List.map_append]; rfl
    · conv => whnf
      obtain rfl : k = ss.length := by omega
      exact ⟨ss, hss', hr, rfl, rfl⟩
end Go.Proofs.Ytpedbknmkgcldaa

namespace Go.Proofs.Ytpedbknmkgcldaa
open Go.Ab Go.RowKit Go.MapKept
attribute [local irreducible] ACalls AW ADraw Into
set_option maxRecDepth 100000
theorem copyBytes_ok (xs : List UInt8) (hm : xs.length ≤ 140737488355328) : ACalls Try.prog 22 [.d (.sl 1 (u8s xs))] [] (fun av L => av = .d (.sl 1 (u8s xs)) ∧ L = []) := by
  refine acalls_go ttOk zOk foOk Try.func22 rfl Try.ntmps22 rfl false rfl ?_
  conv => whnf
  refine loop_go ttOk zOk foOk (σ := Nat) (fun k => ([(0, .d (.sl 1 (u8s xs))), (3, .arr 0), (4, .d (.int .i64 k))], [.row 5 1 (u8s (xs.take k)) false])) (fun k => k ≤ xs.length) (fun k => xs.length - k) [0, 3, 4] ?_ ?_
  · conv => whnf
    exact ⟨0, rfl, rfl, by omega⟩
  · rintro k hk
    conv => whnf
    ((with_reducible refine mt_dec (fun _ => ?_) (fun _ => ?_)) <;> (conv => whnf))
    · rename_i h
      simp only [u8s_length] at h
      obtain ⟨a, ha⟩ : ∃ a, xs[k]? = some a := ⟨_, List.getElem?_eq_getElem (by omega)⟩
      ((with_reducible refine ix_u8 ha ?_ ?_); (focus (first | rfl | omega)); (conv => whnf))
      refine ⟨by simp [u8s]; omega, ?_⟩
      conv => whnf
      repeat' (first | ((with_reducible apply rd_intro); (focus (intro K hK; (conv => whnf); first | exact hK | (intro z hz; rw [wrapI (by omega)] at hz; subst hz; exact hK))); (conv => whnf)) | ((with_reducible apply gd_and); (focus ((conv => whnf); first | rfl | (intro K hK; (conv => whnf); first | exact hK | (intro z hz; rw [wrapI (by omega)] at hz; subst hz; exact hK)))); (conv => whnf)) | ((with_reducible apply z_wrap); (focus omega); (conv => whnf)) | ((with_reducible refine mt_dec (fun _ => ?_) (fun _ => ?_)) <;> (conv => whnf)) | ((with_reducible refine mt_eq (fun _ => ?_) (fun _ => ?_)) <;> (conv => whnf)) | ((with_reducible refine mt_ne (fun _ => ?_) (fun _ => ?_)) <;> (conv => whnf)) | ((with_reducible refine mt_not (fun _ => ?_) (fun _ => ?_)) <;> (conv => whnf)) | ((with_reducible refine mt_any (fun _ => ?_) (fun _ => ?_)) <;> (conv => whnf)))
      refine ⟨k + 1, rfl, ?_, by omega, by omega⟩
      rw [List.take_add_one, ha]
      simp [u8s]
    · rename_i h
      simp only [u8s_length] at h
      obtain rfl : k = xs.length := by omega
      exact ⟨by simp, by simp⟩
theorem copyBytes_row (xs : List UInt8) (hm : xs.length ≤ 140737488355328) : ACalls Try.prog 22 [.d (.sl 1 (u8s xs))] [] (fun av L => av = .arr 0 ∧ L = [.row 5 1 (u8s xs) false]) := by
  refine acalls_go ttOk zOk foOk Try.func22 rfl Try.ntmps22 rfl true rfl ?_
  conv => whnf
  refine loop_go ttOk zOk foOk (σ := Nat) (fun k => ([(0, .d (.sl 1 (u8s xs))), (3, .arr 0), (4, .d (.int .i64 k))], [.row 5 1 (u8s (xs.take k)) false])) (fun k => k ≤ xs.length) (fun k => xs.length - k) [0, 3, 4] ?_ ?_
  · conv => whnf
    exact ⟨0, rfl, rfl, by omega⟩
  · rintro k hk
    conv => whnf
    ((with_reducible refine mt_dec (fun _ => ?_) (fun _ => ?_)) <;> (conv => whnf))
    · rename_i h
      simp only [u8s_length] at h
      obtain ⟨a, ha⟩ : ∃ a, xs[k]? = some a := ⟨_, List.getElem?_eq_getElem (by omega)⟩
      ((with_reducible refine ix_u8 ha ?_ ?_); (focus (first | rfl | omega)); (conv => whnf))
      refine ⟨by simp [u8s]; omega, ?_⟩
      conv => whnf
      repeat' (first | ((with_reducible apply rd_intro); (focus (intro K hK; (conv => whnf); first | exact hK | (intro z hz; rw [wrapI (by omega)] at hz; subst hz; exact hK))); (conv => whnf)) | ((with_reducible apply gd_and); (focus ((conv => whnf); first | rfl | (intro K hK; (conv => whnf); first | exact hK | (intro z hz; rw [wrapI (by omega)] at hz; subst hz; exact hK)))); (conv => whnf)) | ((with_reducible apply z_wrap); (focus omega); (conv => whnf)) | ((with_reducible refine mt_dec (fun _ => ?_) (fun _ => ?_)) <;> (conv => whnf)) | ((with_reducible refine mt_eq (fun _ => ?_) (fun _ => ?_)) <;> (conv => whnf)) | ((with_reducible refine mt_ne (fun _ => ?_) (fun _ => ?_)) <;> (conv => whnf)) | ((with_reducible refine mt_not (fun _ => ?_) (fun _ => ?_)) <;> (conv => whnf)) | ((with_reducible refine mt_any (fun _ => ?_) (fun _ => ?_)) <;> (conv => whnf)))
      refine ⟨k + 1, rfl, ?_, by omega, by omega⟩
      rw [List.take_add_one, ha]
      simp [u8s]
    · rename_i h
      simp only [u8s_length] at h
      obtain rfl : k = xs.length := by omega
      exact ⟨by simp, by simp⟩
end Go.Proofs.Ytpedbknmkgcldaa

namespace Go.Proofs.Ytpedbknmkgcldaa
open Go.Ab Go.RowKit Go.MapKept
attribute [local irreducible] ACalls AW ADraw Into
set_option maxRecDepth 100000
theorem rename_ok (d : Dk) (n t : ByteArray) : ACalls Try.prog 23 [.ptr 0 0, .d (.str n), .d (.str t)] d.L (fun av L => ∃ d' : Dk, av = .d (.int .i64 (d.dat.rename n t).1) ∧ L = d'.L ∧ d'.dat = (d.dat.rename n t).2) := by
  refine acalls_go ttOk zOk foOk Try.func23 rfl Try.ntmps23 rfl false rfl ?_
  conv => whnf
  ((with_reducible refine (good_ok t).mono ?_); rintro _ _ ⟨rfl, rfl⟩; (conv => whnf))
  refine (call_by d _ n true).mono ?_
  rintro _ _ (⟨rfl, rfl, h⟩ | ⟨rfl, rfl, ht, hg, ho⟩ | ⟨rfl, rfl, ht, hg, ho, hf⟩ | ⟨i, f, rfl, rfl, ht, hg, ho, hf⟩)
  · conv => whnf
    repeat' (first | ((with_reducible apply rd_intro); (focus (intro K hK; (conv => whnf); first | exact hK | (intro z hz; rw [wrapI (by omega)] at hz; subst hz; exact hK))); (conv => whnf)) | ((with_reducible apply gd_and); (focus ((conv => whnf); first | rfl | (intro K hK; (conv => whnf); first | exact hK | (intro z hz; rw [wrapI (by omega)] at hz; subst hz; exact hK)))); (conv => whnf)) | ((with_reducible apply z_wrap); (focus omega); (conv => whnf)) | ((with_reducible refine mt_dec (fun _ => ?_) (fun _ => ?_)) <;> (conv => whnf)) | ((with_reducible refine mt_eq (fun _ => ?_) (fun _ => ?_)) <;> (conv => whnf)) | ((with_reducible refine mt_ne (fun _ => ?_) (fun _ => ?_)) <;> (conv => whnf)) | ((with_reducible refine mt_not (fun _ => ?_) (fun _ => ?_)) <;> (conv => whnf)) | ((with_reducible refine mt_any (fun _ => ?_) (fun _ => ?_)) <;> (conv => whnf)))
    rw [ren_bad h]
    exact ⟨d, rfl, rfl, rfl⟩
  · conv => whnf
    repeat' (first | ((with_reducible apply rd_intro); (focus (intro K hK; (conv => whnf); first | exact hK | (intro z hz; rw [wrapI (by omega)] at hz; subst hz; exact hK))); (conv => whnf)) | ((with_reducible apply gd_and); (focus ((conv => whnf); first | rfl | (intro K hK; (conv => whnf); first | exact hK | (intro z hz; rw [wrapI (by omega)] at hz; subst hz; exact hK)))); (conv => whnf)) | ((with_reducible apply z_wrap); (focus omega); (conv => whnf)) | ((with_reducible refine mt_dec (fun _ => ?_) (fun _ => ?_)) <;> (conv => whnf)) | ((with_reducible refine mt_eq (fun _ => ?_) (fun _ => ?_)) <;> (conv => whnf)) | ((with_reducible refine mt_ne (fun _ => ?_) (fun _ => ?_)) <;> (conv => whnf)) | ((with_reducible refine mt_not (fun _ => ?_) (fun _ => ?_)) <;> (conv => whnf)) | ((with_reducible refine mt_any (fun _ => ?_) (fun _ => ?_)) <;> (conv => whnf)))
    rw [ren_off ht hg ho]
    exact ⟨d.spend, rfl, rfl, rfl⟩
  · conv => whnf
    repeat' (first | ((with_reducible apply rd_intro); (focus (intro K hK; (conv => whnf); first | exact hK | (intro z hz; rw [wrapI (by omega)] at hz; subst hz; exact hK))); (conv => whnf)) | ((with_reducible apply gd_and); (focus ((conv => whnf); first | rfl | (intro K hK; (conv => whnf); first | exact hK | (intro z hz; rw [wrapI (by omega)] at hz; subst hz; exact hK)))); (conv => whnf)) | ((with_reducible apply z_wrap); (focus omega); (conv => whnf)) | ((with_reducible refine mt_dec (fun _ => ?_) (fun _ => ?_)) <;> (conv => whnf)) | ((with_reducible refine mt_eq (fun _ => ?_) (fun _ => ?_)) <;> (conv => whnf)) | ((with_reducible refine mt_ne (fun _ => ?_) (fun _ => ?_)) <;> (conv => whnf)) | ((with_reducible refine mt_not (fun _ => ?_) (fun _ => ?_)) <;> (conv => whnf)) | ((with_reducible refine mt_any (fun _ => ?_) (fun _ => ?_)) <;> (conv => whnf)))
    rw [ren_none ht hg ho (getN_none hf)]
    exact ⟨d.spend, rfl, rfl, rfl⟩
  · conv => whnf
    repeat' (first | ((with_reducible apply rd_intro); (focus (intro K hK; (conv => whnf); first | exact hK | (intro z hz; rw [wrapI (by omega)] at hz; subst hz; exact hK))); (conv => whnf)) | ((with_reducible apply gd_and); (focus ((conv => whnf); first | rfl | (intro K hK; (conv => whnf); first | exact hK | (intro z hz; rw [wrapI (by omega)] at hz; subst hz; exact hK)))); (conv => whnf)) | ((with_reducible apply z_wrap); (focus omega); (conv => whnf)) | ((with_reducible refine mt_dec (fun _ => ?_) (fun _ => ?_)) <;> (conv => whnf)) | ((with_reducible refine mt_eq (fun _ => ?_) (fun _ => ?_)) <;> (conv => whnf)) | ((with_reducible refine mt_ne (fun _ => ?_) (fun _ => ?_)) <;> (conv => whnf)) | ((with_reducible refine mt_not (fun _ => ?_) (fun _ => ?_)) <;> (conv => whnf)) | ((with_reducible refine mt_any (fun _ => ?_) (fun _ => ?_)) <;> (conv => whnf)))
    rw [ren_some ht hg ho (getN_some hf)]
    refine ⟨_, mfind_ent n d.fs 0, ?_⟩
    rw [hf]
    conv => whnf
    repeat' (first | ((with_reducible apply rd_intro); (focus (intro K hK; (conv => whnf); first | exact hK | (intro z hz; rw [wrapI (by omega)] at hz; subst hz; exact hK))); (conv => whnf)) | ((with_reducible apply gd_and); (focus ((conv => whnf); first | rfl | (intro K hK; (conv => whnf); first | exact hK | (intro z hz; rw [wrapI (by omega)] at hz; subst hz; exact hK)))); (conv => whnf)) | ((with_reducible apply z_wrap); (focus omega); (conv => whnf)) | ((with_reducible refine mt_dec (fun _ => ?_) (fun _ => ?_)) <;> (conv => whnf)) | ((with_reducible refine mt_eq (fun _ => ?_) (fun _ => ?_)) <;> (conv => whnf)) | ((with_reducible refine mt_ne (fun _ => ?_) (fun _ => ?_)) <;> (conv => whnf)) | ((with_reducible refine mt_not (fun _ => ?_) (fun _ => ?_)) <;> (conv => whnf)) | ((with_reducible refine mt_any (fun _ => ?_) (fun _ => ?_)) <;> (conv => whnf)))
    refine ⟨_, 2, _, by rw [erase_ent]; exact mfind_ent t (d.fs.eraseIdx i) 0, rfl, ?_⟩
    intro L' hL
    have hdel := getN_del hf
    cases ht' : findF t (d.fs.eraseIdx i) 0 with
    | none =>
      rw [ht'] at hL
      obtain rfl : L' = [.cells [.d (.int .i64 d.spend.calls), .d (.bool d.spend.off), .d (.int .i64 d.spend.upto), .map 1], .map ((d.fs.eraseIdx i ++ [Fl.mk t f.b f.safe f.seen]).map Fl.ent), .dead] := by rw [hL]; simp [mputAt, erase_ent, Fl.ent, Dk.spend]
      clear hL
      conv => whnf
      exact ⟨{ d.spend with fs := d.fs.eraseIdx i ++ [Fl.mk t f.b f.safe f.seen] }, rfl, rfl, by
        have hn : getN t (delN n d.dat.fs) = none := by rw [← hdel]; exact getN_none (d := { d with fs := d.fs.eraseIdx i }) ht'
        simp only [Dk.dat, Dk.spend, DD.spend, List.map_append, setN]
        simp only [Dk.dat] at hdel hn
        rw [hdel, hn]; rfl⟩
    | some q =>
      obtain ⟨m, g⟩ := q
      rw [ht'] at hL
      have hput := put_dat (d := { d with fs := d.fs.eraseIdx i }) ht' (fun _ => ⟨t, f.safe, f.seen⟩) ⟨t, f.b, f.safe, f.seen⟩ rfl
      obtain rfl : L' = [.cells [.d (.int .i64 d.spend.calls), .d (.bool d.spend.off), .d (.int .i64 d.spend.upto), .map 1], .map (((d.fs.eraseIdx i).set m (Fl.mk t f.b f.safe f.seen)).map Fl.ent), .dead] := by rw [hL]; simp [mputAt, erase_ent, Fl.ent, Dk.spend, List.map_set]
      clear hL
      conv => whnf
      exact ⟨{ d.spend with fs := (d.fs.eraseIdx i).set m (Fl.mk t f.b f.safe f.seen) }, rfl, rfl, by
        have hn : getN t (delN n d.dat.fs) = some g.dat := by rw [← hdel]; exact getN_some (d := { d with fs := d.fs.eraseIdx i }) ht'
        have h2 := congrArg DD.fs hput
        simp only [Dk.dat, Dk.put] at h2
        simp only [Dk.dat, Dk.spend, DD.spend, setN]
        simp only [Dk.dat] at hdel hn
        rw [hn, h2, hdel]; rfl⟩
end Go.Proofs.Ytpedbknmkgcldaa

namespace Go.Proofs.Ytpedbknmkgcldaa
open Go.Ab Go.RowKit Go.MapKept
attribute [local irreducible] ACalls AW ADraw Into
set_option maxRecDepth 100000
def eqFile (f g : FileS) : Bool := (f.name.toList == g.name.toList) && (f.data == g.data)
theorem eqFile_ok (f g : FileS) (hm : f.data.length ≤ 140737488355328) : ACalls Try.prog 74 [.agg [.d (.str f.name), .d (.sl 1 (u8s f.data))], .agg [.d (.str g.name), .d (.sl 1 (u8s g.data))]] [] (fun av L => av = .d (.bool (eqFile f g)) ∧ L = []) := by
  refine acalls_go ttOk zOk foOk Try.func74 rfl Try.ntmps74 rfl false rfl ?_
  conv => whnf
  ((with_reducible refine mt_any (fun _ => ?_) (fun _ => ?_)) <;> (conv => whnf))
  · rename_i h
    ((with_reducible refine (eqBytes_ok f.data g.data hm).mono ?_); rintro _ _ ⟨rfl, rfl⟩; (conv => whnf))
    repeat' (first | ((with_reducible apply rd_intro); (focus (intro K hK; (conv => whnf); first | exact hK | (intro z hz; rw [wrapI (by omega)] at hz; subst hz; exact hK))); (conv => whnf)) | ((with_reducible apply gd_and); (focus ((conv => whnf); first | rfl | (intro K hK; (conv => whnf); first | exact hK | (intro z hz; rw [wrapI (by omega)] at hz; subst hz; exact hK)))); (conv => whnf)) | ((with_reducible apply z_wrap); (focus omega); (conv => whnf)) | ((with_reducible refine mt_dec (fun _ => ?_) (fun _ => ?_)) <;> (conv => whnf)) | ((with_reducible refine mt_eq (fun _ => ?_) (fun _ => ?_)) <;> (conv => whnf)) | ((with_reducible refine mt_ne (fun _ => ?_) (fun _ => ?_)) <;> (conv => whnf)) | ((with_reducible refine mt_not (fun _ => ?_) (fun _ => ?_)) <;> (conv => whnf)) | ((with_reducible refine mt_any (fun _ => ?_) (fun _ => ?_)) <;> (conv => whnf)))
    exact ⟨by simp [eqFile, h], rfl⟩
  · rename_i h
    exact ⟨by simp [eqFile, h, avOf1], rfl⟩
end Go.Proofs.Ytpedbknmkgcldaa

namespace Go.Proofs.Ytpedbknmkgcldaa
open Go.Ab Go.RowKit Go.MapKept
attribute [local irreducible] ACalls AW ADraw Into
set_option maxRecDepth 100000
theorem eqFile_iff (f g : FileS) : eqFile f g = true ↔ f = g := by
  unfold eqFile
  rw [Bool.and_eq_true, beq_iff_eq, beq_iff_eq]
  constructor
  · rintro ⟨h1, h2⟩
    cases f; cases g
    simp only [FileS.mk.injEq]
    exact ⟨toList_inj h1, h2⟩
  · rintro rfl
    exact ⟨rfl, rfl⟩
theorem eqFiles_ok (xs ys : List FileS) (hm : xs.length ≤ 140737488355328) (hd : ∀ f ∈ xs, f.data.length ≤ 140737488355328) : ACalls Try.prog 24 [.d (.sl 2 (xs.map FileS.cs)), .d (.sl 2 (ys.map FileS.cs))] [] (fun av L => ∃ t : Bool, (t = true ↔ xs = ys) ∧ av = .d (.bool t) ∧ L = []) := by
  refine acalls_go ttOk zOk foOk Try.func24 rfl Try.ntmps24 rfl false rfl ?_
  conv => whnf
  ((with_reducible refine mt_ne (fun _ => ?_) (fun _ => ?_)) <;> (conv => whnf))
  · rename_i h
    simp only [List.length_map] at h
    exact ⟨false, ⟨fun h => (by cases h), fun e => absurd (by rw [e]) h⟩, rfl, rfl⟩
  · rename_i h
    simp only [List.length_map] at h
    have hl : xs.length = ys.length := by omega
    refine loop_go ttOk zOk foOk (σ := Nat) (fun k => ([(0, .d (.sl 2 (xs.map FileS.cs))), (1, .d (.sl 2 (ys.map FileS.cs))), (5, .d (.int .i64 k))], [])) (fun k => k ≤ xs.length ∧ xs.take k = ys.take k) (fun k => xs.length - k) [0, 1, 5] ?_ ?_
    · conv => whnf
      exact ⟨0, rfl, rfl, by simp⟩
    · rintro k ⟨hk, he⟩
      conv => whnf
      ((with_reducible refine mt_dec (fun _ => ?_) (fun _ => ?_)) <;> (conv => whnf))
      · rename_i h
        simp only [List.length_map] at h
        obtain ⟨a, ha⟩ : ∃ a, xs[k]? = some a := ⟨_, List.getElem?_eq_getElem (by omega)⟩
        obtain ⟨b, hb⟩ : ∃ b, ys[k]? = some b := ⟨_, List.getElem?_eq_getElem (by omega)⟩
        ((with_reducible refine draw_pl ttOk zOk foOk mixedOk pl24x6 ?_ ?_); (focus kernel_rfl); (conv => whnf))
        repeat' (first | ((with_reducible apply rd_intro); (focus (intro K hK; (conv => whnf); first | exact hK | (intro z hz; rw [wrapI (by omega)] at hz; subst hz; exact hK))); (conv => whnf)) | ((with_reducible apply gd_and); (focus ((conv => whnf); first | rfl | (intro K hK; (conv => whnf); first | exact hK | (intro z hz; rw [wrapI (by omega)] at hz; subst hz; exact hK)))); (conv => whnf)) | ((with_reducible apply z_wrap); (focus omega); (conv => whnf)) | ((with_reducible refine mt_dec (fun _ => ?_) (fun _ => ?_)) <;> (conv => whnf)) | ((with_reducible refine mt_eq (fun _ => ?_) (fun _ => ?_)) <;> (conv => whnf)) | ((with_reducible refine mt_ne (fun _ => ?_) (fun _ => ?_)) <;> (conv => whnf)) | ((with_reducible refine mt_not (fun _ => ?_) (fun _ => ?_)) <;> (conv => whnf)) | ((with_reducible refine mt_any (fun _ => ?_) (fun _ => ?_)) <;> (conv => whnf)))
        ((with_reducible apply rd_intro); (focus (intro K hK; (conv => whnf); exact ix_map ha (by first | rfl | omega) hK)); (conv => whnf))
        repeat' (first | ((with_reducible apply rd_intro); (focus (intro K hK; (conv => whnf); first | exact hK | (intro z hz; rw [wrapI (by omega)] at hz; subst hz; exact hK))); (conv => whnf)) | ((with_reducible apply gd_and); (focus ((conv => whnf); first | rfl | (intro K hK; (conv => whnf); first | exact hK | (intro z hz; rw [wrapI (by omega)] at hz; subst hz; exact hK)))); (conv => whnf)) | ((with_reducible apply z_wrap); (focus omega); (conv => whnf)) | ((with_reducible refine mt_dec (fun _ => ?_) (fun _ => ?_)) <;> (conv => whnf)) | ((with_reducible refine mt_eq (fun _ => ?_) (fun _ => ?_)) <;> (conv => whnf)) | ((with_reducible refine mt_ne (fun _ => ?_) (fun _ => ?_)) <;> (conv => whnf)) | ((with_reducible refine mt_not (fun _ => ?_) (fun _ => ?_)) <;> (conv => whnf)) | ((with_reducible refine mt_any (fun _ => ?_) (fun _ => ?_)) <;> (conv => whnf)))
        ((with_reducible apply rd_intro); (focus (intro K hK; (conv => whnf); exact ix_map hb (by first | rfl | omega) hK)); (conv => whnf))
        repeat' (first | ((with_reducible apply rd_intro); (focus (intro K hK; (conv => whnf); first | exact hK | (intro z hz; rw [wrapI (by omega)] at hz; subst hz; exact hK))); (conv => whnf)) | ((with_reducible apply gd_and); (focus ((conv => whnf); first | rfl | (intro K hK; (conv => whnf); first | exact hK | (intro z hz; rw [wrapI (by omega)] at hz; subst hz; exact hK)))); (conv => whnf)) | ((with_reducible apply z_wrap); (focus omega); (conv => whnf)) | ((with_reducible refine mt_dec (fun _ => ?_) (fun _ => ?_)) <;> (conv => whnf)) | ((with_reducible refine mt_eq (fun _ => ?_) (fun _ => ?_)) <;> (conv => whnf)) | ((with_reducible refine mt_ne (fun _ => ?_) (fun _ => ?_)) <;> (conv => whnf)) | ((with_reducible refine mt_not (fun _ => ?_) (fun _ => ?_)) <;> (conv => whnf)) | ((with_reducible refine mt_any (fun _ => ?_) (fun _ => ?_)) <;> (conv => whnf)))
        ((with_reducible refine (eqFile_ok a b (hd a (List.mem_of_getElem? ha))).mono ?_); rintro _ _ ⟨rfl, rfl⟩; (conv => whnf))
        repeat' (first | ((with_reducible apply rd_intro); (focus (intro K hK; (conv => whnf); first | exact hK | (intro z hz; rw [wrapI (by omega)] at hz; subst hz; exact hK))); (conv => whnf)) | ((with_reducible apply gd_and); (focus ((conv => whnf); first | rfl | (intro K hK; (conv => whnf); first | exact hK | (intro z hz; rw [wrapI (by omega)] at hz; subst hz; exact hK)))); (conv => whnf)) | ((with_reducible apply z_wrap); (focus omega); (conv => whnf)) | ((with_reducible refine mt_dec (fun _ => ?_) (fun _ => ?_)) <;> (conv => whnf)) | ((with_reducible refine mt_eq (fun _ => ?_) (fun _ => ?_)) <;> (conv => whnf)) | ((with_reducible refine mt_ne (fun _ => ?_) (fun _ => ?_)) <;> (conv => whnf)) | ((with_reducible refine mt_not (fun _ => ?_) (fun _ => ?_)) <;> (conv => whnf)) | ((with_reducible refine mt_any (fun _ => ?_) (fun _ => ?_)) <;> (conv => whnf)))
        · rename_i h
          refine ⟨false, ⟨fun h => (by cases h), fun e => ?_⟩, rfl, rfl⟩
          subst e
          rw [ha] at hb; cases hb
          rw [(eqFile_iff a a).2 rfl] at h; cases h
        · rename_i h
          exact ⟨k + 1, rfl, rfl, ⟨by omega, (take_succ_eq ha hb he).2 ((eqFile_iff a b).1 h)⟩, by omega⟩
      · rename_i h
        simp only [List.length_map] at h
        obtain rfl : k = xs.length := by omega
        rw [List.take_length, hl, List.take_length] at he
        exact ⟨true, ⟨fun _ => he, fun _ => rfl⟩, rfl, rfl⟩
end Go.Proofs.Ytpedbknmkgcldaa

namespace Go.Proofs.Ytpedbknmkgcldaa
open Go.Ab Go.RowKit Go.MapKept
attribute [local irreducible] ACalls AW ADraw Into
set_option maxRecDepth 100000
theorem remove_ok (d : Dk) (n : ByteArray) : ACalls Try.prog 25 [.ptr 0 0, .d (.str n)] d.L (fun av L => ∃ d' : Dk, av = .d (.int .i64 (d.dat.remove n).1) ∧ L = d'.L ∧ d'.dat = (d.dat.remove n).2) := by
  refine acalls_go ttOk zOk foOk Try.func25 rfl Try.ntmps25 rfl false rfl ?_
  conv => whnf
  refine (call_by d true n true).mono ?_
  rintro _ _ (⟨rfl, rfl, h | h⟩ | ⟨rfl, rfl, _, hg, ho⟩ | ⟨rfl, rfl, _, hg, ho, hf⟩ | ⟨i, f, rfl, rfl, _, hg, ho, hf⟩)
  · cases h
  · conv => whnf
    repeat' (first | ((with_reducible apply rd_intro); (focus (intro K hK; (conv => whnf); first | exact hK | (intro z hz; rw [wrapI (by omega)] at hz; subst hz; exact hK))); (conv => whnf)) | ((with_reducible apply gd_and); (focus ((conv => whnf); first | rfl | (intro K hK; (conv => whnf); first | exact hK | (intro z hz; rw [wrapI (by omega)] at hz; subst hz; exact hK)))); (conv => whnf)) | ((with_reducible apply z_wrap); (focus omega); (conv => whnf)) | ((with_reducible refine mt_dec (fun _ => ?_) (fun _ => ?_)) <;> (conv => whnf)) | ((with_reducible refine mt_eq (fun _ => ?_) (fun _ => ?_)) <;> (conv => whnf)) | ((with_reducible refine mt_ne (fun _ => ?_) (fun _ => ?_)) <;> (conv => whnf)) | ((with_reducible refine mt_not (fun _ => ?_) (fun _ => ?_)) <;> (conv => whnf)) | ((with_reducible refine mt_any (fun _ => ?_) (fun _ => ?_)) <;> (conv => whnf)))
    rw [rem_bad h]
    exact ⟨d, rfl, rfl, rfl⟩
  · conv => whnf
    repeat' (first | ((with_reducible apply rd_intro); (focus (intro K hK; (conv => whnf); first | exact hK | (intro z hz; rw [wrapI (by omega)] at hz; subst hz; exact hK))); (conv => whnf)) | ((with_reducible apply gd_and); (focus ((conv => whnf); first | rfl | (intro K hK; (conv => whnf); first | exact hK | (intro z hz; rw [wrapI (by omega)] at hz; subst hz; exact hK)))); (conv => whnf)) | ((with_reducible apply z_wrap); (focus omega); (conv => whnf)) | ((with_reducible refine mt_dec (fun _ => ?_) (fun _ => ?_)) <;> (conv => whnf)) | ((with_reducible refine mt_eq (fun _ => ?_) (fun _ => ?_)) <;> (conv => whnf)) | ((with_reducible refine mt_ne (fun _ => ?_) (fun _ => ?_)) <;> (conv => whnf)) | ((with_reducible refine mt_not (fun _ => ?_) (fun _ => ?_)) <;> (conv => whnf)) | ((with_reducible refine mt_any (fun _ => ?_) (fun _ => ?_)) <;> (conv => whnf)))
    rw [rem_off hg ho]
    exact ⟨d.spend, rfl, rfl, rfl⟩
  · conv => whnf
    repeat' (first | ((with_reducible apply rd_intro); (focus (intro K hK; (conv => whnf); first | exact hK | (intro z hz; rw [wrapI (by omega)] at hz; subst hz; exact hK))); (conv => whnf)) | ((with_reducible apply gd_and); (focus ((conv => whnf); first | rfl | (intro K hK; (conv => whnf); first | exact hK | (intro z hz; rw [wrapI (by omega)] at hz; subst hz; exact hK)))); (conv => whnf)) | ((with_reducible apply z_wrap); (focus omega); (conv => whnf)) | ((with_reducible refine mt_dec (fun _ => ?_) (fun _ => ?_)) <;> (conv => whnf)) | ((with_reducible refine mt_eq (fun _ => ?_) (fun _ => ?_)) <;> (conv => whnf)) | ((with_reducible refine mt_ne (fun _ => ?_) (fun _ => ?_)) <;> (conv => whnf)) | ((with_reducible refine mt_not (fun _ => ?_) (fun _ => ?_)) <;> (conv => whnf)) | ((with_reducible refine mt_any (fun _ => ?_) (fun _ => ?_)) <;> (conv => whnf)))
    rw [rem_none hg ho (getN_none hf)]
    exact ⟨d.spend, rfl, rfl, rfl⟩
  · conv => whnf
    repeat' (first | ((with_reducible apply rd_intro); (focus (intro K hK; (conv => whnf); first | exact hK | (intro z hz; rw [wrapI (by omega)] at hz; subst hz; exact hK))); (conv => whnf)) | ((with_reducible apply gd_and); (focus ((conv => whnf); first | rfl | (intro K hK; (conv => whnf); first | exact hK | (intro z hz; rw [wrapI (by omega)] at hz; subst hz; exact hK)))); (conv => whnf)) | ((with_reducible apply z_wrap); (focus omega); (conv => whnf)) | ((with_reducible refine mt_dec (fun _ => ?_) (fun _ => ?_)) <;> (conv => whnf)) | ((with_reducible refine mt_eq (fun _ => ?_) (fun _ => ?_)) <;> (conv => whnf)) | ((with_reducible refine mt_ne (fun _ => ?_) (fun _ => ?_)) <;> (conv => whnf)) | ((with_reducible refine mt_not (fun _ => ?_) (fun _ => ?_)) <;> (conv => whnf)) | ((with_reducible refine mt_any (fun _ => ?_) (fun _ => ?_)) <;> (conv => whnf)))
    rw [rem_some hg ho (getN_some hf)]
    refine ⟨_, mfind_ent n d.fs 0, ?_⟩
    rw [hf]
    conv => whnf
    exact ⟨{ d.spend with fs := d.fs.eraseIdx i }, rfl, by rw [erase_ent]; rfl, by simp only [Dk.dat, Dk.spend, DD.spend]; rw [getN_del hf]; rfl⟩
end Go.Proofs.Ytpedbknmkgcldaa
