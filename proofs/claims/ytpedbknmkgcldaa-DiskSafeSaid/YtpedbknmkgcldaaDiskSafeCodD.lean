/- DiskSafe: for every script the law returns true, and its argument reads behind the call as it read before. No condition of ours. -/
import Derived.Test.YtpedbknmkgcldaaDiskSafeCodC
import Derived.Test.YtpedbknmkgcldaaRows

set_option linter.unusedVariables false
set_option linter.unusedSimpArgs false
namespace Go.Proofs.Ytpedbknmkgcldaa
open Go.Ab Go.RowKit Go.MapKept
attribute [local irreducible] ACalls AW ADraw Into
set_option maxRecDepth 100000
theorem wrap_u64 (i : Int) : IntKind.u64.wrap i = i % 18446744073709551616 := by
  simp [IntKind.wrap, IntKind.signed, IntKind.bits]
theorem within_ok (i n : Int) (hn : 0 < n) (hn2 : n ≤ 1000000) (hi : -9223372036854775808 ≤ i ∧ i < 9223372036854775808) : ACalls Try.prog 28 [.d (.int .i64 i), .d (.int .i64 n)] [] (fun av L => av = .d (.int .i64 ((i % 18446744073709551616) % n)) ∧ L = []) := by
  refine acalls_go ttOk zOk foOk Try.func28 rfl Try.ntmps28 rfl false rfl ?_
  conv => whnf
  intro z hz
  rw [wrap_u64] at hz
  have h0 := Int.emod_nonneg i (show (18446744073709551616 : Int) ≠ 0 by decide)
  rw [← hz] at h0 ⊢
  clear hz
  conv => whnf
  intro m hm
  have hm' : m = n := by rw [hm, wrap_u64]; omega
  clear hm
  subst hm'
  conv => whnf
  refine ⟨by omega, ?_⟩
  intro r hr
  have hr' : r = z % m := by rw [hr, Int.tmod_eq_emod_of_nonneg h0]
  clear hr
  have h1 := Int.emod_nonneg z (show m ≠ 0 by omega)
  have h2 := Int.emod_lt_of_pos z hn
  rw [← hr'] at h1 h2 ⊢
  clear hr'
  conv => whnf
  intro q hq
  have hq' : q = r := by rw [hq, wrapI (by omega)]
  clear hq
  subst hq'
  conv => whnf
  exact ⟨rfl, rfl⟩
end Go.Proofs.Ytpedbknmkgcldaa

namespace Go.Proofs.Ytpedbknmkgcldaa
open Go.Ab Go.RowKit Go.MapKept
attribute [local irreducible] ACalls AW ADraw Into
set_option maxRecDepth 100000
theorem cut_ok (d : Dk) (hd : d.dat.ok) (n : ByteArray) (k : Int) : ACalls Try.prog 29 [.ptr 0 0, .d (.str n), .d (.int .i64 k)] d.L (fun av L => ∃ d' : Dk, av = .d (.int .i64 (d.dat.cut n k).1) ∧ L = d'.L ∧ d'.dat = (d.dat.cut n k).2) := by
  refine acalls_go ttOk zOk foOk Try.func29 rfl Try.ntmps29 rfl false rfl ?_
  conv => whnf
  refine (call_by d _ n true).mono ?_
  rintro _ _ (⟨rfl, rfl, h⟩ | ⟨rfl, rfl, hk, hg, ho⟩ | ⟨rfl, rfl, hk, hg, ho, hf⟩ | ⟨i, f, rfl, rfl, hk, hg, ho, hf⟩)
  · conv => whnf
    repeat' (first | ((with_reducible apply rd_intro); (focus (intro K hK; (conv => whnf); first | exact hK | (intro z hz; rw [wrapI (by omega)] at hz; subst hz; exact hK))); (conv => whnf)) | ((with_reducible apply gd_and); (focus ((conv => whnf); first | rfl | (intro K hK; (conv => whnf); first | exact hK | (intro z hz; rw [wrapI (by omega)] at hz; subst hz; exact hK)))); (conv => whnf)) | ((with_reducible apply z_wrap); (focus omega); (conv => whnf)) | ((with_reducible refine mt_dec (fun _ => ?_) (fun _ => ?_)) <;> (conv => whnf)) | ((with_reducible refine mt_eq (fun _ => ?_) (fun _ => ?_)) <;> (conv => whnf)) | ((with_reducible refine mt_ne (fun _ => ?_) (fun _ => ?_)) <;> (conv => whnf)) | ((with_reducible refine mt_not (fun _ => ?_) (fun _ => ?_)) <;> (conv => whnf)) | ((with_reducible refine mt_any (fun _ => ?_) (fun _ => ?_)) <;> (conv => whnf)))
    rw [cut_bad (by simpa using h)]
    exact ⟨d, rfl, rfl, rfl⟩
  · conv => whnf
    repeat' (first | ((with_reducible apply rd_intro); (focus (intro K hK; (conv => whnf); first | exact hK | (intro z hz; rw [wrapI (by omega)] at hz; subst hz; exact hK))); (conv => whnf)) | ((with_reducible apply gd_and); (focus ((conv => whnf); first | rfl | (intro K hK; (conv => whnf); first | exact hK | (intro z hz; rw [wrapI (by omega)] at hz; subst hz; exact hK)))); (conv => whnf)) | ((with_reducible apply z_wrap); (focus omega); (conv => whnf)) | ((with_reducible refine mt_dec (fun _ => ?_) (fun _ => ?_)) <;> (conv => whnf)) | ((with_reducible refine mt_eq (fun _ => ?_) (fun _ => ?_)) <;> (conv => whnf)) | ((with_reducible refine mt_ne (fun _ => ?_) (fun _ => ?_)) <;> (conv => whnf)) | ((with_reducible refine mt_not (fun _ => ?_) (fun _ => ?_)) <;> (conv => whnf)) | ((with_reducible refine mt_any (fun _ => ?_) (fun _ => ?_)) <;> (conv => whnf)))
    rw [cut_off (by simpa using hk) hg ho]
    exact ⟨d.spend, rfl, rfl, rfl⟩
  · conv => whnf
    repeat' (first | ((with_reducible apply rd_intro); (focus (intro K hK; (conv => whnf); first | exact hK | (intro z hz; rw [wrapI (by omega)] at hz; subst hz; exact hK))); (conv => whnf)) | ((with_reducible apply gd_and); (focus ((conv => whnf); first | rfl | (intro K hK; (conv => whnf); first | exact hK | (intro z hz; rw [wrapI (by omega)] at hz; subst hz; exact hK)))); (conv => whnf)) | ((with_reducible apply z_wrap); (focus omega); (conv => whnf)) | ((with_reducible refine mt_dec (fun _ => ?_) (fun _ => ?_)) <;> (conv => whnf)) | ((with_reducible refine mt_eq (fun _ => ?_) (fun _ => ?_)) <;> (conv => whnf)) | ((with_reducible refine mt_ne (fun _ => ?_) (fun _ => ?_)) <;> (conv => whnf)) | ((with_reducible refine mt_not (fun _ => ?_) (fun _ => ?_)) <;> (conv => whnf)) | ((with_reducible refine mt_any (fun _ => ?_) (fun _ => ?_)) <;> (conv => whnf)))
    rw [cut_none (by simpa using hk) hg ho (getN_none hf)]
    exact ⟨d.spend, rfl, rfl, rfl⟩
  · have hk' : ¬ k < 0 := by simpa using hk
    have hs : f.seen.length ≤ 1048576 := (hd.len f.dat (mem_getN (getN_some hf))).1
    conv => whnf
    repeat' (first | ((with_reducible apply rd_intro); (focus (intro K hK; (conv => whnf); first | exact hK | (intro z hz; rw [wrapI (by omega)] at hz; subst hz; exact hK))); (conv => whnf)) | ((with_reducible apply gd_and); (focus ((conv => whnf); first | rfl | (intro K hK; (conv => whnf); first | exact hK | (intro z hz; rw [wrapI (by omega)] at hz; subst hz; exact hK)))); (conv => whnf)) | ((with_reducible apply z_wrap); (focus omega); (conv => whnf)) | ((with_reducible refine mt_dec (fun _ => ?_) (fun _ => ?_)) <;> (conv => whnf)) | ((with_reducible refine mt_eq (fun _ => ?_) (fun _ => ?_)) <;> (conv => whnf)) | ((with_reducible refine mt_ne (fun _ => ?_) (fun _ => ?_)) <;> (conv => whnf)) | ((with_reducible refine mt_not (fun _ => ?_) (fun _ => ?_)) <;> (conv => whnf)) | ((with_reducible refine mt_any (fun _ => ?_) (fun _ => ?_)) <;> (conv => whnf)))
    refine ⟨f.cs, box_at (findF_mem hf), ?_⟩
    conv => whnf
    repeat' (first | ((with_reducible apply rd_intro); (focus (intro K hK; (conv => whnf); first | exact hK | (intro z hz; rw [wrapI (by omega)] at hz; subst hz; exact hK))); (conv => whnf)) | ((with_reducible apply gd_and); (focus ((conv => whnf); first | rfl | (intro K hK; (conv => whnf); first | exact hK | (intro z hz; rw [wrapI (by omega)] at hz; subst hz; exact hK)))); (conv => whnf)) | ((with_reducible apply z_wrap); (focus omega); (conv => whnf)) | ((with_reducible refine mt_dec (fun _ => ?_) (fun _ => ?_)) <;> (conv => whnf)) | ((with_reducible refine mt_eq (fun _ => ?_) (fun _ => ?_)) <;> (conv => whnf)) | ((with_reducible refine mt_ne (fun _ => ?_) (fun _ => ?_)) <;> (conv => whnf)) | ((with_reducible refine mt_not (fun _ => ?_) (fun _ => ?_)) <;> (conv => whnf)) | ((with_reducible refine mt_any (fun _ => ?_) (fun _ => ?_)) <;> (conv => whnf)))
    · rename_i hl
      simp only [u8s_length] at hl
      rw [cut_long hk' hg ho (getN_some hf) (by show (f.seen.length : Int) < k; omega)]
      exact ⟨d.spend, rfl, rfl, rfl⟩
    · rename_i hl
      simp only [u8s_length] at hl
      rw [cut_some hk' hg ho (getN_some hf) (by show ¬ (f.seen.length : Int) < k; omega)]
      refine ⟨f.cs, box_at (findF_mem hf), ?_⟩
      conv => whnf
      repeat' (first | ((with_reducible apply rd_intro); (focus (intro K hK; (conv => whnf); first | exact hK | (intro z hz; rw [wrapI (by omega)] at hz; subst hz; exact hK))); (conv => whnf)) | ((with_reducible apply gd_and); (focus ((conv => whnf); first | rfl | (intro K hK; (conv => whnf); first | exact hK | (intro z hz; rw [wrapI (by omega)] at hz; subst hz; exact hK)))); (conv => whnf)) | ((with_reducible apply z_wrap); (focus omega); (conv => whnf)) | ((with_reducible refine mt_dec (fun _ => ?_) (fun _ => ?_)) <;> (conv => whnf)) | ((with_reducible refine mt_eq (fun _ => ?_) (fun _ => ?_)) <;> (conv => whnf)) | ((with_reducible refine mt_ne (fun _ => ?_) (fun _ => ?_)) <;> (conv => whnf)) | ((with_reducible refine mt_not (fun _ => ?_) (fun _ => ?_)) <;> (conv => whnf)) | ((with_reducible refine mt_any (fun _ => ?_) (fun _ => ?_)) <;> (conv => whnf)))
      refine ⟨by omega, by omega, by rw [u8s_length]; omega, ?_⟩
      conv => whnf
      repeat' (first | ((with_reducible apply rd_intro); (focus (intro K hK; (conv => whnf); first | exact hK | (intro z hz; rw [wrapI (by omega)] at hz; subst hz; exact hK))); (conv => whnf)) | ((with_reducible apply gd_and); (focus ((conv => whnf); first | rfl | (intro K hK; (conv => whnf); first | exact hK | (intro z hz; rw [wrapI (by omega)] at hz; subst hz; exact hK)))); (conv => whnf)) | ((with_reducible apply z_wrap); (focus omega); (conv => whnf)) | ((with_reducible refine mt_dec (fun _ => ?_) (fun _ => ?_)) <;> (conv => whnf)) | ((with_reducible refine mt_eq (fun _ => ?_) (fun _ => ?_)) <;> (conv => whnf)) | ((with_reducible refine mt_ne (fun _ => ?_) (fun _ => ?_)) <;> (conv => whnf)) | ((with_reducible refine mt_not (fun _ => ?_) (fun _ => ?_)) <;> (conv => whnf)) | ((with_reducible refine mt_any (fun _ => ?_) (fun _ => ?_)) <;> (conv => whnf)))
      have e : ((u8s f.seen).take k.toNat).drop (Int.toNat 0) = u8s (f.seen.take k.toNat) := by simp [u8s, List.map_take]
      rw [e]
      refine (clone_row (f.seen.take k.toNat) (by simp; omega)).mono ?_
      rintro _ _ ⟨rfl, rfl⟩
      conv => whnf
      repeat' (first | ((with_reducible apply rd_intro); (focus (intro K hK; (conv => whnf); first | exact hK | (intro z hz; rw [wrapI (by omega)] at hz; subst hz; exact hK))); (conv => whnf)) | ((with_reducible apply gd_and); (focus ((conv => whnf); first | rfl | (intro K hK; (conv => whnf); first | exact hK | (intro z hz; rw [wrapI (by omega)] at hz; subst hz; exact hK)))); (conv => whnf)) | ((with_reducible apply z_wrap); (focus omega); (conv => whnf)) | ((with_reducible refine mt_dec (fun _ => ?_) (fun _ => ?_)) <;> (conv => whnf)) | ((with_reducible refine mt_eq (fun _ => ?_) (fun _ => ?_)) <;> (conv => whnf)) | ((with_reducible refine mt_ne (fun _ => ?_) (fun _ => ?_)) <;> (conv => whnf)) | ((with_reducible refine mt_not (fun _ => ?_) (fun _ => ?_)) <;> (conv => whnf)) | ((with_reducible refine mt_any (fun _ => ?_) (fun _ => ?_)) <;> (conv => whnf)))
      refine .inl ⟨1, _, i, _, _, rfl, ent_at hf, by simp [Fl.cs], ?_⟩
      intro L' hL
      obtain rfl : L' = [.cells [.d (.int .i64 d.spend.calls), .d (.bool d.spend.off), .d (.int .i64 d.spend.upto), .map 1], .map ((d.spend.put i ⟨f.name, f.b, f.safe, f.seen.take k.toNat⟩).fs.map Fl.ent), .row 5 1 (u8s (f.seen.take k.toNat)) true] := by rw [hL]; simp [Dk.put, List.map_set, Fl.ent, Fl.cs, overD, norm1]
      clear hL
      conv => whnf
      exact ⟨d.spend.put i ⟨f.name, f.b, f.safe, f.seen.take k.toNat⟩, rfl, rfl, put_dat (d := d.spend) hf (fun f => { f with seen := f.seen.take k.toNat }) _ rfl⟩
end Go.Proofs.Ytpedbknmkgcldaa

namespace Go.Proofs.Ytpedbknmkgcldaa
open Go.Ab Go.RowKit Go.MapKept
attribute [local irreducible] ACalls AW ADraw Into
set_option maxRecDepth 100000
theorem copyFile_ok (f : FileS) (hm : f.data.length ≤ 140737488355328) : ACalls Try.prog 75 [.agg [.d (.str f.name), .d (.sl 1 (u8s f.data))]] [] (fun av L => av = .agg [.d (.str f.name), .d (.sl 1 (u8s f.data))] ∧ L = []) := by
  refine acalls_go ttOk zOk foOk Try.func75 rfl Try.ntmps75 rfl false rfl ?_
  conv => whnf
  ((with_reducible refine (copyBytes_ok f.data hm).mono ?_); rintro _ _ ⟨rfl, rfl⟩; (conv => whnf))
  repeat' (first | ((with_reducible apply rd_intro); (focus (intro K hK; (conv => whnf); first | exact hK | (intro z hz; rw [wrapI (by omega)] at hz; subst hz; exact hK))); (conv => whnf)) | ((with_reducible apply gd_and); (focus ((conv => whnf); first | rfl | (intro K hK; (conv => whnf); first | exact hK | (intro z hz; rw [wrapI (by omega)] at hz; subst hz; exact hK)))); (conv => whnf)) | ((with_reducible apply z_wrap); (focus omega); (conv => whnf)) | ((with_reducible refine mt_dec (fun _ => ?_) (fun _ => ?_)) <;> (conv => whnf)) | ((with_reducible refine mt_eq (fun _ => ?_) (fun _ => ?_)) <;> (conv => whnf)) | ((with_reducible refine mt_ne (fun _ => ?_) (fun _ => ?_)) <;> (conv => whnf)) | ((with_reducible refine mt_not (fun _ => ?_) (fun _ => ?_)) <;> (conv => whnf)) | ((with_reducible refine mt_any (fun _ => ?_) (fun _ => ?_)) <;> (conv => whnf)))
  exact ⟨rfl, rfl⟩
theorem copyFiles_ok (l : List FileS) (hl : l.length ≤ 1000000) (hm : ∀ f ∈ l, f.data.length ≤ 140737488355328) : ACalls Try.prog 30 [.d (.sl 2 (l.map FileS.cs))] [] (fun av L => av = .d (.sl 2 (l.map FileS.cs)) ∧ L = []) := by
  refine acalls_go ttOk zOk foOk Try.func30 rfl Try.ntmps30 rfl false rfl ?_
  conv => whnf
  refine loop_go ttOk zOk foOk (σ := Nat) (fun k => ([(0, .d (.sl 2 (l.map FileS.cs))), (3, .arr 0), (4, .d (.int .i64 k))], [.row 36 2 ((l.take k).map FileS.cs) false])) (fun k => k ≤ l.length) (fun k => l.length - k) [0, 3, 4] ?_ ?_
  · conv => whnf
    exact ⟨0, rfl, rfl, by omega⟩
  · rintro k hk
    conv => whnf
    ((with_reducible refine mt_dec (fun _ => ?_) (fun _ => ?_)) <;> (conv => whnf))
    · rename_i h
      simp only [List.length_map] at h
      obtain ⟨a, ha⟩ : ∃ a, l[k]? = some a := ⟨_, List.getElem?_eq_getElem (by omega)⟩
      ((with_reducible refine ix_map ha ?_ ?_); (focus (first | rfl | omega)); (conv => whnf))
      ((with_reducible refine (copyFile_ok a (hm a (List.mem_of_getElem? ha))).mono ?_); rintro _ _ ⟨rfl, rfl⟩; (conv => whnf))
      repeat' (first | ((with_reducible apply rd_intro); (focus (intro K hK; (conv => whnf); first | exact hK | (intro z hz; rw [wrapI (by omega)] at hz; subst hz; exact hK))); (conv => whnf)) | ((with_reducible apply gd_and); (focus ((conv => whnf); first | rfl | (intro K hK; (conv => whnf); first | exact hK | (intro z hz; rw [wrapI (by omega)] at hz; subst hz; exact hK)))); (conv => whnf)) | ((with_reducible apply z_wrap); (focus omega); (conv => whnf)) | ((with_reducible refine mt_dec (fun _ => ?_) (fun _ => ?_)) <;> (conv => whnf)) | ((with_reducible refine mt_eq (fun _ => ?_) (fun _ => ?_)) <;> (conv => whnf)) | ((with_reducible refine mt_ne (fun _ => ?_) (fun _ => ?_)) <;> (conv => whnf)) | ((with_reducible refine mt_not (fun _ => ?_) (fun _ => ?_)) <;> (conv => whnf)) | ((with_reducible refine mt_any (fun _ => ?_) (fun _ => ?_)) <;> (conv => whnf)))
      refine ⟨by simp; omega, ?_⟩
      conv => whnf
      repeat' (first | ((with_reducible apply rd_intro); (focus (intro K hK; (conv => whnf); first | exact hK | (intro z hz; rw [wrapI (by omega)] at hz; subst hz; exact hK))); (conv => whnf)) | ((with_reducible apply gd_and); (focus ((conv => whnf); first | rfl | (intro K hK; (conv => whnf); first | exact hK | (intro z hz; rw [wrapI (by omega)] at hz; subst hz; exact hK)))); (conv => whnf)) | ((with_reducible apply z_wrap); (focus omega); (conv => whnf)) | ((with_reducible refine mt_dec (fun _ => ?_) (fun _ => ?_)) <;> (conv => whnf)) | ((with_reducible refine mt_eq (fun _ => ?_) (fun _ => ?_)) <;> (conv => whnf)) | ((with_reducible refine mt_ne (fun _ => ?_) (fun _ => ?_)) <;> (conv => whnf)) | ((with_reducible refine mt_not (fun _ => ?_) (fun _ => ?_)) <;> (conv => whnf)) | ((with_reducible refine mt_any (fun _ => ?_) (fun _ => ?_)) <;> (conv => whnf)))
      refine ⟨k + 1, rfl, ?_, by omega, by omega⟩
      rw [List.take_add_one, ha]
      simp [FileS.cs]
    · rename_i h
      simp only [List.length_map] at h
      obtain rfl : k = l.length := by omega
      exact ⟨by simp, rfl⟩
end Go.Proofs.Ytpedbknmkgcldaa

namespace Go.Proofs.Ytpedbknmkgcldaa
open Go.Ab Go.RowKit Go.MapKept
attribute [local irreducible] ACalls AW ADraw Into
set_option maxRecDepth 100000
theorem off_ok (d : Dk) (n : Int) : ACalls Try.prog 32 [.ptr 0 0, .d (.int .i64 n)] d.L (fun av L => ∃ d' : Dk, av = .tup [] ∧ L = d'.L ∧ d'.dat = d.dat.turn n) := by
  refine acalls_go ttOk zOk foOk Try.func32 rfl Try.ntmps32 rfl false rfl ?_
  conv => whnf
  ((with_reducible refine mt_dec (fun _ => ?_) (fun _ => ?_)) <;> (conv => whnf))
  · rename_i h
    exact ⟨{ d with off := true }, rfl, rfl, by simp [DD.turn, h, Dk.dat]⟩
  · rename_i h
    intro z hz
    conv => whnf
    subst hz
    exact ⟨{ d with upto := IntKind.i64.wrap (d.calls + n) }, rfl, rfl, by simp [DD.turn, h, Dk.dat]⟩
theorem calls_ok (d : Dk) : ACalls Try.prog 37 [.ptr 0 0] d.L (fun av L => av = .d (.int .i64 d.dat.calls) ∧ L = d.L) := by
  refine acalls_go ttOk zOk foOk Try.func37 rfl Try.ntmps37 rfl false rfl ?_
  conv => whnf
  exact ⟨rfl, rfl⟩
end Go.Proofs.Ytpedbknmkgcldaa

namespace Go.Proofs.Ytpedbknmkgcldaa
open Go.Ab Go.RowKit
def nK : ByteArray := ⟨#[107, 101, 112, 116]⟩
def keepL : List UInt8 := [107, 101, 112, 116, 32, 102, 111, 114, 32, 101, 118, 101, 114, 44, 32, 119, 104, 97, 116, 101, 118, 101, 114, 32, 101, 108, 115, 101, 32, 116, 104, 101, 114, 101, 32, 105, 115, 44, 32, 97, 110, 100, 32, 109, 111, 114, 101, 32, 116, 104, 97, 110, 32, 111, 110, 101, 32, 115, 101, 99, 116, 111, 114, 32, 108, 111, 110, 103, 44, 32, 97, 115, 32, 105, 116, 32, 119, 97, 115, 32, 115, 121, 110, 99, 101, 100]
theorem keep_len : keepL.length = 86 := rfl
structure DD.kept (d : DD) : Prop where
  fine : d.fine
  on : d.off = false
  u : d.upto = 0
  k : getN nK d.fs = some ⟨nK, keepL, keepL⟩
theorem getN_upd {n m : ByteArray} {g : FD → FD} (hg : ∀ f, (g f).name = f.name) (h : n ≠ m) : ∀ fs : List FD, getN m (updN n g fs) = getN m fs
  | [] => rfl
  | x :: r => by
    simp only [updN]
    by_cases e : n = x.name
    · rw [if_pos e]
      have h1 : ¬ m = x.name := fun e2 => h (e.trans e2.symm)
      have h2 : ¬ m = (g x).name := by rw [hg]; exact h1
      simp only [getN, if_neg h1, if_neg h2]
    · rw [if_neg e]
      simp only [getN, getN_upd hg h r]
theorem getN_updC {n m : ByteArray} {g : FD} (hg : g.name = n) (h : n ≠ m) : ∀ fs : List FD, getN m (updN n (fun _ => g) fs) = getN m fs
  | [] => rfl
  | x :: r => by
    simp only [updN]
    by_cases e : n = x.name
    · rw [if_pos e]
      have h1 : ¬ m = x.name := fun e2 => h (e.trans e2.symm)
      have h2 : ¬ m = g.name := by rw [hg]; exact fun e2 => h e2.symm
      simp only [getN, if_neg h1, if_neg h2]
    · rw [if_neg e]
      simp only [getN, getN_updC hg h r]
theorem getN_delO {n m : ByteArray} (h : n ≠ m) : ∀ fs : List FD, getN m (delN n fs) = getN m fs
  | [] => rfl
  | x :: r => by
    simp only [delN]
    by_cases e : n = x.name
    · rw [if_pos e]
      have h1 : ¬ m = x.name := fun e2 => h (e.trans e2.symm)
      simp only [getN, if_neg h1]
    · rw [if_neg e]
      simp only [getN, getN_delO h r]
theorem getN_app {m : ByteArray} {g : FD} (h : g.name ≠ m) : ∀ fs : List FD, getN m (fs ++ [g]) = getN m fs
  | [] => by simp only [List.nil_append, getN, if_neg (fun e : m = g.name => h e.symm)]
  | x :: r => by simp only [List.cons_append, getN, getN_app h r]
theorem getN_setO {m : ByteArray} {g : FD} (h : g.name ≠ m) (fs : List FD) : getN m (setN g fs) = getN m fs := by
  unfold setN
  split
  · exact getN_app h fs
  · exact getN_updC rfl h fs
theorem DD.kept.spend {d : DD} (h : d.kept) : d.spend.kept := ⟨h.fine.spend, by simp [DD.spend, h.on, h.u], h.u, h.k⟩
theorem DD.kept.append {d : DD} (h : d.kept) {n : ByteArray} (hn : n ≠ nK) (b : List UInt8) : (d.append n b).2.kept := by
  have hf := h.fine.append n b
  revert hf
  unfold DD.append
  split
  · exact fun _ => h
  split
  · exact fun _ => h.spend
  split
  · split
    · exact fun _ => h.spend
    split
    · exact fun _ => h.spend
    · exact fun hf => ⟨hf, h.spend.on, h.u, (getN_app hn _).trans h.k⟩
  · split
    · exact fun _ => h.spend
    · exact fun hf => ⟨hf, h.spend.on, h.u, (getN_upd (g := fun f => { f with seen := f.seen ++ b }) (fun _ => rfl) hn d.fs).trans h.k⟩
theorem DD.kept.sync {d : DD} (h : d.kept) {n : ByteArray} (hn : n ≠ nK) : (d.sync n).2.kept := by
  have hf := h.fine.sync n
  revert hf
  unfold DD.sync
  split
  · exact fun _ => h
  split
  · exact fun _ => h.spend
  split
  · exact fun _ => h.spend
  · exact fun hf => ⟨hf, h.spend.on, h.u, (getN_upd (g := fun f => { f with safe := f.seen }) (fun _ => rfl) hn d.fs).trans h.k⟩
theorem DD.kept.cut {d : DD} (h : d.kept) {n : ByteArray} (hn : n ≠ nK) (k : Int) : (d.cut n k).2.kept := by
  have hf := h.fine.cut n k
  revert hf
  unfold DD.cut
  split
  · exact fun _ => h
  split
  · exact fun _ => h.spend
  split
  · exact fun _ => h.spend
  split
  · exact fun _ => h.spend
  · exact fun hf => ⟨hf, h.spend.on, h.u, (getN_upd (g := fun f => { f with seen := f.seen.take k.toNat }) (fun _ => rfl) hn d.fs).trans h.k⟩
theorem DD.kept.remove {d : DD} (h : d.kept) {n : ByteArray} (hn : n ≠ nK) : (d.remove n).2.kept := by
  have hf := h.fine.remove n
  revert hf
  unfold DD.remove
  split
  · exact fun _ => h
  split
  · exact fun _ => h.spend
  split
  · exact fun _ => h.spend
  · exact fun hf => ⟨hf, h.spend.on, h.u, (getN_delO hn _).trans h.k⟩
theorem DD.kept.rename {d : DD} (h : d.kept) {n t : ByteArray} (hn : n ≠ nK) (ht : t ≠ nK) : (d.rename n t).2.kept := by
  have hf := h.fine.rename n t
  revert hf
  unfold DD.rename
  split
  · exact fun _ => h
  split
  · exact fun _ => h.spend
  split
  · exact fun _ => h.spend
  · exact fun hf => ⟨hf, h.spend.on, h.u, ((getN_setO ht _).trans (getN_delO hn _)).trans h.k⟩
/-! the files of a crash -/
theorem crash_names {fs : List FD} {picks : List Int} : ∀ {k : Nat}, k ≤ fs.length → (crashAt fs picks k).1.map FileS.name = (fs.take k).map FD.name
  | 0, _ => rfl
  | k + 1, h => by
    have hf := List.getElem?_eq_getElem (show k < fs.length by omega)
    rw [crashAt_succ hf, List.take_add_one, hf, List.map_append, List.map_append, crash_names (show k ≤ fs.length by omega)]
    rfl
theorem step_len {f : FD} {picks : List Int} {m : Nat} (h1 : f.safe.length ≤ m) (h2 : f.seen.length ≤ m) : (stepC f picks).1.length ≤ m := by
  unfold stepC
  split
  · exact h2
  · show (if _ then _ else _ : List UInt8).length ≤ m
    split
    · exact h1
    · split
      · unfold tornL; rw [List.length_take]; omega
      · exact h2
theorem crash_len {fs : List FD} {picks : List Int} {m : Nat} (h : ∀ f ∈ fs, f.safe.length ≤ m ∧ f.seen.length ≤ m) : ∀ {k : Nat}, ∀ x ∈ (crashAt fs picks k).1, x.data.length ≤ m
  | 0, x, hx => by cases hx
  | k + 1, x, hx => by
    cases hf : fs[k]? with
    | none => simp only [crashAt, hf] at hx; exact crash_len h x hx
    | some f =>
      rw [crashAt_succ hf] at hx
      rcases List.mem_append.1 hx with hx | hx
      · exact crash_len h x hx
      · simp only [List.mem_singleton] at hx
        subst hx
        have := h f (List.mem_of_getElem? hf)
        exact step_len this.1 this.2
theorem crash_same_mem {fs : List FD} {picks : List Int} {f : FD} (hs : f.safe = f.seen) {j : Nat} (hj : fs[j]? = some f) : ∀ {k : Nat}, j < k → (⟨f.name, f.seen⟩ : FileS) ∈ (crashAt fs picks k).1
  | 0, h => by omega
  | k + 1, h => by
    by_cases e : j = k
    · subst e
      rw [crashAt_succ hj]
      apply List.mem_append_right
      have : (stepC f (crashAt fs picks j).2).1 = f.seen := by rw [stepC, if_pos hs]
      rw [this]
      exact List.mem_singleton.2 rfl
    · have ih := crash_same_mem (picks := picks) hs hj (k := k) (by omega)
      cases hf : fs[k]? with
      | none => simp only [crashAt, hf]; exact ih
      | some g => rw [crashAt_succ hf]; exact List.mem_append_left _ ih
theorem mayNew_of {l : List FileS} (h1 : ∀ f ∈ l, goodS f.name = true) (h2 : ∀ f ∈ l, f.data.length ≤ 1048576) (h3 : risingS (l.map FileS.name)) (h4 : l.length ≤ 16) : mayNew l = true := by
  unfold mayNew
  rw [decide_eq_true h4, Bool.and_true, List.all_eq_true]
  intro k hk
  rw [List.mem_range] at hk
  obtain ⟨f, hf⟩ : ∃ f, l[k]? = some f := ⟨_, List.getElem?_eq_getElem hk⟩
  rw [mayAt_eq hf, h1 f (List.mem_of_getElem? hf), decide_eq_true (h2 f (List.mem_of_getElem? hf))]
  by_cases h0 : k = 0
  · simp [h0]
  · obtain ⟨g, hg⟩ : ∃ g, l[k - 1]? = some g := ⟨_, List.getElem?_eq_getElem (by omega)⟩
    rw [prevLess_eq hg]
    have := (List.pairwise_iff_getElem.1 h3) (k - 1) k (by simp; omega) (by simpa using hk) (by omega)
    simp only [List.getElem_map] at this
    rw [(List.getElem?_eq_some_iff.1 hf).2, (List.getElem?_eq_some_iff.1 hg).2] at this
    simp [this]
/-- a new disk of such files -/
def newDD (l : List FileS) : DD := ⟨0, false, 0, l.map fun f => ⟨f.name, f.data, f.data⟩⟩
theorem newFl_dat {fs : List Fl} {l : List FileS} (h : newFl fs l) : (Dk.mk 0 false 0 fs).dat = newDD l := by
  unfold newFl at h
  have := congrArg (List.map fun x : ByteArray × List UInt8 × List UInt8 => FD.mk x.1 x.2.1 x.2.2) h
  simp only [List.map_map] at this
  exact congrArg (DD.mk 0 false 0) this
theorem rising_nodup {l : List ByteArray} (h : risingS l) : l.Nodup := by
  refine h.imp fun h => ?_
  intro e
  subst e
  rw [lessS_irr] at h; cases h
theorem newDD_fine {l : List FileS} (h1 : ∀ f ∈ l, goodS f.name = true) (h2 : ∀ f ∈ l, f.data.length ≤ 1048576) (h3 : risingS (l.map FileS.name)) (h4 : l.length ≤ 16) : (newDD l).fine := by
  refine ⟨⟨fun f hf => ?_⟩, ?_, fun f hf => ?_, by simpa [newDD] using h4⟩
  · obtain ⟨g, hg, rfl⟩ := List.mem_map.1 hf
    exact ⟨h2 g hg, h2 g hg⟩
  · have := rising_nodup h3
    simpa [newDD, Function.comp_def] using this
  · obtain ⟨g, hg, rfl⟩ := List.mem_map.1 hf
    exact h1 g hg
theorem crash_kept {d : DD} (h : d.kept) {ss : List ByteArray} (hs : ss.Perm (d.fs.map FD.name)) (hr : risingS ss) (picks : List Int) :
    let l := (crashAt (pickFs ss d.fs) picks ss.length).1
    mayNew l = true ∧ l.length = ss.length ∧ l.length ≤ 16 ∧ (∀ f ∈ l, f.data.length ≤ 1048576) ∧ (newDD l).kept := by
  have hmem : ∀ n ∈ ss, n ∈ d.fs.map FD.name := fun n hn => hs.subset hn
  have hpk : (pickFs ss d.fs).length = ss.length := by have := congrArg List.length (pick_names hmem); simpa using this
  have hperm := pick_perm h.fine.nd hs
  have hln : ss.length ≤ 16 := by have := hs.length_eq; have := h.fine.few; simp at *; omega
  intro l
  have hl : l.length = ss.length := crash_length (by omega)
  have hnames : l.map FileS.name = ss := by
    have := crash_names (fs := pickFs ss d.fs) (picks := picks) (k := ss.length) (by omega)
    rw [List.take_of_length_le (by omega), pick_names hmem] at this
    exact this
  have h2 : ∀ f ∈ l, f.data.length ≤ 1048576 := crash_len fun f hf => by
    have := h.fine.ok.len f (hperm.subset hf)
    exact ⟨this.2, this.1⟩
  have h1 : ∀ f ∈ l, goodS f.name = true := by
    intro f hf
    have : f.name ∈ ss := by rw [← hnames]; exact List.mem_map.2 ⟨f, hf, rfl⟩
    obtain ⟨g, hg, e⟩ := List.mem_map.1 (hmem _ this)
    rw [← e]; exact h.fine.good g hg
  have h3 : risingS (l.map FileS.name) := by rw [hnames]; exact hr
  have hfine := newDD_fine h1 h2 h3 (by omega)
  refine ⟨mayNew_of h1 h2 h3 (by omega), hl, by omega, h2, hfine, rfl, rfl, ?_⟩
  have hk : (⟨nK, keepL, keepL⟩ : FD) ∈ pickFs ss d.fs := hperm.symm.subset (mem_getN h.k)
  obtain ⟨j, hj⟩ := List.mem_iff_getElem?.1 hk
  have hjl := (List.getElem?_eq_some_iff.1 hj).1
  have hin : (⟨nK, keepL⟩ : FileS) ∈ l := crash_same_mem (f := ⟨nK, keepL, keepL⟩) rfl hj (k := ss.length) (by omega)
  exact getN_mem (f := ⟨nK, keepL, keepL⟩) hfine.nd (List.mem_map.2 ⟨_, hin, rfl⟩)
end Go.Proofs.Ytpedbknmkgcldaa

namespace Go.Proofs.Ytpedbknmkgcldaa
open Go.Ab Go.RowKit Go.MapKept
attribute [local irreducible] ACalls AW ADraw Into
set_option maxRecDepth 100000
theorem sf1 : (DD.mk 0 false 0 []).append nK keepL = (0, ⟨1, false, 0, [⟨nK, [], keepL⟩]⟩) := rfl
theorem sf2 : (DD.mk 1 false 0 [⟨nK, [], keepL⟩]).sync nK = (0, ⟨2, false, 0, [⟨nK, keepL, keepL⟩]⟩) := rfl
theorem sf3 : (DD.mk 2 false 0 [⟨nK, keepL, keepL⟩]).kept := by
  have h1 : goodS nK = true := by rfl
  exact ⟨⟨⟨by simp [keep_len]⟩, by simp, by simp [h1], by simp⟩, rfl, rfl, rfl⟩
theorem spend_off {d : DD} (h : d.off = true) : d.spend.off = true := by simp [DD.spend, h]
set_option maxHeartbeats 8000000 in
theorem diskSafe_ok (p : ScriptS) (hp : p.ok) : ACalls Try.prog 6 [p.av] [] (fun av L => av = .d (.bool true) ∧ L = []) := by
  refine acalls_go ttOk zOk foOk Try.func6 rfl Try.ntmps6 rfl false rfl ?_
  conv => whnf
  refine (heavy_ok p hp).mono ?_
  rintro _ _ ⟨rfl, rfl⟩
  generalize hhv : p.heavy = hv
  conv => whnf
  ((with_reducible refine mt_any (fun _ => ?_) (fun _ => ?_)) <;> (conv => whnf))
  · exact ⟨rfl, rfl⟩
  · rename_i hhv2
    subst hhv2
    refine (new_ok [] (by simp) (by simp)).mono ?_
    rintro _ _ ⟨hn, _⟩
    obtain ⟨rfl, fs, rfl, hfs⟩ := hn new_nil
    obtain rfl : fs = [] := by simpa [newFl] using hfs
    clear hn hfs
    conv => whnf
    ((with_reducible refine (num9_ok 0).mono ?_); rintro _ _ ⟨rfl, rfl⟩; (conv => whnf))
    repeat' (first | ((with_reducible apply rd_intro); (focus (intro K hK; (conv => whnf); first | exact hK | (intro z hz; rw [wrapI (by omega)] at hz; subst hz; exact hK))); (conv => whnf)) | ((with_reducible apply gd_and); (focus ((conv => whnf); first | rfl | (intro K hK; (conv => whnf); first | exact hK | (intro z hz; rw [wrapI (by omega)] at hz; subst hz; exact hK)))); (conv => whnf)) | ((with_reducible apply z_wrap); (focus omega); (conv => whnf)) | ((with_reducible refine mt_dec (fun _ => ?_) (fun _ => ?_)) <;> (conv => whnf)) | ((with_reducible refine mt_eq (fun _ => ?_) (fun _ => ?_)) <;> (conv => whnf)) | ((with_reducible refine mt_ne (fun _ => ?_) (fun _ => ?_)) <;> (conv => whnf)) | ((with_reducible refine mt_not (fun _ => ?_) (fun _ => ?_)) <;> (conv => whnf)) | ((with_reducible refine mt_any (fun _ => ?_) (fun _ => ?_)) <;> (conv => whnf)))
    refine ⟨by simp, ?_⟩
    conv => whnf
    repeat' (first | ((with_reducible apply rd_intro); (focus (intro K hK; (conv => whnf); first | exact hK | (intro z hz; rw [wrapI (by omega)] at hz; subst hz; exact hK))); (conv => whnf)) | ((with_reducible apply gd_and); (focus ((conv => whnf); first | rfl | (intro K hK; (conv => whnf); first | exact hK | (intro z hz; rw [wrapI (by omega)] at hz; subst hz; exact hK)))); (conv => whnf)) | ((with_reducible apply z_wrap); (focus omega); (conv => whnf)) | ((with_reducible refine mt_dec (fun _ => ?_) (fun _ => ?_)) <;> (conv => whnf)) | ((with_reducible refine mt_eq (fun _ => ?_) (fun _ => ?_)) <;> (conv => whnf)) | ((with_reducible refine mt_ne (fun _ => ?_) (fun _ => ?_)) <;> (conv => whnf)) | ((with_reducible refine mt_not (fun _ => ?_) (fun _ => ?_)) <;> (conv => whnf)) | ((with_reducible refine mt_any (fun _ => ?_) (fun _ => ?_)) <;> (conv => whnf)))
    refine (append_ok (Dk.mk 0 false 0 []) ⟨by simp [Dk.dat]⟩ nK keepL (by simp [keep_len])).mono ?_
    rw [show (Dk.mk 0 false 0 []).dat = DD.mk 0 false 0 [] from rfl, sf1]
    rintro _ _ ⟨d1, rfl, rfl, hd1⟩
    conv => whnf
    ((with_reducible refine (num9_ok 0).mono ?_); rintro _ _ ⟨rfl, rfl⟩; (conv => whnf))
    repeat' (first | ((with_reducible apply rd_intro); (focus (intro K hK; (conv => whnf); first | exact hK | (intro z hz; rw [wrapI (by omega)] at hz; subst hz; exact hK))); (conv => whnf)) | ((with_reducible apply gd_and); (focus ((conv => whnf); first | rfl | (intro K hK; (conv => whnf); first | exact hK | (intro z hz; rw [wrapI (by omega)] at hz; subst hz; exact hK)))); (conv => whnf)) | ((with_reducible apply z_wrap); (focus omega); (conv => whnf)) | ((with_reducible refine mt_dec (fun _ => ?_) (fun _ => ?_)) <;> (conv => whnf)) | ((with_reducible refine mt_eq (fun _ => ?_) (fun _ => ?_)) <;> (conv => whnf)) | ((with_reducible refine mt_ne (fun _ => ?_) (fun _ => ?_)) <;> (conv => whnf)) | ((with_reducible refine mt_not (fun _ => ?_) (fun _ => ?_)) <;> (conv => whnf)) | ((with_reducible refine mt_any (fun _ => ?_) (fun _ => ?_)) <;> (conv => whnf)))
    refine (sync_ok d1 nK).mono ?_
    rw [hd1, sf2]
    rintro _ _ ⟨d2, rfl, rfl, hd2⟩
    conv => whnf
    ((with_reducible refine (num9_ok 0).mono ?_); rintro _ _ ⟨rfl, rfl⟩; (conv => whnf))
    repeat' (first | ((with_reducible apply rd_intro); (focus (intro K hK; (conv => whnf); first | exact hK | (intro z hz; rw [wrapI (by omega)] at hz; subst hz; exact hK))); (conv => whnf)) | ((with_reducible apply gd_and); (focus ((conv => whnf); first | rfl | (intro K hK; (conv => whnf); first | exact hK | (intro z hz; rw [wrapI (by omega)] at hz; subst hz; exact hK)))); (conv => whnf)) | ((with_reducible apply z_wrap); (focus omega); (conv => whnf)) | ((with_reducible refine mt_dec (fun _ => ?_) (fun _ => ?_)) <;> (conv => whnf)) | ((with_reducible refine mt_eq (fun _ => ?_) (fun _ => ?_)) <;> (conv => whnf)) | ((with_reducible refine mt_ne (fun _ => ?_) (fun _ => ?_)) <;> (conv => whnf)) | ((with_reducible refine mt_not (fun _ => ?_) (fun _ => ?_)) <;> (conv => whnf)) | ((with_reducible refine mt_any (fun _ => ?_) (fun _ => ?_)) <;> (conv => whnf)))
    refine loop_out2 ttOk zOk foOk (σ := Nat) (ρ := Dk) (τ := Dk) (fun k d => ([(1, .ptr 0 0), (3, .ptr 1 0), (5, .d (.sl 1 (u8s keepL))), (6, .d (.int .i64 k))], [.cells p.cells, .cells [.d (.int .i64 d.calls), .d (.bool d.off), .d (.int .i64 d.upto), .map 2], .map (d.fs.map Fl.ent)])) (fun k d => k ≤ 40 ∧ d.dat.kept) (fun k _ => 40 - k) [1, 3, 5, 6]
      0 (fun d => ([(3, .ptr 0 0), (5, .d (.sl 1 (u8s keepL)))], d.L)) (fun d => d.dat.kept) [3, 5] ?_ ?_ ?_
    · conv => whnf
      exact ⟨0, d2, rfl, rfl, by omega, by rw [hd2]; exact sf3⟩
    · rintro d hd
      conv => whnf
      refine (off_ok d 0).mono ?_
      rintro _ _ ⟨d', rfl, rfl, hd'⟩
      have hf' : d'.dat.fine := by rw [hd']; exact hd.fine.turn 0
      have ho' : d'.dat.off = true := by rw [hd']; rfl
      have hod : d'.off = true := ho'
      conv => whnf
      repeat' (first | ((with_reducible apply rd_intro); (focus (intro K hK; (conv => whnf); first | exact hK | (intro z hz; rw [wrapI (by omega)] at hz; subst hz; exact hK))); (conv => whnf)) | ((with_reducible apply gd_and); (focus ((conv => whnf); first | rfl | (intro K hK; (conv => whnf); first | exact hK | (intro z hz; rw [wrapI (by omega)] at hz; subst hz; exact hK)))); (conv => whnf)) | ((with_reducible apply z_wrap); (focus omega); (conv => whnf)) | ((with_reducible refine mt_dec (fun _ => ?_) (fun _ => ?_)) <;> (conv => whnf)) | ((with_reducible refine mt_eq (fun _ => ?_) (fun _ => ?_)) <;> (conv => whnf)) | ((with_reducible refine mt_ne (fun _ => ?_) (fun _ => ?_)) <;> (conv => whnf)) | ((with_reducible refine mt_not (fun _ => ?_) (fun _ => ?_)) <;> (conv => whnf)) | ((with_reducible refine mt_any (fun _ => ?_) (fun _ => ?_)) <;> (conv => whnf)))
      refine (read_ok d' hf'.ok nK).mono ?_
      rw [read_off (d := d'.dat) (n := nK) rfl ho']
      rintro _ _ ⟨rfl, rfl⟩
      conv => whnf
      repeat' (first | ((with_reducible apply rd_intro); (focus (intro K hK; (conv => whnf); first | exact hK | (intro z hz; rw [wrapI (by omega)] at hz; subst hz; exact hK))); (conv => whnf)) | ((with_reducible apply gd_and); (focus ((conv => whnf); first | rfl | (intro K hK; (conv => whnf); first | exact hK | (intro z hz; rw [wrapI (by omega)] at hz; subst hz; exact hK)))); (conv => whnf)) | ((with_reducible apply z_wrap); (focus omega); (conv => whnf)) | ((with_reducible refine mt_dec (fun _ => ?_) (fun _ => ?_)) <;> (conv => whnf)) | ((with_reducible refine mt_eq (fun _ => ?_) (fun _ => ?_)) <;> (conv => whnf)) | ((with_reducible refine mt_ne (fun _ => ?_) (fun _ => ?_)) <;> (conv => whnf)) | ((with_reducible refine mt_not (fun _ => ?_) (fun _ => ?_)) <;> (conv => whnf)) | ((with_reducible refine mt_any (fun _ => ?_) (fun _ => ?_)) <;> (conv => whnf)))
      refine (list_ok d' hf').mono ?_
      rintro _ _ ⟨ss, _, rfl, rfl⟩
      rw [hod, show (if true = true then 9 else 0 : Int) = 9 from rfl]
      conv => whnf
      repeat' (first | ((with_reducible apply rd_intro); (focus (intro K hK; (conv => whnf); first | exact hK | (intro z hz; rw [wrapI (by omega)] at hz; subst hz; exact hK))); (conv => whnf)) | ((with_reducible apply gd_and); (focus ((conv => whnf); first | rfl | (intro K hK; (conv => whnf); first | exact hK | (intro z hz; rw [wrapI (by omega)] at hz; subst hz; exact hK)))); (conv => whnf)) | ((with_reducible apply z_wrap); (focus omega); (conv => whnf)) | ((with_reducible refine mt_dec (fun _ => ?_) (fun _ => ?_)) <;> (conv => whnf)) | ((with_reducible refine mt_eq (fun _ => ?_) (fun _ => ?_)) <;> (conv => whnf)) | ((with_reducible refine mt_ne (fun _ => ?_) (fun _ => ?_)) <;> (conv => whnf)) | ((with_reducible refine mt_not (fun _ => ?_) (fun _ => ?_)) <;> (conv => whnf)) | ((with_reducible refine mt_any (fun _ => ?_) (fun _ => ?_)) <;> (conv => whnf)))
      ((with_reducible refine (num9_ok 9).mono ?_); rintro _ _ ⟨rfl, rfl⟩; (conv => whnf))
      repeat' (first | ((with_reducible apply rd_intro); (focus (intro K hK; (conv => whnf); first | exact hK | (intro z hz; rw [wrapI (by omega)] at hz; subst hz; exact hK))); (conv => whnf)) | ((with_reducible apply gd_and); (focus ((conv => whnf); first | rfl | (intro K hK; (conv => whnf); first | exact hK | (intro z hz; rw [wrapI (by omega)] at hz; subst hz; exact hK)))); (conv => whnf)) | ((with_reducible apply z_wrap); (focus omega); (conv => whnf)) | ((with_reducible refine mt_dec (fun _ => ?_) (fun _ => ?_)) <;> (conv => whnf)) | ((with_reducible refine mt_eq (fun _ => ?_) (fun _ => ?_)) <;> (conv => whnf)) | ((with_reducible refine mt_ne (fun _ => ?_) (fun _ => ?_)) <;> (conv => whnf)) | ((with_reducible refine mt_not (fun _ => ?_) (fun _ => ?_)) <;> (conv => whnf)) | ((with_reducible refine mt_any (fun _ => ?_) (fun _ => ?_)) <;> (conv => whnf)))
      refine (num9_ok 9).mono ?_
      rintro _ _ ⟨rfl, rfl⟩
      conv => whnf
      repeat' (first | ((with_reducible apply rd_intro); (focus (intro K hK; (conv => whnf); first | exact hK | (intro z hz; rw [wrapI (by omega)] at hz; subst hz; exact hK))); (conv => whnf)) | ((with_reducible apply gd_and); (focus ((conv => whnf); first | rfl | (intro K hK; (conv => whnf); first | exact hK | (intro z hz; rw [wrapI (by omega)] at hz; subst hz; exact hK)))); (conv => whnf)) | ((with_reducible apply z_wrap); (focus omega); (conv => whnf)) | ((with_reducible refine mt_dec (fun _ => ?_) (fun _ => ?_)) <;> (conv => whnf)) | ((with_reducible refine mt_eq (fun _ => ?_) (fun _ => ?_)) <;> (conv => whnf)) | ((with_reducible refine mt_ne (fun _ => ?_) (fun _ => ?_)) <;> (conv => whnf)) | ((with_reducible refine mt_not (fun _ => ?_) (fun _ => ?_)) <;> (conv => whnf)) | ((with_reducible refine mt_any (fun _ => ?_) (fun _ => ?_)) <;> (conv => whnf)))
      refine (sync_ok d' nK).mono ?_
      rw [sync_off (d := d'.dat) (n := nK) rfl (spend_off ho')]
      rintro _ _ ⟨e1, rfl, rfl, he1⟩
      have h1 : e1.dat.off = true := by rw [he1]; exact spend_off ho'
      have f1 : e1.dat.fine := by rw [he1]; exact hf'.spend
      conv => whnf
      ((with_reducible refine (num9_ok 9).mono ?_); rintro _ _ ⟨rfl, rfl⟩; (conv => whnf))
      repeat' (first | ((with_reducible apply rd_intro); (focus (intro K hK; (conv => whnf); first | exact hK | (intro z hz; rw [wrapI (by omega)] at hz; subst hz; exact hK))); (conv => whnf)) | ((with_reducible apply gd_and); (focus ((conv => whnf); first | rfl | (intro K hK; (conv => whnf); first | exact hK | (intro z hz; rw [wrapI (by omega)] at hz; subst hz; exact hK)))); (conv => whnf)) | ((with_reducible apply z_wrap); (focus omega); (conv => whnf)) | ((with_reducible refine mt_dec (fun _ => ?_) (fun _ => ?_)) <;> (conv => whnf)) | ((with_reducible refine mt_eq (fun _ => ?_) (fun _ => ?_)) <;> (conv => whnf)) | ((with_reducible refine mt_ne (fun _ => ?_) (fun _ => ?_)) <;> (conv => whnf)) | ((with_reducible refine mt_not (fun _ => ?_) (fun _ => ?_)) <;> (conv => whnf)) | ((with_reducible refine mt_any (fun _ => ?_) (fun _ => ?_)) <;> (conv => whnf)))
      refine (append_ok e1 f1.ok nK keepL (by simp [keep_len])).mono ?_
      rw [app_off (d := e1.dat) (n := nK) rfl (spend_off h1)]
      rintro _ _ ⟨e2, rfl, rfl, he2⟩
      have h2 : e2.dat.off = true := by rw [he2]; exact spend_off h1
      have f2 : e2.dat.fine := by rw [he2]; exact f1.spend
      conv => whnf
      ((with_reducible refine (num9_ok 9).mono ?_); rintro _ _ ⟨rfl, rfl⟩; (conv => whnf))
      repeat' (first | ((with_reducible apply rd_intro); (focus (intro K hK; (conv => whnf); first | exact hK | (intro z hz; rw [wrapI (by omega)] at hz; subst hz; exact hK))); (conv => whnf)) | ((with_reducible apply gd_and); (focus ((conv => whnf); first | rfl | (intro K hK; (conv => whnf); first | exact hK | (intro z hz; rw [wrapI (by omega)] at hz; subst hz; exact hK)))); (conv => whnf)) | ((with_reducible apply z_wrap); (focus omega); (conv => whnf)) | ((with_reducible refine mt_dec (fun _ => ?_) (fun _ => ?_)) <;> (conv => whnf)) | ((with_reducible refine mt_eq (fun _ => ?_) (fun _ => ?_)) <;> (conv => whnf)) | ((with_reducible refine mt_ne (fun _ => ?_) (fun _ => ?_)) <;> (conv => whnf)) | ((with_reducible refine mt_not (fun _ => ?_) (fun _ => ?_)) <;> (conv => whnf)) | ((with_reducible refine mt_any (fun _ => ?_) (fun _ => ?_)) <;> (conv => whnf)))
      refine (cut_ok e2 f2.ok nK 0).mono ?_
      rw [cut_off (d := e2.dat) (n := nK) (k := 0) (by decide) rfl (spend_off h2)]
      rintro _ _ ⟨e3, rfl, rfl, he3⟩
      have h3 : e3.dat.off = true := by rw [he3]; exact spend_off h2
      conv => whnf
      ((with_reducible refine (num9_ok 9).mono ?_); rintro _ _ ⟨rfl, rfl⟩; (conv => whnf))
      repeat' (first | ((with_reducible apply rd_intro); (focus (intro K hK; (conv => whnf); first | exact hK | (intro z hz; rw [wrapI (by omega)] at hz; subst hz; exact hK))); (conv => whnf)) | ((with_reducible apply gd_and); (focus ((conv => whnf); first | rfl | (intro K hK; (conv => whnf); first | exact hK | (intro z hz; rw [wrapI (by omega)] at hz; subst hz; exact hK)))); (conv => whnf)) | ((with_reducible apply z_wrap); (focus omega); (conv => whnf)) | ((with_reducible refine mt_dec (fun _ => ?_) (fun _ => ?_)) <;> (conv => whnf)) | ((with_reducible refine mt_eq (fun _ => ?_) (fun _ => ?_)) <;> (conv => whnf)) | ((with_reducible refine mt_ne (fun _ => ?_) (fun _ => ?_)) <;> (conv => whnf)) | ((with_reducible refine mt_not (fun _ => ?_) (fun _ => ?_)) <;> (conv => whnf)) | ((with_reducible refine mt_any (fun _ => ?_) (fun _ => ?_)) <;> (conv => whnf)))
      refine (remove_ok e3 nK).mono ?_
      rw [rem_off (d := e3.dat) (n := nK) rfl (spend_off h3)]
      rintro _ _ ⟨e4, rfl, rfl, he4⟩
      have h4 : e4.dat.off = true := by rw [he4]; exact spend_off h3
      conv => whnf
      ((with_reducible refine (num9_ok 9).mono ?_); rintro _ _ ⟨rfl, rfl⟩; (conv => whnf))
      repeat' (first | ((with_reducible apply rd_intro); (focus (intro K hK; (conv => whnf); first | exact hK | (intro z hz; rw [wrapI (by omega)] at hz; subst hz; exact hK))); (conv => whnf)) | ((with_reducible apply gd_and); (focus ((conv => whnf); first | rfl | (intro K hK; (conv => whnf); first | exact hK | (intro z hz; rw [wrapI (by omega)] at hz; subst hz; exact hK)))); (conv => whnf)) | ((with_reducible apply z_wrap); (focus omega); (conv => whnf)) | ((with_reducible refine mt_dec (fun _ => ?_) (fun _ => ?_)) <;> (conv => whnf)) | ((with_reducible refine mt_eq (fun _ => ?_) (fun _ => ?_)) <;> (conv => whnf)) | ((with_reducible refine mt_ne (fun _ => ?_) (fun _ => ?_)) <;> (conv => whnf)) | ((with_reducible refine mt_not (fun _ => ?_) (fun _ => ?_)) <;> (conv => whnf)) | ((with_reducible refine mt_any (fun _ => ?_) (fun _ => ?_)) <;> (conv => whnf)))
      refine (rename_ok e4 nK ⟨#[97]⟩).mono ?_
      rw [ren_off (d := e4.dat) (n := nK) (t := ⟨#[97]⟩) rfl rfl (spend_off h4)]
      rintro _ _ ⟨e5, rfl, rfl, he5⟩
      conv => whnf
      ((with_reducible refine (num9_ok 9).mono ?_); rintro _ _ ⟨rfl, rfl⟩; (conv => whnf))
      repeat' (first | ((with_reducible apply rd_intro); (focus (intro K hK; (conv => whnf); first | exact hK | (intro z hz; rw [wrapI (by omega)] at hz; subst hz; exact hK))); (conv => whnf)) | ((with_reducible apply gd_and); (focus ((conv => whnf); first | rfl | (intro K hK; (conv => whnf); first | exact hK | (intro z hz; rw [wrapI (by omega)] at hz; subst hz; exact hK)))); (conv => whnf)) | ((with_reducible apply z_wrap); (focus omega); (conv => whnf)) | ((with_reducible refine mt_dec (fun _ => ?_) (fun _ => ?_)) <;> (conv => whnf)) | ((with_reducible refine mt_eq (fun _ => ?_) (fun _ => ?_)) <;> (conv => whnf)) | ((with_reducible refine mt_ne (fun _ => ?_) (fun _ => ?_)) <;> (conv => whnf)) | ((with_reducible refine mt_not (fun _ => ?_) (fun _ => ?_)) <;> (conv => whnf)) | ((with_reducible refine mt_any (fun _ => ?_) (fun _ => ?_)) <;> (conv => whnf)))
      refine wakes9_ok.mono ?_
      rintro _ _ ⟨rfl, rfl⟩
      conv => whnf
      exact ⟨rfl, rfl⟩
    · rintro k d ⟨hk, hd⟩
      conv => whnf
      ((with_reducible refine mt_dec (fun _ => ?_) (fun _ => ?_)) <;> (conv => whnf))
      · rename_i h
        simp only [List.length_map] at h
        ((with_reducible refine mt_dec (fun _ => ?_) (fun _ => ?_)) <;> (conv => whnf))
        · obtain ⟨a, ha⟩ : ∃ a, p.acts[k]? = some a := ⟨_, List.getElem?_eq_getElem (by omega)⟩
          obtain ⟨hbl, hpl⟩ := act_light hhv (by omega) ha
          have hpk := (hp.a a (List.mem_of_getElem? ha)).pick
          ((with_reducible refine ix_map ha ?_ ?_); (focus (first | rfl | omega)); (conv => whnf))
          repeat' (first | ((with_reducible apply rd_intro); (focus (intro K hK; (conv => whnf); first | exact hK | (intro z hz; rw [wrapI (by omega)] at hz; subst hz; exact hK))); (conv => whnf)) | ((with_reducible apply gd_and); (focus ((conv => whnf); first | rfl | (intro K hK; (conv => whnf); first | exact hK | (intro z hz; rw [wrapI (by omega)] at hz; subst hz; exact hK)))); (conv => whnf)) | ((with_reducible apply z_wrap); (focus omega); (conv => whnf)) | ((with_reducible refine mt_dec (fun _ => ?_) (fun _ => ?_)) <;> (conv => whnf)) | ((with_reducible refine mt_eq (fun _ => ?_) (fun _ => ?_)) <;> (conv => whnf)) | ((with_reducible refine mt_ne (fun _ => ?_) (fun _ => ?_)) <;> (conv => whnf)) | ((with_reducible refine mt_not (fun _ => ?_) (fun _ => ?_)) <;> (conv => whnf)) | ((with_reducible refine mt_any (fun _ => ?_) (fun _ => ?_)) <;> (conv => whnf)))
          · exact ⟨k + 1, d, rfl, rfl, ⟨by omega, hd⟩, by omega⟩
          · exact ⟨k + 1, d, rfl, rfl, ⟨by omega, hd⟩, by omega⟩
          · rename_i hxa hxb
            have hA : a.a ≠ nK := by intro e; rw [e] at hxa; simp [nK] at hxa
            have hB : a.b ≠ nK := by intro e; rw [e] at hxb; simp [nK] at hxb
            clear hxa hxb
            refine (within_ok a.act 11 (by decide) (by decide) (hp.a a (List.mem_of_getElem? ha)).act).mono ?_
            rintro _ _ ⟨rfl, rfl⟩
            conv => whnf
            generalize a.act % 18446744073709551616 % 11 = wi
            repeat' (first | ((with_reducible apply rd_intro); (focus (intro K hK; (conv => whnf); first | exact hK | (intro z hz; rw [wrapI (by omega)] at hz; subst hz; exact hK))); (conv => whnf)) | ((with_reducible apply gd_and); (focus ((conv => whnf); first | rfl | (intro K hK; (conv => whnf); first | exact hK | (intro z hz; rw [wrapI (by omega)] at hz; subst hz; exact hK)))); (conv => whnf)) | ((with_reducible apply z_wrap); (focus omega); (conv => whnf)) | ((with_reducible refine mt_dec (fun _ => ?_) (fun _ => ?_)) <;> (conv => whnf)) | ((with_reducible refine mt_eq (fun _ => ?_) (fun _ => ?_)) <;> (conv => whnf)) | ((with_reducible refine mt_ne (fun _ => ?_) (fun _ => ?_)) <;> (conv => whnf)) | ((with_reducible refine mt_not (fun _ => ?_) (fun _ => ?_)) <;> (conv => whnf)) | ((with_reducible refine mt_any (fun _ => ?_) (fun _ => ?_)) <;> (conv => whnf)))
            · refine (cut_ok d hd.fine.ok a.a a.n).mono ?_
              rintro _ _ ⟨d', rfl, rfl, hd'⟩
              conv => whnf
              repeat' (first | ((with_reducible apply rd_intro); (focus (intro K hK; (conv => whnf); first | exact hK | (intro z hz; rw [wrapI (by omega)] at hz; subst hz; exact hK))); (conv => whnf)) | ((with_reducible apply gd_and); (focus ((conv => whnf); first | rfl | (intro K hK; (conv => whnf); first | exact hK | (intro z hz; rw [wrapI (by omega)] at hz; subst hz; exact hK)))); (conv => whnf)) | ((with_reducible apply z_wrap); (focus omega); (conv => whnf)) | ((with_reducible refine mt_dec (fun _ => ?_) (fun _ => ?_)) <;> (conv => whnf)) | ((with_reducible refine mt_eq (fun _ => ?_) (fun _ => ?_)) <;> (conv => whnf)) | ((with_reducible refine mt_ne (fun _ => ?_) (fun _ => ?_)) <;> (conv => whnf)) | ((with_reducible refine mt_not (fun _ => ?_) (fun _ => ?_)) <;> (conv => whnf)) | ((with_reducible refine mt_any (fun _ => ?_) (fun _ => ?_)) <;> (conv => whnf)))
              exact ⟨k + 1, d', rfl, rfl, ⟨by omega, by rw [hd']; exact hd.cut hA a.n⟩, by omega⟩
            · refine (sync_ok d a.a).mono ?_
              rintro _ _ ⟨d', rfl, rfl, hd'⟩
              conv => whnf
              repeat' (first | ((with_reducible apply rd_intro); (focus (intro K hK; (conv => whnf); first | exact hK | (intro z hz; rw [wrapI (by omega)] at hz; subst hz; exact hK))); (conv => whnf)) | ((with_reducible apply gd_and); (focus ((conv => whnf); first | rfl | (intro K hK; (conv => whnf); first | exact hK | (intro z hz; rw [wrapI (by omega)] at hz; subst hz; exact hK)))); (conv => whnf)) | ((with_reducible apply z_wrap); (focus omega); (conv => whnf)) | ((with_reducible refine mt_dec (fun _ => ?_) (fun _ => ?_)) <;> (conv => whnf)) | ((with_reducible refine mt_eq (fun _ => ?_) (fun _ => ?_)) <;> (conv => whnf)) | ((with_reducible refine mt_ne (fun _ => ?_) (fun _ => ?_)) <;> (conv => whnf)) | ((with_reducible refine mt_not (fun _ => ?_) (fun _ => ?_)) <;> (conv => whnf)) | ((with_reducible refine mt_any (fun _ => ?_) (fun _ => ?_)) <;> (conv => whnf)))
              exact ⟨k + 1, d', rfl, rfl, ⟨by omega, by rw [hd']; exact hd.sync hA⟩, by omega⟩
            · refine (rename_ok d a.a a.b).mono ?_
              rintro _ _ ⟨d', rfl, rfl, hd'⟩
              conv => whnf
              repeat' (first | ((with_reducible apply rd_intro); (focus (intro K hK; (conv => whnf); first | exact hK | (intro z hz; rw [wrapI (by omega)] at hz; subst hz; exact hK))); (conv => whnf)) | ((with_reducible apply gd_and); (focus ((conv => whnf); first | rfl | (intro K hK; (conv => whnf); first | exact hK | (intro z hz; rw [wrapI (by omega)] at hz; subst hz; exact hK)))); (conv => whnf)) | ((with_reducible apply z_wrap); (focus omega); (conv => whnf)) | ((with_reducible refine mt_dec (fun _ => ?_) (fun _ => ?_)) <;> (conv => whnf)) | ((with_reducible refine mt_eq (fun _ => ?_) (fun _ => ?_)) <;> (conv => whnf)) | ((with_reducible refine mt_ne (fun _ => ?_) (fun _ => ?_)) <;> (conv => whnf)) | ((with_reducible refine mt_not (fun _ => ?_) (fun _ => ?_)) <;> (conv => whnf)) | ((with_reducible refine mt_any (fun _ => ?_) (fun _ => ?_)) <;> (conv => whnf)))
              exact ⟨k + 1, d', rfl, rfl, ⟨by omega, by rw [hd']; exact hd.rename hA hB⟩, by omega⟩
            · refine (remove_ok d a.a).mono ?_
              rintro _ _ ⟨d', rfl, rfl, hd'⟩
              conv => whnf
              repeat' (first | ((with_reducible apply rd_intro); (focus (intro K hK; (conv => whnf); first | exact hK | (intro z hz; rw [wrapI (by omega)] at hz; subst hz; exact hK))); (conv => whnf)) | ((with_reducible apply gd_and); (focus ((conv => whnf); first | rfl | (intro K hK; (conv => whnf); first | exact hK | (intro z hz; rw [wrapI (by omega)] at hz; subst hz; exact hK)))); (conv => whnf)) | ((with_reducible apply z_wrap); (focus omega); (conv => whnf)) | ((with_reducible refine mt_dec (fun _ => ?_) (fun _ => ?_)) <;> (conv => whnf)) | ((with_reducible refine mt_eq (fun _ => ?_) (fun _ => ?_)) <;> (conv => whnf)) | ((with_reducible refine mt_ne (fun _ => ?_) (fun _ => ?_)) <;> (conv => whnf)) | ((with_reducible refine mt_not (fun _ => ?_) (fun _ => ?_)) <;> (conv => whnf)) | ((with_reducible refine mt_any (fun _ => ?_) (fun _ => ?_)) <;> (conv => whnf)))
              exact ⟨k + 1, d', rfl, rfl, ⟨by omega, by rw [hd']; exact hd.remove hA⟩, by omega⟩
            · refine (crash_ok d hd.fine a.picks hpk (by omega)).mono ?_
              rintro _ _ ⟨ss, hss, hrs, rfl, rfl⟩
              obtain ⟨hmay, hlen, hl16, hdl, hkept⟩ := crash_kept hd hss hrs a.picks
              generalize (crashAt (pickFs ss d.dat.fs) a.picks ss.length).1 = l at *
              conv => whnf
              repeat' (first | ((with_reducible apply rd_intro); (focus (intro K hK; (conv => whnf); first | exact hK | (intro z hz; rw [wrapI (by omega)] at hz; subst hz; exact hK))); (conv => whnf)) | ((with_reducible apply gd_and); (focus ((conv => whnf); first | rfl | (intro K hK; (conv => whnf); first | exact hK | (intro z hz; rw [wrapI (by omega)] at hz; subst hz; exact hK)))); (conv => whnf)) | ((with_reducible apply z_wrap); (focus omega); (conv => whnf)) | ((with_reducible refine mt_dec (fun _ => ?_) (fun _ => ?_)) <;> (conv => whnf)) | ((with_reducible refine mt_eq (fun _ => ?_) (fun _ => ?_)) <;> (conv => whnf)) | ((with_reducible refine mt_ne (fun _ => ?_) (fun _ => ?_)) <;> (conv => whnf)) | ((with_reducible refine mt_not (fun _ => ?_) (fun _ => ?_)) <;> (conv => whnf)) | ((with_reducible refine mt_any (fun _ => ?_) (fun _ => ?_)) <;> (conv => whnf)))
              refine (copyFiles_ok l (by omega) (fun f hf => by have := hdl f hf; omega)).mono ?_
              rintro _ _ ⟨rfl, rfl⟩
              conv => whnf
              repeat' (first | ((with_reducible apply rd_intro); (focus (intro K hK; (conv => whnf); first | exact hK | (intro z hz; rw [wrapI (by omega)] at hz; subst hz; exact hK))); (conv => whnf)) | ((with_reducible apply gd_and); (focus ((conv => whnf); first | rfl | (intro K hK; (conv => whnf); first | exact hK | (intro z hz; rw [wrapI (by omega)] at hz; subst hz; exact hK)))); (conv => whnf)) | ((with_reducible apply z_wrap); (focus omega); (conv => whnf)) | ((with_reducible refine mt_dec (fun _ => ?_) (fun _ => ?_)) <;> (conv => whnf)) | ((with_reducible refine mt_eq (fun _ => ?_) (fun _ => ?_)) <;> (conv => whnf)) | ((with_reducible refine mt_ne (fun _ => ?_) (fun _ => ?_)) <;> (conv => whnf)) | ((with_reducible refine mt_not (fun _ => ?_) (fun _ => ?_)) <;> (conv => whnf)) | ((with_reducible refine mt_any (fun _ => ?_) (fun _ => ?_)) <;> (conv => whnf)))
              refine (new_ok l (fun f hf => by have := hdl f hf; omega) (by omega)).mono ?_
              rintro _ _ ⟨hn1, _⟩
              obtain ⟨rfl, fs, rfl, hfs⟩ := hn1 hmay
              have hx := newFl_dat hfs
              have hk2 : (Dk.mk 0 false 0 fs).dat.kept := by rw [hx]; exact hkept
              clear hn1
              conv => whnf
              ((with_reducible refine (num9_ok 0).mono ?_); rintro _ _ ⟨rfl, rfl⟩; (conv => whnf))
              repeat' (first | ((with_reducible apply rd_intro); (focus (intro K hK; (conv => whnf); first | exact hK | (intro z hz; rw [wrapI (by omega)] at hz; subst hz; exact hK))); (conv => whnf)) | ((with_reducible apply gd_and); (focus ((conv => whnf); first | rfl | (intro K hK; (conv => whnf); first | exact hK | (intro z hz; rw [wrapI (by omega)] at hz; subst hz; exact hK)))); (conv => whnf)) | ((with_reducible apply z_wrap); (focus omega); (conv => whnf)) | ((with_reducible refine mt_dec (fun _ => ?_) (fun _ => ?_)) <;> (conv => whnf)) | ((with_reducible refine mt_eq (fun _ => ?_) (fun _ => ?_)) <;> (conv => whnf)) | ((with_reducible refine mt_ne (fun _ => ?_) (fun _ => ?_)) <;> (conv => whnf)) | ((with_reducible refine mt_not (fun _ => ?_) (fun _ => ?_)) <;> (conv => whnf)) | ((with_reducible refine mt_any (fun _ => ?_) (fun _ => ?_)) <;> (conv => whnf)))
              refine (read_ok (Dk.mk 0 false 0 fs) hk2.fine.ok nK).mono ?_
              rw [read_some (d := (Dk.mk 0 false 0 fs).dat) (f := ⟨nK, keepL, keepL⟩) rfl rfl hk2.k]
              rintro _ _ ⟨rfl, rfl⟩
              conv => whnf
              repeat' (first | ((with_reducible apply rd_intro); (focus (intro K hK; (conv => whnf); first | exact hK | (intro z hz; rw [wrapI (by omega)] at hz; subst hz; exact hK))); (conv => whnf)) | ((with_reducible apply gd_and); (focus ((conv => whnf); first | rfl | (intro K hK; (conv => whnf); first | exact hK | (intro z hz; rw [wrapI (by omega)] at hz; subst hz; exact hK)))); (conv => whnf)) | ((with_reducible apply z_wrap); (focus omega); (conv => whnf)) | ((with_reducible refine mt_dec (fun _ => ?_) (fun _ => ?_)) <;> (conv => whnf)) | ((with_reducible refine mt_eq (fun _ => ?_) (fun _ => ?_)) <;> (conv => whnf)) | ((with_reducible refine mt_ne (fun _ => ?_) (fun _ => ?_)) <;> (conv => whnf)) | ((with_reducible refine mt_not (fun _ => ?_) (fun _ => ?_)) <;> (conv => whnf)) | ((with_reducible refine mt_any (fun _ => ?_) (fun _ => ?_)) <;> (conv => whnf)))
              refine (list_ok (Dk.mk 0 false 0 fs) hk2.fine).mono ?_
              rintro _ _ ⟨ss2, hss2, rfl, rfl⟩
              have hl2 : ss2.length = l.length := by have := (hss2.2.1 rfl).length_eq; rw [hx] at this; simpa [newDD] using this
              have hq1 : (strs ss2).length = l.length := by rw [← hl2]; exact List.length_map ..
              have hq2 : (l.map FileS.cs).length = l.length := List.length_map ..
              conv => whnf
              ((with_reducible refine (num9_ok 0).mono ?_); rintro _ _ ⟨rfl, rfl⟩; (conv => whnf))
              repeat' (first | ((with_reducible apply rd_intro); (focus (intro K hK; (conv => whnf); first | exact hK | (intro z hz; rw [wrapI (by omega)] at hz; subst hz; exact hK))); (conv => whnf)) | ((with_reducible apply gd_and); (focus ((conv => whnf); first | rfl | (intro K hK; (conv => whnf); first | exact hK | (intro z hz; rw [wrapI (by omega)] at hz; subst hz; exact hK)))); (conv => whnf)) | ((with_reducible apply z_wrap); (focus omega); (conv => whnf)) | ((with_reducible refine mt_dec (fun _ => ?_) (fun _ => ?_)) <;> (conv => whnf)) | ((with_reducible refine mt_eq (fun _ => ?_) (fun _ => ?_)) <;> (conv => whnf)) | ((with_reducible refine mt_ne (fun _ => ?_) (fun _ => ?_)) <;> (conv => whnf)) | ((with_reducible refine mt_not (fun _ => ?_) (fun _ => ?_)) <;> (conv => whnf)) | ((with_reducible refine mt_any (fun _ => ?_) (fun _ => ?_)) <;> (conv => whnf)))
              refine (eqBytes_ok keepL keepL (by simp [keep_len])).mono ?_
              rw [show (keepL == keepL) = true by simp]
              rintro _ _ ⟨rfl, rfl⟩
              conv => whnf
              refine (num9_ok 0).mono ?_
              rintro _ _ ⟨rfl, rfl⟩
              conv => whnf
              repeat' (first | ((with_reducible apply rd_intro); (focus (intro K hK; (conv => whnf); first | exact hK | (intro z hz; rw [wrapI (by omega)] at hz; subst hz; exact hK))); (conv => whnf)) | ((with_reducible apply gd_and); (focus ((conv => whnf); first | rfl | (intro K hK; (conv => whnf); first | exact hK | (intro z hz; rw [wrapI (by omega)] at hz; subst hz; exact hK)))); (conv => whnf)) | ((with_reducible apply z_wrap); (focus omega); (conv => whnf)) | ((with_reducible refine mt_dec (fun _ => ?_) (fun _ => ?_)) <;> (conv => whnf)) | ((with_reducible refine mt_eq (fun _ => ?_) (fun _ => ?_)) <;> (conv => whnf)) | ((with_reducible refine mt_ne (fun _ => ?_) (fun _ => ?_)) <;> (conv => whnf)) | ((with_reducible refine mt_not (fun _ => ?_) (fun _ => ?_)) <;> (conv => whnf)) | ((with_reducible refine mt_any (fun _ => ?_) (fun _ => ?_)) <;> (conv => whnf)))
              · rename_i hne
                exact absurd (by omega) hne
              · exact ⟨k + 1, d, rfl, rfl, ⟨by omega, hd⟩, by omega⟩
            · refine (crash_ok d hd.fine a.picks hpk (by omega)).mono ?_
              rintro _ _ ⟨ss, hss, hrs, rfl, rfl⟩
              obtain ⟨hmay, hlen, hl16, hdl, hkept⟩ := crash_kept hd hss hrs a.picks
              generalize (crashAt (pickFs ss d.dat.fs) a.picks ss.length).1 = l at *
              conv => whnf
              repeat' (first | ((with_reducible apply rd_intro); (focus (intro K hK; (conv => whnf); first | exact hK | (intro z hz; rw [wrapI (by omega)] at hz; subst hz; exact hK))); (conv => whnf)) | ((with_reducible apply gd_and); (focus ((conv => whnf); first | rfl | (intro K hK; (conv => whnf); first | exact hK | (intro z hz; rw [wrapI (by omega)] at hz; subst hz; exact hK)))); (conv => whnf)) | ((with_reducible apply z_wrap); (focus omega); (conv => whnf)) | ((with_reducible refine mt_dec (fun _ => ?_) (fun _ => ?_)) <;> (conv => whnf)) | ((with_reducible refine mt_eq (fun _ => ?_) (fun _ => ?_)) <;> (conv => whnf)) | ((with_reducible refine mt_ne (fun _ => ?_) (fun _ => ?_)) <;> (conv => whnf)) | ((with_reducible refine mt_not (fun _ => ?_) (fun _ => ?_)) <;> (conv => whnf)) | ((with_reducible refine mt_any (fun _ => ?_) (fun _ => ?_)) <;> (conv => whnf)))
              refine (copyFiles_ok l (by omega) (fun f hf => by have := hdl f hf; omega)).mono ?_
              rintro _ _ ⟨rfl, rfl⟩
              conv => whnf
              repeat' (first | ((with_reducible apply rd_intro); (focus (intro K hK; (conv => whnf); first | exact hK | (intro z hz; rw [wrapI (by omega)] at hz; subst hz; exact hK))); (conv => whnf)) | ((with_reducible apply gd_and); (focus ((conv => whnf); first | rfl | (intro K hK; (conv => whnf); first | exact hK | (intro z hz; rw [wrapI (by omega)] at hz; subst hz; exact hK)))); (conv => whnf)) | ((with_reducible apply z_wrap); (focus omega); (conv => whnf)) | ((with_reducible refine mt_dec (fun _ => ?_) (fun _ => ?_)) <;> (conv => whnf)) | ((with_reducible refine mt_eq (fun _ => ?_) (fun _ => ?_)) <;> (conv => whnf)) | ((with_reducible refine mt_ne (fun _ => ?_) (fun _ => ?_)) <;> (conv => whnf)) | ((with_reducible refine mt_not (fun _ => ?_) (fun _ => ?_)) <;> (conv => whnf)) | ((with_reducible refine mt_any (fun _ => ?_) (fun _ => ?_)) <;> (conv => whnf)))
              refine (new_ok l (fun f hf => by have := hdl f hf; omega) (by omega)).mono ?_
              rintro _ _ ⟨hn1, _⟩
              obtain ⟨rfl, fs, rfl, hfs⟩ := hn1 hmay
              have hx := newFl_dat hfs
              have hk2 : (Dk.mk 0 false 0 fs).dat.kept := by rw [hx]; exact hkept
              clear hn1
              conv => whnf
              ((with_reducible refine (num9_ok 0).mono ?_); rintro _ _ ⟨rfl, rfl⟩; (conv => whnf))
              repeat' (first | ((with_reducible apply rd_intro); (focus (intro K hK; (conv => whnf); first | exact hK | (intro z hz; rw [wrapI (by omega)] at hz; subst hz; exact hK))); (conv => whnf)) | ((with_reducible apply gd_and); (focus ((conv => whnf); first | rfl | (intro K hK; (conv => whnf); first | exact hK | (intro z hz; rw [wrapI (by omega)] at hz; subst hz; exact hK)))); (conv => whnf)) | ((with_reducible apply z_wrap); (focus omega); (conv => whnf)) | ((with_reducible refine mt_dec (fun _ => ?_) (fun _ => ?_)) <;> (conv => whnf)) | ((with_reducible refine mt_eq (fun _ => ?_) (fun _ => ?_)) <;> (conv => whnf)) | ((with_reducible refine mt_ne (fun _ => ?_) (fun _ => ?_)) <;> (conv => whnf)) | ((with_reducible refine mt_not (fun _ => ?_) (fun _ => ?_)) <;> (conv => whnf)) | ((with_reducible refine mt_any (fun _ => ?_) (fun _ => ?_)) <;> (conv => whnf)))
              refine (read_ok (Dk.mk 0 false 0 fs) hk2.fine.ok nK).mono ?_
              rw [read_some (d := (Dk.mk 0 false 0 fs).dat) (f := ⟨nK, keepL, keepL⟩) rfl rfl hk2.k]
              rintro _ _ ⟨rfl, rfl⟩
              conv => whnf
              repeat' (first | ((with_reducible apply rd_intro); (focus (intro K hK; (conv => whnf); first | exact hK | (intro z hz; rw [wrapI (by omega)] at hz; subst hz; exact hK))); (conv => whnf)) | ((with_reducible apply gd_and); (focus ((conv => whnf); first | rfl | (intro K hK; (conv => whnf); first | exact hK | (intro z hz; rw [wrapI (by omega)] at hz; subst hz; exact hK)))); (conv => whnf)) | ((with_reducible apply z_wrap); (focus omega); (conv => whnf)) | ((with_reducible refine mt_dec (fun _ => ?_) (fun _ => ?_)) <;> (conv => whnf)) | ((with_reducible refine mt_eq (fun _ => ?_) (fun _ => ?_)) <;> (conv => whnf)) | ((with_reducible refine mt_ne (fun _ => ?_) (fun _ => ?_)) <;> (conv => whnf)) | ((with_reducible refine mt_not (fun _ => ?_) (fun _ => ?_)) <;> (conv => whnf)) | ((with_reducible refine mt_any (fun _ => ?_) (fun _ => ?_)) <;> (conv => whnf)))
              refine (list_ok (Dk.mk 0 false 0 fs) hk2.fine).mono ?_
              rintro _ _ ⟨ss2, hss2, rfl, rfl⟩
              have hl2 : ss2.length = l.length := by have := (hss2.2.1 rfl).length_eq; rw [hx] at this; simpa [newDD] using this
              have hq1 : (strs ss2).length = l.length := by rw [← hl2]; exact List.length_map ..
              have hq2 : (l.map FileS.cs).length = l.length := List.length_map ..
              conv => whnf
              ((with_reducible refine (num9_ok 0).mono ?_); rintro _ _ ⟨rfl, rfl⟩; (conv => whnf))
              repeat' (first | ((with_reducible apply rd_intro); (focus (intro K hK; (conv => whnf); first | exact hK | (intro z hz; rw [wrapI (by omega)] at hz; subst hz; exact hK))); (conv => whnf)) | ((with_reducible apply gd_and); (focus ((conv => whnf); first | rfl | (intro K hK; (conv => whnf); first | exact hK | (intro z hz; rw [wrapI (by omega)] at hz; subst hz; exact hK)))); (conv => whnf)) | ((with_reducible apply z_wrap); (focus omega); (conv => whnf)) | ((with_reducible refine mt_dec (fun _ => ?_) (fun _ => ?_)) <;> (conv => whnf)) | ((with_reducible refine mt_eq (fun _ => ?_) (fun _ => ?_)) <;> (conv => whnf)) | ((with_reducible refine mt_ne (fun _ => ?_) (fun _ => ?_)) <;> (conv => whnf)) | ((with_reducible refine mt_not (fun _ => ?_) (fun _ => ?_)) <;> (conv => whnf)) | ((with_reducible refine mt_any (fun _ => ?_) (fun _ => ?_)) <;> (conv => whnf)))
              refine (eqBytes_ok keepL keepL (by simp [keep_len])).mono ?_
              rw [show (keepL == keepL) = true by simp]
              rintro _ _ ⟨rfl, rfl⟩
              conv => whnf
              refine (num9_ok 0).mono ?_
              rintro _ _ ⟨rfl, rfl⟩
              conv => whnf
              repeat' (first | ((with_reducible apply rd_intro); (focus (intro K hK; (conv => whnf); first | exact hK | (intro z hz; rw [wrapI (by omega)] at hz; subst hz; exact hK))); (conv => whnf)) | ((with_reducible apply gd_and); (focus ((conv => whnf); first | rfl | (intro K hK; (conv => whnf); first | exact hK | (intro z hz; rw [wrapI (by omega)] at hz; subst hz; exact hK)))); (conv => whnf)) | ((with_reducible apply z_wrap); (focus omega); (conv => whnf)) | ((with_reducible refine mt_dec (fun _ => ?_) (fun _ => ?_)) <;> (conv => whnf)) | ((with_reducible refine mt_eq (fun _ => ?_) (fun _ => ?_)) <;> (conv => whnf)) | ((with_reducible refine mt_ne (fun _ => ?_) (fun _ => ?_)) <;> (conv => whnf)) | ((with_reducible refine mt_not (fun _ => ?_) (fun _ => ?_)) <;> (conv => whnf)) | ((with_reducible refine mt_any (fun _ => ?_) (fun _ => ?_)) <;> (conv => whnf)))
              · rename_i hne
                exact absurd (by omega) hne
              · exact ⟨k + 1, d, rfl, rfl, ⟨by omega, hd⟩, by omega⟩
            · refine (crash_ok d hd.fine a.picks hpk (by omega)).mono ?_
              rintro _ _ ⟨ss, hss, hrs, rfl, rfl⟩
              obtain ⟨hmay, hlen, hl16, hdl, hkept⟩ := crash_kept hd hss hrs a.picks
              generalize (crashAt (pickFs ss d.dat.fs) a.picks ss.length).1 = l at *
              conv => whnf
              repeat' (first | ((with_reducible apply rd_intro); (focus (intro K hK; (conv => whnf); first | exact hK | (intro z hz; rw [wrapI (by omega)] at hz; subst hz; exact hK))); (conv => whnf)) | ((with_reducible apply gd_and); (focus ((conv => whnf); first | rfl | (intro K hK; (conv => whnf); first | exact hK | (intro z hz; rw [wrapI (by omega)] at hz; subst hz; exact hK)))); (conv => whnf)) | ((with_reducible apply z_wrap); (focus omega); (conv => whnf)) | ((with_reducible refine mt_dec (fun _ => ?_) (fun _ => ?_)) <;> (conv => whnf)) | ((with_reducible refine mt_eq (fun _ => ?_) (fun _ => ?_)) <;> (conv => whnf)) | ((with_reducible refine mt_ne (fun _ => ?_) (fun _ => ?_)) <;> (conv => whnf)) | ((with_reducible refine mt_not (fun _ => ?_) (fun _ => ?_)) <;> (conv => whnf)) | ((with_reducible refine mt_any (fun _ => ?_) (fun _ => ?_)) <;> (conv => whnf)))
              refine (copyFiles_ok l (by omega) (fun f hf => by have := hdl f hf; omega)).mono ?_
              rintro _ _ ⟨rfl, rfl⟩
              conv => whnf
              repeat' (first | ((with_reducible apply rd_intro); (focus (intro K hK; (conv => whnf); first | exact hK | (intro z hz; rw [wrapI (by omega)] at hz; subst hz; exact hK))); (conv => whnf)) | ((with_reducible apply gd_and); (focus ((conv => whnf); first | rfl | (intro K hK; (conv => whnf); first | exact hK | (intro z hz; rw [wrapI (by omega)] at hz; subst hz; exact hK)))); (conv => whnf)) | ((with_reducible apply z_wrap); (focus omega); (conv => whnf)) | ((with_reducible refine mt_dec (fun _ => ?_) (fun _ => ?_)) <;> (conv => whnf)) | ((with_reducible refine mt_eq (fun _ => ?_) (fun _ => ?_)) <;> (conv => whnf)) | ((with_reducible refine mt_ne (fun _ => ?_) (fun _ => ?_)) <;> (conv => whnf)) | ((with_reducible refine mt_not (fun _ => ?_) (fun _ => ?_)) <;> (conv => whnf)) | ((with_reducible refine mt_any (fun _ => ?_) (fun _ => ?_)) <;> (conv => whnf)))
              refine (new_ok l (fun f hf => by have := hdl f hf; omega) (by omega)).mono ?_
              rintro _ _ ⟨hn1, _⟩
              obtain ⟨rfl, fs, rfl, hfs⟩ := hn1 hmay
              have hx := newFl_dat hfs
              have hk2 : (Dk.mk 0 false 0 fs).dat.kept := by rw [hx]; exact hkept
              clear hn1
              conv => whnf
              ((with_reducible refine (num9_ok 0).mono ?_); rintro _ _ ⟨rfl, rfl⟩; (conv => whnf))
              repeat' (first | ((with_reducible apply rd_intro); (focus (intro K hK; (conv => whnf); first | exact hK | (intro z hz; rw [wrapI (by omega)] at hz; subst hz; exact hK))); (conv => whnf)) | ((with_reducible apply gd_and); (focus ((conv => whnf); first | rfl | (intro K hK; (conv => whnf); first | exact hK | (intro z hz; rw [wrapI (by omega)] at hz; subst hz; exact hK)))); (conv => whnf)) | ((with_reducible apply z_wrap); (focus omega); (conv => whnf)) | ((with_reducible refine mt_dec (fun _ => ?_) (fun _ => ?_)) <;> (conv => whnf)) | ((with_reducible refine mt_eq (fun _ => ?_) (fun _ => ?_)) <;> (conv => whnf)) | ((with_reducible refine mt_ne (fun _ => ?_) (fun _ => ?_)) <;> (conv => whnf)) | ((with_reducible refine mt_not (fun _ => ?_) (fun _ => ?_)) <;> (conv => whnf)) | ((with_reducible refine mt_any (fun _ => ?_) (fun _ => ?_)) <;> (conv => whnf)))
              refine (read_ok (Dk.mk 0 false 0 fs) hk2.fine.ok nK).mono ?_
              rw [read_some (d := (Dk.mk 0 false 0 fs).dat) (f := ⟨nK, keepL, keepL⟩) rfl rfl hk2.k]
              rintro _ _ ⟨rfl, rfl⟩
              conv => whnf
              repeat' (first | ((with_reducible apply rd_intro); (focus (intro K hK; (conv => whnf); first | exact hK | (intro z hz; rw [wrapI (by omega)] at hz; subst hz; exact hK))); (conv => whnf)) | ((with_reducible apply gd_and); (focus ((conv => whnf); first | rfl | (intro K hK; (conv => whnf); first | exact hK | (intro z hz; rw [wrapI (by omega)] at hz; subst hz; exact hK)))); (conv => whnf)) | ((with_reducible apply z_wrap); (focus omega); (conv => whnf)) | ((with_reducible refine mt_dec (fun _ => ?_) (fun _ => ?_)) <;> (conv => whnf)) | ((with_reducible refine mt_eq (fun _ => ?_) (fun _ => ?_)) <;> (conv => whnf)) | ((with_reducible refine mt_ne (fun _ => ?_) (fun _ => ?_)) <;> (conv => whnf)) | ((with_reducible refine mt_not (fun _ => ?_) (fun _ => ?_)) <;> (conv => whnf)) | ((with_reducible refine mt_any (fun _ => ?_) (fun _ => ?_)) <;> (conv => whnf)))
              refine (list_ok (Dk.mk 0 false 0 fs) hk2.fine).mono ?_
              rintro _ _ ⟨ss2, hss2, rfl, rfl⟩
              have hl2 : ss2.length = l.length := by have := (hss2.2.1 rfl).length_eq; rw [hx] at this; simpa [newDD] using this
              have hq1 : (strs ss2).length = l.length := by rw [← hl2]; exact List.length_map ..
              have hq2 : (l.map FileS.cs).length = l.length := List.length_map ..
              conv => whnf
              ((with_reducible refine (num9_ok 0).mono ?_); rintro _ _ ⟨rfl, rfl⟩; (conv => whnf))
              repeat' (first | ((with_reducible apply rd_intro); (focus (intro K hK; (conv => whnf); first | exact hK | (intro z hz; rw [wrapI (by omega)] at hz; subst hz; exact hK))); (conv => whnf)) | ((with_reducible apply gd_and); (focus ((conv => whnf); first | rfl | (intro K hK; (conv => whnf); first | exact hK | (intro z hz; rw [wrapI (by omega)] at hz; subst hz; exact hK)))); (conv => whnf)) | ((with_reducible apply z_wrap); (focus omega); (conv => whnf)) | ((with_reducible refine mt_dec (fun _ => ?_) (fun _ => ?_)) <;> (conv => whnf)) | ((with_reducible refine mt_eq (fun _ => ?_) (fun _ => ?_)) <;> (conv => whnf)) | ((with_reducible refine mt_ne (fun _ => ?_) (fun _ => ?_)) <;> (conv => whnf)) | ((with_reducible refine mt_not (fun _ => ?_) (fun _ => ?_)) <;> (conv => whnf)) | ((with_reducible refine mt_any (fun _ => ?_) (fun _ => ?_)) <;> (conv => whnf)))
              refine (eqBytes_ok keepL keepL (by simp [keep_len])).mono ?_
              rw [show (keepL == keepL) = true by simp]
              rintro _ _ ⟨rfl, rfl⟩
              conv => whnf
              refine (num9_ok 0).mono ?_
              rintro _ _ ⟨rfl, rfl⟩
              conv => whnf
              repeat' (first | ((with_reducible apply rd_intro); (focus (intro K hK; (conv => whnf); first | exact hK | (intro z hz; rw [wrapI (by omega)] at hz; subst hz; exact hK))); (conv => whnf)) | ((with_reducible apply gd_and); (focus ((conv => whnf); first | rfl | (intro K hK; (conv => whnf); first | exact hK | (intro z hz; rw [wrapI (by omega)] at hz; subst hz; exact hK)))); (conv => whnf)) | ((with_reducible apply z_wrap); (focus omega); (conv => whnf)) | ((with_reducible refine mt_dec (fun _ => ?_) (fun _ => ?_)) <;> (conv => whnf)) | ((with_reducible refine mt_eq (fun _ => ?_) (fun _ => ?_)) <;> (conv => whnf)) | ((with_reducible refine mt_ne (fun _ => ?_) (fun _ => ?_)) <;> (conv => whnf)) | ((with_reducible refine mt_not (fun _ => ?_) (fun _ => ?_)) <;> (conv => whnf)) | ((with_reducible refine mt_any (fun _ => ?_) (fun _ => ?_)) <;> (conv => whnf)))
              · rename_i hne
                exact absurd (by omega) hne
              · exact ⟨k + 1, d, rfl, rfl, ⟨by omega, hd⟩, by omega⟩
            · ((with_reducible refine draw_pl ttOk zOk foOk mixedOk pl6x37 ?_ ?_); (focus kernel_rfl); (conv => whnf))
              repeat' (first | ((with_reducible apply rd_intro); (focus (intro K hK; (conv => whnf); first | exact hK | (intro z hz; rw [wrapI (by omega)] at hz; subst hz; exact hK))); (conv => whnf)) | ((with_reducible apply gd_and); (focus ((conv => whnf); first | rfl | (intro K hK; (conv => whnf); first | exact hK | (intro z hz; rw [wrapI (by omega)] at hz; subst hz; exact hK)))); (conv => whnf)) | ((with_reducible apply z_wrap); (focus omega); (conv => whnf)) | ((with_reducible refine mt_dec (fun _ => ?_) (fun _ => ?_)) <;> (conv => whnf)) | ((with_reducible refine mt_eq (fun _ => ?_) (fun _ => ?_)) <;> (conv => whnf)) | ((with_reducible refine mt_ne (fun _ => ?_) (fun _ => ?_)) <;> (conv => whnf)) | ((with_reducible refine mt_not (fun _ => ?_) (fun _ => ?_)) <;> (conv => whnf)) | ((with_reducible refine mt_any (fun _ => ?_) (fun _ => ?_)) <;> (conv => whnf)))
              refine (copyBytes_ok a.bytes (by omega)).mono ?_
              rintro _ _ ⟨rfl, rfl⟩
              conv => whnf
              repeat' (first | ((with_reducible apply rd_intro); (focus (intro K hK; (conv => whnf); first | exact hK | (intro z hz; rw [wrapI (by omega)] at hz; subst hz; exact hK))); (conv => whnf)) | ((with_reducible apply gd_and); (focus ((conv => whnf); first | rfl | (intro K hK; (conv => whnf); first | exact hK | (intro z hz; rw [wrapI (by omega)] at hz; subst hz; exact hK)))); (conv => whnf)) | ((with_reducible apply z_wrap); (focus omega); (conv => whnf)) | ((with_reducible refine mt_dec (fun _ => ?_) (fun _ => ?_)) <;> (conv => whnf)) | ((with_reducible refine mt_eq (fun _ => ?_) (fun _ => ?_)) <;> (conv => whnf)) | ((with_reducible refine mt_ne (fun _ => ?_) (fun _ => ?_)) <;> (conv => whnf)) | ((with_reducible refine mt_not (fun _ => ?_) (fun _ => ?_)) <;> (conv => whnf)) | ((with_reducible refine mt_any (fun _ => ?_) (fun _ => ?_)) <;> (conv => whnf)))
              refine (append_ok d hd.fine.ok a.a a.bytes (by omega)).mono ?_
              rintro _ _ ⟨d', rfl, rfl, hd'⟩
              conv => whnf
              repeat' (first | ((with_reducible apply rd_intro); (focus (intro K hK; (conv => whnf); first | exact hK | (intro z hz; rw [wrapI (by omega)] at hz; subst hz; exact hK))); (conv => whnf)) | ((with_reducible apply gd_and); (focus ((conv => whnf); first | rfl | (intro K hK; (conv => whnf); first | exact hK | (intro z hz; rw [wrapI (by omega)] at hz; subst hz; exact hK)))); (conv => whnf)) | ((with_reducible apply z_wrap); (focus omega); (conv => whnf)) | ((with_reducible refine mt_dec (fun _ => ?_) (fun _ => ?_)) <;> (conv => whnf)) | ((with_reducible refine mt_eq (fun _ => ?_) (fun _ => ?_)) <;> (conv => whnf)) | ((with_reducible refine mt_ne (fun _ => ?_) (fun _ => ?_)) <;> (conv => whnf)) | ((with_reducible refine mt_not (fun _ => ?_) (fun _ => ?_)) <;> (conv => whnf)) | ((with_reducible refine mt_any (fun _ => ?_) (fun _ => ?_)) <;> (conv => whnf)))
              exact ⟨k + 1, d', rfl, rfl, ⟨by omega, by rw [hd']; exact hd.append hA a.bytes⟩, by omega⟩
            · ((with_reducible refine draw_pl ttOk zOk foOk mixedOk pl6x37 ?_ ?_); (focus kernel_rfl); (conv => whnf))
              repeat' (first | ((with_reducible apply rd_intro); (focus (intro K hK; (conv => whnf); first | exact hK | (intro z hz; rw [wrapI (by omega)] at hz; subst hz; exact hK))); (conv => whnf)) | ((with_reducible apply gd_and); (focus ((conv => whnf); first | rfl | (intro K hK; (conv => whnf); first | exact hK | (intro z hz; rw [wrapI (by omega)] at hz; subst hz; exact hK)))); (conv => whnf)) | ((with_reducible apply z_wrap); (focus omega); (conv => whnf)) | ((with_reducible refine mt_dec (fun _ => ?_) (fun _ => ?_)) <;> (conv => whnf)) | ((with_reducible refine mt_eq (fun _ => ?_) (fun _ => ?_)) <;> (conv => whnf)) | ((with_reducible refine mt_ne (fun _ => ?_) (fun _ => ?_)) <;> (conv => whnf)) | ((with_reducible refine mt_not (fun _ => ?_) (fun _ => ?_)) <;> (conv => whnf)) | ((with_reducible refine mt_any (fun _ => ?_) (fun _ => ?_)) <;> (conv => whnf)))
              refine (copyBytes_ok a.bytes (by omega)).mono ?_
              rintro _ _ ⟨rfl, rfl⟩
              conv => whnf
              repeat' (first | ((with_reducible apply rd_intro); (focus (intro K hK; (conv => whnf); first | exact hK | (intro z hz; rw [wrapI (by omega)] at hz; subst hz; exact hK))); (conv => whnf)) | ((with_reducible apply gd_and); (focus ((conv => whnf); first | rfl | (intro K hK; (conv => whnf); first | exact hK | (intro z hz; rw [wrapI (by omega)] at hz; subst hz; exact hK)))); (conv => whnf)) | ((with_reducible apply z_wrap); (focus omega); (conv => whnf)) | ((with_reducible refine mt_dec (fun _ => ?_) (fun _ => ?_)) <;> (conv => whnf)) | ((with_reducible refine mt_eq (fun _ => ?_) (fun _ => ?_)) <;> (conv => whnf)) | ((with_reducible refine mt_ne (fun _ => ?_) (fun _ => ?_)) <;> (conv => whnf)) | ((with_reducible refine mt_not (fun _ => ?_) (fun _ => ?_)) <;> (conv => whnf)) | ((with_reducible refine mt_any (fun _ => ?_) (fun _ => ?_)) <;> (conv => whnf)))
              refine (append_ok d hd.fine.ok a.a a.bytes (by omega)).mono ?_
              rintro _ _ ⟨d', rfl, rfl, hd'⟩
              conv => whnf
              repeat' (first | ((with_reducible apply rd_intro); (focus (intro K hK; (conv => whnf); first | exact hK | (intro z hz; rw [wrapI (by omega)] at hz; subst hz; exact hK))); (conv => whnf)) | ((with_reducible apply gd_and); (focus ((conv => whnf); first | rfl | (intro K hK; (conv => whnf); first | exact hK | (intro z hz; rw [wrapI (by omega)] at hz; subst hz; exact hK)))); (conv => whnf)) | ((with_reducible apply z_wrap); (focus omega); (conv => whnf)) | ((with_reducible refine mt_dec (fun _ => ?_) (fun _ => ?_)) <;> (conv => whnf)) | ((with_reducible refine mt_eq (fun _ => ?_) (fun _ => ?_)) <;> (conv => whnf)) | ((with_reducible refine mt_ne (fun _ => ?_) (fun _ => ?_)) <;> (conv => whnf)) | ((with_reducible refine mt_not (fun _ => ?_) (fun _ => ?_)) <;> (conv => whnf)) | ((with_reducible refine mt_any (fun _ => ?_) (fun _ => ?_)) <;> (conv => whnf)))
              exact ⟨k + 1, d', rfl, rfl, ⟨by omega, by rw [hd']; exact hd.append hA a.bytes⟩, by omega⟩
            · ((with_reducible refine draw_pl ttOk zOk foOk mixedOk pl6x37 ?_ ?_); (focus kernel_rfl); (conv => whnf))
              repeat' (first | ((with_reducible apply rd_intro); (focus (intro K hK; (conv => whnf); first | exact hK | (intro z hz; rw [wrapI (by omega)] at hz; subst hz; exact hK))); (conv => whnf)) | ((with_reducible apply gd_and); (focus ((conv => whnf); first | rfl | (intro K hK; (conv => whnf); first | exact hK | (intro z hz; rw [wrapI (by omega)] at hz; subst hz; exact hK)))); (conv => whnf)) | ((with_reducible apply z_wrap); (focus omega); (conv => whnf)) | ((with_reducible refine mt_dec (fun _ => ?_) (fun _ => ?_)) <;> (conv => whnf)) | ((with_reducible refine mt_eq (fun _ => ?_) (fun _ => ?_)) <;> (conv => whnf)) | ((with_reducible refine mt_ne (fun _ => ?_) (fun _ => ?_)) <;> (conv => whnf)) | ((with_reducible refine mt_not (fun _ => ?_) (fun _ => ?_)) <;> (conv => whnf)) | ((with_reducible refine mt_any (fun _ => ?_) (fun _ => ?_)) <;> (conv => whnf)))
              refine (copyBytes_ok a.bytes (by omega)).mono ?_
              rintro _ _ ⟨rfl, rfl⟩
              conv => whnf
              repeat' (first | ((with_reducible apply rd_intro); (focus (intro K hK; (conv => whnf); first | exact hK | (intro z hz; rw [wrapI (by omega)] at hz; subst hz; exact hK))); (conv => whnf)) | ((with_reducible apply gd_and); (focus ((conv => whnf); first | rfl | (intro K hK; (conv => whnf); first | exact hK | (intro z hz; rw [wrapI (by omega)] at hz; subst hz; exact hK)))); (conv => whnf)) | ((with_reducible apply z_wrap); (focus omega); (conv => whnf)) | ((with_reducible refine mt_dec (fun _ => ?_) (fun _ => ?_)) <;> (conv => whnf)) | ((with_reducible refine mt_eq (fun _ => ?_) (fun _ => ?_)) <;> (conv => whnf)) | ((with_reducible refine mt_ne (fun _ => ?_) (fun _ => ?_)) <;> (conv => whnf)) | ((with_reducible refine mt_not (fun _ => ?_) (fun _ => ?_)) <;> (conv => whnf)) | ((with_reducible refine mt_any (fun _ => ?_) (fun _ => ?_)) <;> (conv => whnf)))
              refine (append_ok d hd.fine.ok a.a a.bytes (by omega)).mono ?_
              rintro _ _ ⟨d', rfl, rfl, hd'⟩
              conv => whnf
              repeat' (first | ((with_reducible apply rd_intro); (focus (intro K hK; (conv => whnf); first | exact hK | (intro z hz; rw [wrapI (by omega)] at hz; subst hz; exact hK))); (conv => whnf)) | ((with_reducible apply gd_and); (focus ((conv => whnf); first | rfl | (intro K hK; (conv => whnf); first | exact hK | (intro z hz; rw [wrapI (by omega)] at hz; subst hz; exact hK)))); (conv => whnf)) | ((with_reducible apply z_wrap); (focus omega); (conv => whnf)) | ((with_reducible refine mt_dec (fun _ => ?_) (fun _ => ?_)) <;> (conv => whnf)) | ((with_reducible refine mt_eq (fun _ => ?_) (fun _ => ?_)) <;> (conv => whnf)) | ((with_reducible refine mt_ne (fun _ => ?_) (fun _ => ?_)) <;> (conv => whnf)) | ((with_reducible refine mt_not (fun _ => ?_) (fun _ => ?_)) <;> (conv => whnf)) | ((with_reducible refine mt_any (fun _ => ?_) (fun _ => ?_)) <;> (conv => whnf)))
              exact ⟨k + 1, d', rfl, rfl, ⟨by omega, by rw [hd']; exact hd.append hA a.bytes⟩, by omega⟩
            · exact ⟨k + 1, d, rfl, rfl, ⟨by omega, hd⟩, by omega⟩
        · exact ⟨d, rfl, rfl, hd⟩
      · exact ⟨d, rfl, rfl, hd⟩
end Go.Proofs.Ytpedbknmkgcldaa

/- DiskSafe: for every script the law returns true, and its argument reads behind the call as it read before. No condition of ours. -/
namespace Go.Proofs.Ytpedbknmkgcldaa
open Go.Ab Go.RowKit Go.ChangeShapes Go.WideShapes Go.ChangeAt
theorem own : ownKnob Try.prog.godebug = none := by kernel_rfl
theorem laidOut : laidOutB Try.prog = true := by kernel_rfl
set_option maxRecDepth 100000 in
theorem diskSafe_lifted (os : Os) (started : os.Started) (H : Type) (enc : TypeId × Value → H) :
    ReturnsInHanded {} Try.checked os 6 .any (Rows.diskSafeSpec.pre6 enc Try.prog Try.f6 Rows.diskSafeRow.domain false) (Rows.diskSafeSpec.post enc Try.prog Try.f6 false true false false) := by
  refine returnsInHanded_of_change_sized (C := Try.checked) own started (by kernel_rfl) Try.func6
    (ChangeSpec.witness6 (enc := enc) (C := Try.checked) false ⟨#[], #[.agg #[.slice none 0 0, .slice none 0 0]], []⟩ 8 (by kernel_rfl) (by kernel_rfl) (by kernel_rfl) (by kernel_rfl)) ?_
  intro W base args ds gs before hval hW _ hsz _
  exact law_contract ttOk (f := Try.f6) (tb := 4) (t := 25) rfl rfl Try.underlying4 rfl (fun _ _ => rfl) laidOut (by kernel_rfl) (of_decide_eq_true (by kernel_rfl)) 6 (by kernel_rfl) argS
    (fun W base v ds h1 h2 => argS_ok Try.underlying25 h1 h2)
    (fun ds hd => by
      obtain ⟨p, hp, hok⟩ := script_of hd
      rw [hp]
      exact diskSafe_ok p hok) hval hW hsz
theorem diskSafe_holds : Rows.DiskSafeSaid :=
  OpenClaim.holds_of_wide 6 Try.f6 rfl rfl rfl rfl rfl rfl rfl ⟨rfl, rfl, rfl, rfl, rfl⟩ rfl rfl rfl rfl rfl (by kernel_rfl) Try.func6 (by kernel_rfl)
    (of_decide_eq_true (by kernel_rfl)) (by unfold Func.isWrapper; first | (rw [if_pos (by decide +kernel)]; kernel_rfl) | (rw [if_neg (by decide +kernel)]; exact ⟨rfl, rfl⟩))
    (fun os started H enc _ => diskSafe_lifted os started H enc)
#print axioms diskSafe_holds
end Go.Proofs.Ytpedbknmkgcldaa
