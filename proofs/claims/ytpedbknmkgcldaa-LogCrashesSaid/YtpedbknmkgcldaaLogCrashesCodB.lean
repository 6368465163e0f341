/- Part of the proof of LogCrashes: the contracts of the functions. -/
import Derived.Test.YtpedbknmkgcldaaLogCrashesCodA
import Derived.Shelf.SlIter.Nil
import Derived.Shelf.SortM.Plain
import Derived.Shelf.SortM.SortNone
import Derived.Ground.GgzProg
import Derived.Ground.SlgmProg
import Derived.Test.YtpedbknmkgcldaaProg

set_option linter.unusedVariables false
set_option linter.unusedSimpArgs false
namespace Go.Proofs.Ytpedbknmkgcldaa
open Go.Ab Go.RowKit Go.MapKept
attribute [local irreducible] ACalls AW ADraw Into
set_option maxRecDepth 100000
/-- the number of four bytes -/
def numL (a b c d : UInt8) : Int := ior .u32 (ior .u32 (ior .u32 (ishl .u32 a.toNat 24) (ishl .u32 b.toNat 16)) (ishl .u32 c.toNat 8)) d.toNat
theorem ior_add (a i b : Nat) (hb : b < 2 ^ i) (h : a * 2 ^ i + b < 4294967296) : ior .u32 ((a * 2 ^ i : Nat) : Int) (b : Int) = ((a * 2 ^ i + b : Nat) : Int) := by
  unfold ior
  have e1 : BitVec.ofInt IntKind.u32.bits ((a * 2 ^ i : Nat) : Int) = BitVec.ofNat 32 (a * 2 ^ i) := BitVec.ofInt_natCast ..
  have e2 : BitVec.ofInt IntKind.u32.bits (b : Int) = BitVec.ofNat 32 b := BitVec.ofInt_natCast ..
  have e3 : (BitVec.ofNat 32 (a * 2 ^ i) ||| BitVec.ofNat 32 b).toNat = a * 2 ^ i + b := by
    rw [BitVec.toNat_or, BitVec.toNat_ofNat, BitVec.toNat_ofNat, Nat.mod_eq_of_lt (show a * 2 ^ i < 2 ^ 32 by omega), Nat.mod_eq_of_lt (show b < 2 ^ 32 by omega)]
    have := Nat.shiftLeft_add_eq_or_of_lt hb a
    rw [Nat.shiftLeft_eq] at this
    exact this.symm
  rw [e1, e2]
  show IntKind.u32.wrap ((BitVec.ofNat 32 (a * 2 ^ i) ||| BitVec.ofNat 32 b).toNat : Int) = _
  rw [e3, wrap_u32 (by omega)]
theorem ishl_mul (a i : Nat) (hi : i ≤ 32) (h : a * 2 ^ i < 4294967296) : ishl .u32 (a : Int) (i : Int) = ((a * 2 ^ i : Nat) : Int) := by
  unfold ishl
  rw [show min (Int.toNat (i : Int)) IntKind.u32.bits = i by simp [IntKind.bits]; omega]
  have e : (a : Int) * 2 ^ i = ((a * 2 ^ i : Nat) : Int) := by simp
  rw [e, wrap_u32 (by omega)]
theorem numL_eq (a b c d : UInt8) : numL a b c d = ((a.toNat * 16777216 + b.toNat * 65536 + c.toNat * 256 + d.toNat : Nat) : Int) := by
  have ha := a.toNat_lt
  have hb := b.toNat_lt
  have hc := c.toNat_lt
  have hd := d.toNat_lt
  unfold numL
  have s1 : ishl .u32 (a.toNat : Int) 24 = ((a.toNat * 2 ^ 24 : Nat) : Int) := ishl_mul a.toNat 24 (by decide) (by omega)
  have s2 : ishl .u32 (b.toNat : Int) 16 = ((b.toNat * 2 ^ 16 : Nat) : Int) := ishl_mul b.toNat 16 (by decide) (by omega)
  have s3 : ishl .u32 (c.toNat : Int) 8 = ((c.toNat * 2 ^ 8 : Nat) : Int) := ishl_mul c.toNat 8 (by decide) (by omega)
  rw [s1, s2, s3, ior_add a.toNat 24 (b.toNat * 2 ^ 16) (by omega) (by omega)]
  rw [show a.toNat * 2 ^ 24 + b.toNat * 2 ^ 16 = (a.toNat * 256 + b.toNat) * 2 ^ 16 by omega, ior_add _ 16 (c.toNat * 2 ^ 8) (by omega) (by omega)]
  rw [show (a.toNat * 256 + b.toNat) * 2 ^ 16 + c.toNat * 2 ^ 8 = ((a.toNat * 256 + b.toNat) * 256 + c.toNat) * 2 ^ 8 by omega, ior_add _ 8 d.toNat (by omega) (by omega)]
theorem num_four (n : Int) (h : 0 ≤ n ∧ n < 4294967296) : numL (byteAt n 24) (byteAt n 16) (byteAt n 8) (byteAt n 0) = n := by
  rw [numL_eq]
  have h1 := byteAt_eq n 24
  have h2 := byteAt_eq n 16
  have h3 := byteAt_eq n 8
  have h4 := byteAt_eq n 0
  simp only [Int.reducePow, Nat.reducePow] at h1 h2 h3 h4
  omega
theorem number_ok (xs : List UInt8) (a b c d : UInt8) (ha : xs[0]? = some a) (hb : xs[1]? = some b) (hc : xs[2]? = some c) (hd : xs[3]? = some d) : ACalls Try.prog 123 [.d (.sl 1 (u8s xs))] [] (fun av L => av = .d (.int .u32 (numL a b c d)) ∧ L = []) := by
  have wr : ∀ x : UInt8, IntKind.u32.wrap (x.toNat : Int) = x.toNat := fun x => wrap_u32 (by have := x.toNat_lt; omega)
  refine acalls_go ttOk zOk foOk Try.func123 rfl Try.ntmps123 rfl false rfl ?_
  conv => whnf
  refine draw_pl ttOk zOk foOk mixedOk pl123x1 (by kernel_rfl) ?_
  conv => whnf
  repeat' (first | ((with_reducible apply rd_intro); (focus (intro K hK; (conv => whnf); first | exact hK | (intro z hz; rw [wrapI (by omega)] at hz; subst hz; exact hK))); (conv => whnf)) | ((with_reducible apply gd_and); (focus ((conv => whnf); first | rfl | (intro K hK; (conv => whnf); first | exact hK | (intro z hz; rw [wrapI (by omega)] at hz; subst hz; exact hK)))); (conv => whnf)) | ((with_reducible apply z_wrap); (focus omega); (conv => whnf)) | ((with_reducible refine mt_dec (fun _ => ?_) (fun _ => ?_)) <;> (conv => whnf)) | ((with_reducible refine mt_eq (fun _ => ?_) (fun _ => ?_)) <;> (conv => whnf)) | ((with_reducible refine mt_ne (fun _ => ?_) (fun _ => ?_)) <;> (conv => whnf)) | ((with_reducible refine mt_not (fun _ => ?_) (fun _ => ?_)) <;> (conv => whnf)) | ((with_reducible refine mt_any (fun _ => ?_) (fun _ => ?_)) <;> (conv => whnf)))
  ((with_reducible apply rd_intro); (focus (intro K hK; (conv => whnf); exact ix_u8 ha (by first | rfl | omega) hK)); (conv => whnf))
  repeat' (first | ((with_reducible apply rd_intro); (focus (intro K hK; (conv => whnf); first | exact hK | (intro z hz; rw [wrapI (by omega)] at hz; subst hz; exact hK))); (conv => whnf)) | ((with_reducible apply gd_and); (focus ((conv => whnf); first | rfl | (intro K hK; (conv => whnf); first | exact hK | (intro z hz; rw [wrapI (by omega)] at hz; subst hz; exact hK)))); (conv => whnf)) | ((with_reducible apply z_wrap); (focus omega); (conv => whnf)) | ((with_reducible refine mt_dec (fun _ => ?_) (fun _ => ?_)) <;> (conv => whnf)) | ((with_reducible refine mt_eq (fun _ => ?_) (fun _ => ?_)) <;> (conv => whnf)) | ((with_reducible refine mt_ne (fun _ => ?_) (fun _ => ?_)) <;> (conv => whnf)) | ((with_reducible refine mt_not (fun _ => ?_) (fun _ => ?_)) <;> (conv => whnf)) | ((with_reducible refine mt_any (fun _ => ?_) (fun _ => ?_)) <;> (conv => whnf)))
  ((with_reducible apply rd_intro); (focus (intro K hK; (conv => whnf); intro z hz; rw [wr a] at hz; subst hz; exact hK)); (conv => whnf))
  ((with_reducible apply rd_intro); (focus (intro K hK; (conv => whnf); refine ⟨by decide, ?_⟩; intro z hz; subst hz; exact hK)); (conv => whnf))
  repeat' (first | ((with_reducible apply rd_intro); (focus (intro K hK; (conv => whnf); first | exact hK | (intro z hz; rw [wrapI (by omega)] at hz; subst hz; exact hK))); (conv => whnf)) | ((with_reducible apply gd_and); (focus ((conv => whnf); first | rfl | (intro K hK; (conv => whnf); first | exact hK | (intro z hz; rw [wrapI (by omega)] at hz; subst hz; exact hK)))); (conv => whnf)) | ((with_reducible apply z_wrap); (focus omega); (conv => whnf)) | ((with_reducible refine mt_dec (fun _ => ?_) (fun _ => ?_)) <;> (conv => whnf)) | ((with_reducible refine mt_eq (fun _ => ?_) (fun _ => ?_)) <;> (conv => whnf)) | ((with_reducible refine mt_ne (fun _ => ?_) (fun _ => ?_)) <;> (conv => whnf)) | ((with_reducible refine mt_not (fun _ => ?_) (fun _ => ?_)) <;> (conv => whnf)) | ((with_reducible refine mt_any (fun _ => ?_) (fun _ => ?_)) <;> (conv => whnf)))
  ((with_reducible apply rd_intro); (focus (intro K hK; (conv => whnf); exact ix_u8 hb (by first | rfl | omega) hK)); (conv => whnf))
  repeat' (first | ((with_reducible apply rd_intro); (focus (intro K hK; (conv => whnf); first | exact hK | (intro z hz; rw [wrapI (by omega)] at hz; subst hz; exact hK))); (conv => whnf)) | ((with_reducible apply gd_and); (focus ((conv => whnf); first | rfl | (intro K hK; (conv => whnf); first | exact hK | (intro z hz; rw [wrapI (by omega)] at hz; subst hz; exact hK)))); (conv => whnf)) | ((with_reducible apply z_wrap); (focus omega); (conv => whnf)) | ((with_reducible refine mt_dec (fun _ => ?_) (fun _ => ?_)) <;> (conv => whnf)) | ((with_reducible refine mt_eq (fun _ => ?_) (fun _ => ?_)) <;> (conv => whnf)) | ((with_reducible refine mt_ne (fun _ => ?_) (fun _ => ?_)) <;> (conv => whnf)) | ((with_reducible refine mt_not (fun _ => ?_) (fun _ => ?_)) <;> (conv => whnf)) | ((with_reducible refine mt_any (fun _ => ?_) (fun _ => ?_)) <;> (conv => whnf)))
  ((with_reducible apply rd_intro); (focus (intro K hK; (conv => whnf); intro z hz; rw [wr b] at hz; subst hz; exact hK)); (conv => whnf))
  ((with_reducible apply rd_intro); (focus (intro K hK; (conv => whnf); refine ⟨by decide, ?_⟩; intro z hz; subst hz; exact hK)); (conv => whnf))
  ((with_reducible apply rd_intro); (focus (intro K hK; (conv => whnf); intro z hz; subst hz; exact hK)); (conv => whnf))
  repeat' (first | ((with_reducible apply rd_intro); (focus (intro K hK; (conv => whnf); first | exact hK | (intro z hz; rw [wrapI (by omega)] at hz; subst hz; exact hK))); (conv => whnf)) | ((with_reducible apply gd_and); (focus ((conv => whnf); first | rfl | (intro K hK; (conv => whnf); first | exact hK | (intro z hz; rw [wrapI (by omega)] at hz; subst hz; exact hK)))); (conv => whnf)) | ((with_reducible apply z_wrap); (focus omega); (conv => whnf)) | ((with_reducible refine mt_dec (fun _ => ?_) (fun _ => ?_)) <;> (conv => whnf)) | ((with_reducible refine mt_eq (fun _ => ?_) (fun _ => ?_)) <;> (conv => whnf)) | ((with_reducible refine mt_ne (fun _ => ?_) (fun _ => ?_)) <;> (conv => whnf)) | ((with_reducible refine mt_not (fun _ => ?_) (fun _ => ?_)) <;> (conv => whnf)) | ((with_reducible refine mt_any (fun _ => ?_) (fun _ => ?_)) <;> (conv => whnf)))
  ((with_reducible apply rd_intro); (focus (intro K hK; (conv => whnf); exact ix_u8 hc (by first | rfl | omega) hK)); (conv => whnf))
  repeat' (first | ((with_reducible apply rd_intro); (focus (intro K hK; (conv => whnf); first | exact hK | (intro z hz; rw [wrapI (by omega)] at hz; subst hz; exact hK))); (conv => whnf)) | ((with_reducible apply gd_and); (focus ((conv => whnf); first | rfl | (intro K hK; (conv => whnf); first | exact hK | (intro z hz; rw [wrapI (by omega)] at hz; subst hz; exact hK)))); (conv => whnf)) | ((with_reducible apply z_wrap); (focus omega); (conv => whnf)) | ((with_reducible refine mt_dec (fun _ => ?_) (fun _ => ?_)) <;> (conv => whnf)) | ((with_reducible refine mt_eq (fun _ => ?_) (fun _ => ?_)) <;> (conv => whnf)) | ((with_reducible refine mt_ne (fun _ => ?_) (fun _ => ?_)) <;> (conv => whnf)) | ((with_reducible refine mt_not (fun _ => ?_) (fun _ => ?_)) <;> (conv => whnf)) | ((with_reducible refine mt_any (fun _ => ?_) (fun _ => ?_)) <;> (conv => whnf)))
  ((with_reducible apply rd_intro); (focus (intro K hK; (conv => whnf); intro z hz; rw [wr c] at hz; subst hz; exact hK)); (conv => whnf))
  ((with_reducible apply rd_intro); (focus (intro K hK; (conv => whnf); refine ⟨by decide, ?_⟩; intro z hz; subst hz; exact hK)); (conv => whnf))
  ((with_reducible apply rd_intro); (focus (intro K hK; (conv => whnf); intro z hz; subst hz; exact hK)); (conv => whnf))
  repeat' (first | ((with_reducible apply rd_intro); (focus (intro K hK; (conv => whnf); first | exact hK | (intro z hz; rw [wrapI (by omega)] at hz; subst hz; exact hK))); (conv => whnf)) | ((with_reducible apply gd_and); (focus ((conv => whnf); first | rfl | (intro K hK; (conv => whnf); first | exact hK | (intro z hz; rw [wrapI (by omega)] at hz; subst hz; exact hK)))); (conv => whnf)) | ((with_reducible apply z_wrap); (focus omega); (conv => whnf)) | ((with_reducible refine mt_dec (fun _ => ?_) (fun _ => ?_)) <;> (conv => whnf)) | ((with_reducible refine mt_eq (fun _ => ?_) (fun _ => ?_)) <;> (conv => whnf)) | ((with_reducible refine mt_ne (fun _ => ?_) (fun _ => ?_)) <;> (conv => whnf)) | ((with_reducible refine mt_not (fun _ => ?_) (fun _ => ?_)) <;> (conv => whnf)) | ((with_reducible refine mt_any (fun _ => ?_) (fun _ => ?_)) <;> (conv => whnf)))
  ((with_reducible apply rd_intro); (focus (intro K hK; (conv => whnf); exact ix_u8 hd (by first | rfl | omega) hK)); (conv => whnf))
  repeat' (first | ((with_reducible apply rd_intro); (focus (intro K hK; (conv => whnf); first | exact hK | (intro z hz; rw [wrapI (by omega)] at hz; subst hz; exact hK))); (conv => whnf)) | ((with_reducible apply gd_and); (focus ((conv => whnf); first | rfl | (intro K hK; (conv => whnf); first | exact hK | (intro z hz; rw [wrapI (by omega)] at hz; subst hz; exact hK)))); (conv => whnf)) | ((with_reducible apply z_wrap); (focus omega); (conv => whnf)) | ((with_reducible refine mt_dec (fun _ => ?_) (fun _ => ?_)) <;> (conv => whnf)) | ((with_reducible refine mt_eq (fun _ => ?_) (fun _ => ?_)) <;> (conv => whnf)) | ((with_reducible refine mt_ne (fun _ => ?_) (fun _ => ?_)) <;> (conv => whnf)) | ((with_reducible refine mt_not (fun _ => ?_) (fun _ => ?_)) <;> (conv => whnf)) | ((with_reducible refine mt_any (fun _ => ?_) (fun _ => ?_)) <;> (conv => whnf)))
  ((with_reducible apply rd_intro); (focus (intro K hK; (conv => whnf); intro z hz; rw [wr d] at hz; subst hz; exact hK)); (conv => whnf))
  ((with_reducible apply rd_intro); (focus (intro K hK; (conv => whnf); intro z hz; subst hz; exact hK)); (conv => whnf))
  repeat' (first | ((with_reducible apply rd_intro); (focus (intro K hK; (conv => whnf); first | exact hK | (intro z hz; rw [wrapI (by omega)] at hz; subst hz; exact hK))); (conv => whnf)) | ((with_reducible apply gd_and); (focus ((conv => whnf); first | rfl | (intro K hK; (conv => whnf); first | exact hK | (intro z hz; rw [wrapI (by omega)] at hz; subst hz; exact hK)))); (conv => whnf)) | ((with_reducible apply z_wrap); (focus omega); (conv => whnf)) | ((with_reducible refine mt_dec (fun _ => ?_) (fun _ => ?_)) <;> (conv => whnf)) | ((with_reducible refine mt_eq (fun _ => ?_) (fun _ => ?_)) <;> (conv => whnf)) | ((with_reducible refine mt_ne (fun _ => ?_) (fun _ => ?_)) <;> (conv => whnf)) | ((with_reducible refine mt_not (fun _ => ?_) (fun _ => ?_)) <;> (conv => whnf)) | ((with_reducible refine mt_any (fun _ => ?_) (fun _ => ?_)) <;> (conv => whnf)))
  exact ⟨rfl, rfl⟩
end Go.Proofs.Ytpedbknmkgcldaa

namespace Go.Proofs.Ytpedbknmkgcldaa
open Go.Ab Go.RowKit
/-- the program's log: its disk, its records (a row of its own), what is counted, whether there is a file, whether it is dead -/
structure Lg where
  d : Dk
  recs : List ByteArray
  sh : Bool
  size : Int
  file : Bool
  dead : Bool
def Lg.tail (l : Lg) : List AV := [.d (.int .i64 l.size), .d (.bool l.file), .d (.bool l.dead)]
def Dk.at (d : Dk) (i : Nat) : AB := .cells [.d (.int .i64 d.calls), .d (.bool d.off), .d (.int .i64 d.upto), .map i]
def Lg.row (l : Lg) : AB := .row 9 1 (strs l.recs) l.sh
def Lg.L (l : Lg) : List AB := [.cells (.ptr 1 0 :: .arr 2 :: l.tail), .cells [.d (.int .i64 l.d.calls), .d (.bool l.d.off), .d (.int .i64 l.d.upto), .map 3], .row 9 1 (strs l.recs) l.sh, .map (l.d.fs.map Fl.ent)]
/-- .. with another row -/
def Lg.L1 (l : Lg) : List AB := [.cells (.ptr 1 0 :: .arr 4 :: l.tail), .cells [.d (.int .i64 l.d.calls), .d (.bool l.d.off), .d (.int .i64 l.d.upto), .map 3], .dead, .map (l.d.fs.map Fl.ent), .row 9 1 (strs l.recs) l.sh]
/-- the log, as data -/
structure LD where
  d : DD
  recs : List ByteArray
  size : Int
  file : Bool
  dead : Bool
def Lg.dat (l : Lg) : LD := ⟨l.d.dat, l.recs, l.size, l.file, l.dead⟩
def logN : ByteArray := ⟨#[108, 111, 103]⟩
def freshN : ByteArray := ⟨#[108, 111, 103, 45, 110, 101, 119]⟩
def LD.did (l : LD) (e : Int) : LD := { l with dead := l.dead || decide (e ≠ 0) }
def LD.append (l : LD) (s : ByteArray) : Int × LD :=
  if l.dead = true then (9, l) else
  if s.size > 4096 then (1, l) else
  if (s.size : Int) + 16 > 524288 - l.size then (8, l) else
  if (l.d.append logN (frameL s)).1 ≠ 0 then ((l.d.append logN (frameL s)).1, { l with d := (l.d.append logN (frameL s)).2, dead := true }) else
  (0, { l with d := (l.d.append logN (frameL s)).2, recs := l.recs ++ [s], size := l.size + s.size + 16, file := true })
section
variable {l : LD} {s : ByteArray}
theorem lapp_dead (h : l.dead = true) : l.append s = (9, l) := by simp [LD.append, h]
theorem lapp_long (h : l.dead = false) (h1 : s.size > 4096) : l.append s = (1, l) := by simp [LD.append, h, h1]
theorem lapp_full (h : l.dead = false) (h1 : ¬ s.size > 4096) (h2 : (s.size : Int) + 16 > 524288 - l.size) : l.append s = (8, l) := by simp only [LD.append, h, h1, h2]; simp
theorem lapp_err (h : l.dead = false) (h1 : ¬ s.size > 4096) (h2 : ¬ (s.size : Int) + 16 > 524288 - l.size) (h3 : (l.d.append logN (frameL s)).1 ≠ 0) : l.append s = ((l.d.append logN (frameL s)).1, { l with d := (l.d.append logN (frameL s)).2, dead := true }) := by simp only [LD.append, h, h1, h2]; simp [h3]
theorem lapp_ok (h : l.dead = false) (h1 : ¬ s.size > 4096) (h2 : ¬ (s.size : Int) + 16 > 524288 - l.size) (h3 : (l.d.append logN (frameL s)).1 = 0) : l.append s = (0, { l with d := (l.d.append logN (frameL s)).2, recs := l.recs ++ [s], size := l.size + s.size + 16, file := true }) := by simp only [LD.append, h, h1, h2]; simp [h3]
end
theorem strs_app (a : List ByteArray) (s : ByteArray) : strs a ++ [[DV.str s]] = strs (a ++ [s]) := by simp [strs]
theorem strs_length (a : List ByteArray) : (strs a).length = a.length := by simp [strs]
end Go.Proofs.Ytpedbknmkgcldaa

namespace Go.Proofs.Ytpedbknmkgcldaa
open Go.Ab Go.RowKit Go.MapKept
attribute [local irreducible] ACalls AW ADraw Into
set_option maxRecDepth 100000
theorem did_ok (l : Lg) (e : Int) : ACalls Try.prog 88 [.ptr 0 0, .d (.int .i64 e)] l.L (fun av L => av = .d (.int .i64 e) ∧ L = Lg.L { l with dead := l.dead || decide (e ≠ 0) }) := by
  refine acalls_go ttOk zOk foOk Try.func88 rfl Try.ntmps88 rfl false rfl ?_
  conv => whnf
  repeat' (first | ((with_reducible apply z_wrap); (focus omega); (conv => whnf)) | ((with_reducible refine mt_dec (fun _ => ?_) (fun _ => ?_)) <;> (conv => whnf)) | ((with_reducible refine mt_eq (fun _ => ?_) (fun _ => ?_)) <;> (conv => whnf)) | ((with_reducible refine mt_ne (fun _ => ?_) (fun _ => ?_)) <;> (conv => whnf)) | ((with_reducible refine mt_not (fun _ => ?_) (fun _ => ?_)) <;> (conv => whnf)) | ((with_reducible refine mt_any (fun _ => ?_) (fun _ => ?_)) <;> (conv => whnf)))
  · rename_i h
    exact ⟨rfl, by simp [Lg.L, Lg.tail, h, avOf1]⟩
  · rename_i h
    exact ⟨rfl, by simp [Lg.L, Lg.tail, h]; by_cases h0 : e = 0 <;> simp [h0]⟩
end Go.Proofs.Ytpedbknmkgcldaa

namespace Go.Proofs.Ytpedbknmkgcldaa
open Go.Ab Go.RowKit Go.MapKept
attribute [local irreducible] ACalls AW ADraw Into
set_option maxRecDepth 100000
theorem remove_ok (d : Dk) (n : ByteArray) : ACalls Try.prog 25 [.ptr 0 0, .d (.str n)] d.L (fun av L => ∃ d' : Dk, av = .d (.int .i64 (d.dat.remove n).1) ∧ L = d'.L ∧ d'.dat = (d.dat.remove n).2) := by
  refine acalls_go ttOk zOk foOk Try.func25 rfl Try.ntmps25 rfl false rfl ?_
  conv => whnf
  refine (call_by d true n true).mono ?_
  rintro _ _ (⟨rfl, rfl, h | h⟩ | ⟨rfl, rfl, _, hg, ho⟩ | ⟨rfl, rfl, _, hg, ho, hf⟩ | ⟨i, f, rfl, rfl, _, hg, ho, hf⟩)
  · cases h
  · conv => whnf
    repeat' (first | ((with_reducible apply z_wrap); (focus omega); (conv => whnf)) | ((with_reducible refine mt_dec (fun _ => ?_) (fun _ => ?_)) <;> (conv => whnf)) | ((with_reducible refine mt_eq (fun _ => ?_) (fun _ => ?_)) <;> (conv => whnf)) | ((with_reducible refine mt_ne (fun _ => ?_) (fun _ => ?_)) <;> (conv => whnf)) | ((with_reducible refine mt_not (fun _ => ?_) (fun _ => ?_)) <;> (conv => whnf)) | ((with_reducible refine mt_any (fun _ => ?_) (fun _ => ?_)) <;> (conv => whnf)))
    rw [rem_bad h]
    exact ⟨d, rfl, rfl, rfl⟩
  · conv => whnf
    repeat' (first | ((with_reducible apply z_wrap); (focus omega); (conv => whnf)) | ((with_reducible refine mt_dec (fun _ => ?_) (fun _ => ?_)) <;> (conv => whnf)) | ((with_reducible refine mt_eq (fun _ => ?_) (fun _ => ?_)) <;> (conv => whnf)) | ((with_reducible refine mt_ne (fun _ => ?_) (fun _ => ?_)) <;> (conv => whnf)) | ((with_reducible refine mt_not (fun _ => ?_) (fun _ => ?_)) <;> (conv => whnf)) | ((with_reducible refine mt_any (fun _ => ?_) (fun _ => ?_)) <;> (conv => whnf)))
    rw [rem_off hg ho]
    exact ⟨d.spend, rfl, rfl, rfl⟩
  · conv => whnf
    repeat' (first | ((with_reducible apply z_wrap); (focus omega); (conv => whnf)) | ((with_reducible refine mt_dec (fun _ => ?_) (fun _ => ?_)) <;> (conv => whnf)) | ((with_reducible refine mt_eq (fun _ => ?_) (fun _ => ?_)) <;> (conv => whnf)) | ((with_reducible refine mt_ne (fun _ => ?_) (fun _ => ?_)) <;> (conv => whnf)) | ((with_reducible refine mt_not (fun _ => ?_) (fun _ => ?_)) <;> (conv => whnf)) | ((with_reducible refine mt_any (fun _ => ?_) (fun _ => ?_)) <;> (conv => whnf)))
    rw [rem_none hg ho (getN_none hf)]
    exact ⟨d.spend, rfl, rfl, rfl⟩
  · conv => whnf
    repeat' (first | ((with_reducible apply z_wrap); (focus omega); (conv => whnf)) | ((with_reducible refine mt_dec (fun _ => ?_) (fun _ => ?_)) <;> (conv => whnf)) | ((with_reducible refine mt_eq (fun _ => ?_) (fun _ => ?_)) <;> (conv => whnf)) | ((with_reducible refine mt_ne (fun _ => ?_) (fun _ => ?_)) <;> (conv => whnf)) | ((with_reducible refine mt_not (fun _ => ?_) (fun _ => ?_)) <;> (conv => whnf)) | ((with_reducible refine mt_any (fun _ => ?_) (fun _ => ?_)) <;> (conv => whnf)))
    rw [rem_some hg ho (getN_some hf)]
    refine ⟨_, mfind_ent n d.fs 0, ?_⟩
    rw [hf]
    conv => whnf
    exact ⟨{ d.spend with fs := d.fs.eraseIdx i }, rfl, by rw [erase_ent]; rfl, by simp only [Dk.dat, Dk.spend, DD.spend]; rw [getN_del hf]; rfl⟩
end Go.Proofs.Ytpedbknmkgcldaa

namespace Go.Proofs.Ytpedbknmkgcldaa
open Go.Ab Go.RowKit
attribute [local irreducible] ACalls AW ADraw Into
theorem clone_ok (xs : List UInt8) (hm : xs.length ≤ 140737488355328) : ACalls Try.prog 67 [.d (.sl 1 (u8s xs))] [] (fun av L => av = .d (.sl 1 (u8s xs)) ∧ L = []) := by
  refine acalls_go ttOk zOk foOk Try.func67 rfl Try.ntmps67 rfl false rfl ?_
  conv => whnf
  intro b hb
  conv => whnf
  refine sp_any (fun h => ?_) (fun h => ?_)
  · conv => whnf
    exact ⟨by rw [hb h], rfl⟩
  · conv => whnf
    refine ⟨by simp [u8s]; omega, ?_⟩
    conv => whnf
    exact ⟨rfl, rfl⟩
theorem clone_row (xs : List UInt8) (hm : xs.length ≤ 140737488355328) : ACalls Try.prog 67 [.d (.sl 1 (u8s xs))] [] (fun av L => av = .arr 0 ∧ L = [.row 5 1 (u8s xs) false]) := by
  refine acalls_go ttOk zOk foOk Try.func67 rfl Try.ntmps67 rfl true rfl ?_
  conv => whnf
  intro b hb
  conv => whnf
  refine sp_any (fun h => ?_) (fun h => ?_)
  · conv => whnf
    exact ⟨rfl, by rw [hb h]⟩
  · conv => whnf
    refine ⟨by simp [u8s]; omega, ?_⟩
    conv => whnf
    exact ⟨rfl, rfl⟩
end Go.Proofs.Ytpedbknmkgcldaa

namespace Go.Proofs.Ytpedbknmkgcldaa
open Go.Ab Go.RowKit Go.MapKept
attribute [local irreducible] ACalls AW ADraw Into
set_option maxRecDepth 100000
theorem read_ok (d : Dk) (hd : d.dat.ok) (n : ByteArray) : ACalls Try.prog 27 [.ptr 0 0, .d (.str n)] d.L (fun av L => av = .tup [.d (.sl 1 (u8s (d.dat.read n).1)), .d (.int .i64 (d.dat.read n).2)] ∧ L = d.L) := by
  refine acalls_go ttOk zOk foOk Try.func27 rfl Try.ntmps27 rfl false rfl ?_
  conv => whnf
  refine ⟨_, mfind_ent n d.fs 0, ?_⟩
  cases hf : findF n d.fs 0 with
  | none =>
    conv => whnf
    ((with_reducible refine (good_ok n).mono ?_); rintro _ _ ⟨rfl, rfl⟩; (conv => whnf))
    repeat' (first | ((with_reducible apply z_wrap); (focus omega); (conv => whnf)) | ((with_reducible refine mt_dec (fun _ => ?_) (fun _ => ?_)) <;> (conv => whnf)) | ((with_reducible refine mt_eq (fun _ => ?_) (fun _ => ?_)) <;> (conv => whnf)) | ((with_reducible refine mt_ne (fun _ => ?_) (fun _ => ?_)) <;> (conv => whnf)) | ((with_reducible refine mt_not (fun _ => ?_) (fun _ => ?_)) <;> (conv => whnf)) | ((with_reducible refine mt_any (fun _ => ?_) (fun _ => ?_)) <;> (conv => whnf)))
    · rename_i hg; rw [read_bad hg]; exact ⟨rfl, rfl⟩
    · rename_i hg ho; rw [read_off hg ho]; exact ⟨rfl, rfl⟩
    · rename_i hg ho; rw [read_none hg ho (getN_none hf)]; exact ⟨rfl, rfl⟩
  | some p =>
    obtain ⟨i, f⟩ := p
    conv => whnf
    ((with_reducible refine (good_ok n).mono ?_); rintro _ _ ⟨rfl, rfl⟩; (conv => whnf))
    repeat' (first | ((with_reducible apply z_wrap); (focus omega); (conv => whnf)) | ((with_reducible refine mt_dec (fun _ => ?_) (fun _ => ?_)) <;> (conv => whnf)) | ((with_reducible refine mt_eq (fun _ => ?_) (fun _ => ?_)) <;> (conv => whnf)) | ((with_reducible refine mt_ne (fun _ => ?_) (fun _ => ?_)) <;> (conv => whnf)) | ((with_reducible refine mt_not (fun _ => ?_) (fun _ => ?_)) <;> (conv => whnf)) | ((with_reducible refine mt_any (fun _ => ?_) (fun _ => ?_)) <;> (conv => whnf)))
    · rename_i hg; rw [read_bad hg]; exact ⟨rfl, rfl⟩
    · rename_i hg ho; rw [read_off hg ho]; exact ⟨rfl, rfl⟩
    · rename_i hg ho
      rw [read_some hg ho (getN_some hf)]
      refine ⟨f.cs, box_at (findF_mem hf), ?_⟩
      have hs : f.seen.length ≤ 1048576 := (hd.len f.dat (mem_getN (getN_some hf))).1
      conv => whnf
      repeat' (first | ((with_reducible apply z_wrap); (focus omega); (conv => whnf)) | ((with_reducible refine mt_dec (fun _ => ?_) (fun _ => ?_)) <;> (conv => whnf)) | ((with_reducible refine mt_eq (fun _ => ?_) (fun _ => ?_)) <;> (conv => whnf)) | ((with_reducible refine mt_ne (fun _ => ?_) (fun _ => ?_)) <;> (conv => whnf)) | ((with_reducible refine mt_not (fun _ => ?_) (fun _ => ?_)) <;> (conv => whnf)) | ((with_reducible refine mt_any (fun _ => ?_) (fun _ => ?_)) <;> (conv => whnf)))
      first
      | (refine (clone_ok f.seen (by omega)).mono ?_
         rintro _ _ ⟨rfl, rfl⟩
         conv => whnf
         exact ⟨rfl, rfl⟩)
      | (refine (clone_row f.seen (by omega)).mono ?_
         rintro _ _ ⟨rfl, rfl⟩
         conv => whnf
         exact ⟨rfl, rfl⟩)
theorem read_row (d : Dk) (hd : d.dat.ok) (n : ByteArray) : ACalls Try.prog 27 [.ptr 0 0, .d (.str n)] d.L (fun av L => av = .tup [.arr 2, .d (.int .i64 (d.dat.read n).2)] ∧ L = d.L ++ [.row 5 1 (u8s (d.dat.read n).1) false]) := by
  refine acalls_go ttOk zOk foOk Try.func27 rfl Try.ntmps27 rfl true rfl ?_
  conv => whnf
  refine ⟨_, mfind_ent n d.fs 0, ?_⟩
  cases hf : findF n d.fs 0 with
  | none =>
    conv => whnf
    ((with_reducible refine (good_ok n).mono ?_); rintro _ _ ⟨rfl, rfl⟩; (conv => whnf))
    repeat' (first | ((with_reducible apply z_wrap); (focus omega); (conv => whnf)) | ((with_reducible refine mt_dec (fun _ => ?_) (fun _ => ?_)) <;> (conv => whnf)) | ((with_reducible refine mt_eq (fun _ => ?_) (fun _ => ?_)) <;> (conv => whnf)) | ((with_reducible refine mt_ne (fun _ => ?_) (fun _ => ?_)) <;> (conv => whnf)) | ((with_reducible refine mt_not (fun _ => ?_) (fun _ => ?_)) <;> (conv => whnf)) | ((with_reducible refine mt_any (fun _ => ?_) (fun _ => ?_)) <;> (conv => whnf)))
    · rename_i hg; rw [read_bad hg]; exact ⟨rfl, rfl⟩
    · rename_i hg ho; rw [read_off hg ho]; exact ⟨rfl, rfl⟩
    · rename_i hg ho; rw [read_none hg ho (getN_none hf)]; exact ⟨rfl, rfl⟩
  | some p =>
    obtain ⟨i, f⟩ := p
    conv => whnf
    ((with_reducible refine (good_ok n).mono ?_); rintro _ _ ⟨rfl, rfl⟩; (conv => whnf))
    repeat' (first | ((with_reducible apply z_wrap); (focus omega); (conv => whnf)) | ((with_reducible refine mt_dec (fun _ => ?_) (fun _ => ?_)) <;> (conv => whnf)) | ((with_reducible refine mt_eq (fun _ => ?_) (fun _ => ?_)) <;> (conv => whnf)) | ((with_reducible refine mt_ne (fun _ => ?_) (fun _ => ?_)) <;> (conv => whnf)) | ((with_reducible refine mt_not (fun _ => ?_) (fun _ => ?_)) <;> (conv => whnf)) | ((with_reducible refine mt_any (fun _ => ?_) (fun _ => ?_)) <;> (conv => whnf)))
    · rename_i hg; rw [read_bad hg]; exact ⟨rfl, rfl⟩
    · rename_i hg ho; rw [read_off hg ho]; exact ⟨rfl, rfl⟩
    · rename_i hg ho
      rw [read_some hg ho (getN_some hf)]
      refine ⟨f.cs, box_at (findF_mem hf), ?_⟩
      have hs : f.seen.length ≤ 1048576 := (hd.len f.dat (mem_getN (getN_some hf))).1
      conv => whnf
      repeat' (first | ((with_reducible apply z_wrap); (focus omega); (conv => whnf)) | ((with_reducible refine mt_dec (fun _ => ?_) (fun _ => ?_)) <;> (conv => whnf)) | ((with_reducible refine mt_eq (fun _ => ?_) (fun _ => ?_)) <;> (conv => whnf)) | ((with_reducible refine mt_ne (fun _ => ?_) (fun _ => ?_)) <;> (conv => whnf)) | ((with_reducible refine mt_not (fun _ => ?_) (fun _ => ?_)) <;> (conv => whnf)) | ((with_reducible refine mt_any (fun _ => ?_) (fun _ => ?_)) <;> (conv => whnf)))
      first
      | (refine (clone_ok f.seen (by omega)).mono ?_
         rintro _ _ ⟨rfl, rfl⟩
         conv => whnf
         exact ⟨rfl, rfl⟩)
      | (refine (clone_row f.seen (by omega)).mono ?_
         rintro _ _ ⟨rfl, rfl⟩
         conv => whnf
         exact ⟨rfl, rfl⟩)
end Go.Proofs.Ytpedbknmkgcldaa

namespace Go.Proofs.Ytpedbknmkgcldaa
open Go.Ab Go.RowKit Go.MapKept
attribute [local irreducible] ACalls AW ADraw Into
set_option maxRecDepth 100000
def LD.sweep (l : LD) : Int × LD :=
  if (l.d.read freshN).2 = 0 then ((l.d.remove freshN).1, { l with d := (l.d.remove freshN).2 }) else
  if (l.d.read freshN).2 = 3 then (0, l) else ((l.d.read freshN).2, l)
set_option maxHeartbeats 4000000 in
theorem sweep_ok (l : Lg) (hd : l.d.dat.ok) : ACalls Try.prog 86 [.ptr 0 0] l.L (fun av L => ∃ l' : Lg, av = .d (.int .i64 (l.dat.sweep).1) ∧ L = l'.L ∧ l'.dat = (l.dat.sweep).2 ∧ l'.sh = l.sh) := by
  refine acalls_go ttOk zOk foOk Try.func86 rfl Try.ntmps86 rfl false rfl ?_
  conv => whnf
  repeat' (first | ((with_reducible apply z_wrap); (focus omega); (conv => whnf)) | ((with_reducible refine mt_dec (fun _ => ?_) (fun _ => ?_)) <;> (conv => whnf)) | ((with_reducible refine mt_eq (fun _ => ?_) (fun _ => ?_)) <;> (conv => whnf)) | ((with_reducible refine mt_ne (fun _ => ?_) (fun _ => ?_)) <;> (conv => whnf)) | ((with_reducible refine mt_not (fun _ => ?_) (fun _ => ?_)) <;> (conv => whnf)) | ((with_reducible refine mt_any (fun _ => ?_) (fun _ => ?_)) <;> (conv => whnf)))
  refine (read_ok l.d hd freshN).mono ?_
  rintro _ _ ⟨rfl, rfl⟩
  conv => whnf
  repeat' (first | ((with_reducible apply z_wrap); (focus omega); (conv => whnf)) | ((with_reducible refine mt_dec (fun _ => ?_) (fun _ => ?_)) <;> (conv => whnf)) | ((with_reducible refine mt_eq (fun _ => ?_) (fun _ => ?_)) <;> (conv => whnf)) | ((with_reducible refine mt_ne (fun _ => ?_) (fun _ => ?_)) <;> (conv => whnf)) | ((with_reducible refine mt_not (fun _ => ?_) (fun _ => ?_)) <;> (conv => whnf)) | ((with_reducible refine mt_any (fun _ => ?_) (fun _ => ?_)) <;> (conv => whnf)))
  · rename_i h
    have h' : (l.dat.d.read freshN).2 = 0 := h
    rw [show l.dat.sweep = ((l.dat.d.remove freshN).1, { l.dat with d := (l.dat.d.remove freshN).2 }) by simp only [LD.sweep, h', if_true]]
    refine (remove_ok l.d freshN).mono ?_
    rintro _ _ ⟨d', rfl, rfl, hd'⟩
    conv => whnf
    exact ⟨{ l with d := d' }, rfl, rfl, by simp only [Lg.dat, hd'], rfl⟩
  · rename_i h h3
    have h' : ¬ (l.dat.d.read freshN).2 = 0 := h
    have h3' : (l.dat.d.read freshN).2 = 3 := h3
    rw [show l.dat.sweep = (0, l.dat) by simp [LD.sweep, h3']]
    exact ⟨l, rfl, rfl, rfl, rfl⟩
  · rename_i h h3
    have h' : ¬ (l.dat.d.read freshN).2 = 0 := h
    have h3' : ¬ (l.dat.d.read freshN).2 = 3 := h3
    rw [show l.dat.sweep = ((l.dat.d.read freshN).2, l.dat) by simp only [LD.sweep, if_neg h', if_neg h3']]
    exact ⟨l, rfl, rfl, rfl, rfl⟩
end Go.Proofs.Ytpedbknmkgcldaa

namespace Go.Proofs.Ytpedbknmkgcldaa
open Go.Ab Go.RowKit Go.MapKept
attribute [local irreducible] ACalls AW ADraw Into
set_option maxRecDepth 100000
theorem cloneS_row (l : List ByteArray) (sh : Bool) (hl : l.length ≤ 100000000) : ACalls Try.prog 90 [.arr 0] [.row 9 1 (strs l) sh] (fun av L => av = .arr 1 ∧ L = [.row 9 1 (strs l) sh, .row 9 1 (strs l) false]) := by
  refine acalls_go ttOk zOk foOk Try.func90 rfl Try.ntmps90 rfl true rfl ?_
  conv => whnf
  intro b hb
  conv => whnf
  refine sp_any (fun h => ?_) (fun h => ?_)
  · conv => whnf
    exact ⟨rfl, by rw [hb h]⟩
  · conv => whnf
    refine ⟨by simp [strs]; omega, ?_⟩
    conv => whnf
    exact ⟨rfl, rfl⟩
end Go.Proofs.Ytpedbknmkgcldaa

namespace Go.Proofs.Ytpedbknmkgcldaa
open Go.Ab Go.RowKit Go.MapKept
attribute [local irreducible] ACalls AW ADraw Into
set_option maxRecDepth 100000
def cntS (p : Bool × Int) (x : ByteArray) : Bool × Int :=
  let f := p.1 || decide ((x.size : Int) + 16 > 524288 - p.2)
  (f, if f then p.2 else p.2 + (x.size + 16))
def cntL (l : List ByteArray) : Bool × Int := l.foldl cntS (false, 0)
def counted (l : List ByteArray) : Int × Int :=
  if l.all (fun x => decide (x.size ≤ 4096)) = false then (0, 1) else if (cntL l).1 then (0, 8) else ((cntL l).2, 0)
theorem cntL_take {l : List ByteArray} {k : Nat} {s : ByteArray} (h : l[k]? = some s) : cntL (l.take (k + 1)) = cntS (cntL (l.take k)) s := by
  unfold cntL
  rw [List.take_add_one, h]
  simp
theorem cntS_range {p : Bool × Int} {x : ByteArray} (h : 0 ≤ p.2 ∧ p.2 ≤ 524288) : 0 ≤ (cntS p x).2 ∧ (cntS p x).2 ≤ 524288 := by
  unfold cntS
  by_cases hf : (p.1 || decide ((x.size : Int) + 16 > 524288 - p.2)) = true
  · simp only [hf, if_true]; exact h
  · have : ¬ (x.size : Int) + 16 > 524288 - p.2 := by
      intro h; apply hf; simp [h]
    simp only [hf]
    simp
    omega
theorem cntL_range (l : List ByteArray) : 0 ≤ (cntL l).2 ∧ (cntL l).2 ≤ 524288 := by
  have : ∀ (l : List ByteArray) (p : Bool × Int), (0 ≤ p.2 ∧ p.2 ≤ 524288) → 0 ≤ (l.foldl cntS p).2 ∧ (l.foldl cntS p).2 ≤ 524288 := by
    intro l
    induction l with
    | nil => intro p h; exact h
    | cons x r ih => intro p h; exact ih _ (cntS_range h)
  exact this l _ (by simp)
def cntSt (l : List ByteArray) (sh : Bool) (k : Nat) : AF × List AB :=
  ([(2, .d (.int .i64 (cntL (l.take k)).2)), (4, .d (.bool (cntL (l.take k)).1)), (7, .arr 0), (8, .d (.int .i64 (strs l).length)), (9, .d (.int .i64 k))], [.row 9 1 (strs l) sh])
theorem counted_ok (l : List ByteArray) (sh : Bool) (hl : l.length ≤ 100000000) : ACalls Try.prog 91 [.arr 0] [.row 9 1 (strs l) sh] (fun av L => av = .tup [.d (.int .i64 (counted l).1), .d (.int .i64 (counted l).2)] ∧ L = [.row 9 1 (strs l) sh]) := by
  refine acalls_go ttOk zOk foOk Try.func91 rfl Try.ntmps91 rfl true rfl ?_
  conv => whnf
  refine loop_go ttOk zOk foOk (σ := Nat) (cntSt l sh) (fun k => k ≤ l.length ∧ (l.take k).all (fun x => decide (x.size ≤ 4096)) = true) (fun k => l.length - k) [2, 4, 7, 8, 9] ?_ ?_
  · conv => whnf
    exact ⟨0, rfl, rfl, by simp⟩
  · rintro k ⟨hk, hall⟩
    conv => whnf
    refine sp_dec (fun h => ?_) (fun h => ?_) <;> simp only [strs, List.length_map] at h
    · conv => whnf
      obtain ⟨s, hss⟩ : ∃ s, l[k]? = some s := ⟨_, List.getElem?_eq_getElem (by omega)⟩
      have hr := cntL_range (l.take k)
      refine ⟨by omega, by rw [strs, List.length_map]; show k < l.length; omega, [.str s], by (show (l.map fun s : ByteArray => [DV.str s])[k]? = _); rw [List.getElem?_map, hss]; rfl, ?_⟩
      have htk := cntL_take hss
      have hkl : k < l.length := by omega
      have hnext : s.size ≤ 4096 → (l.take (k + 1)).all (fun x => decide (x.size ≤ 4096)) = true := by
        intro h
        rw [List.take_add_one, hss]
        simp only [List.all_append, hall, Option.toList, List.all_cons, List.all_nil, Bool.true_and, Bool.and_true]
        simpa using h
      conv => whnf
      repeat' (first | ((with_reducible apply z_wrap); (focus omega); (conv => whnf)) | ((with_reducible refine mt_dec (fun _ => ?_) (fun _ => ?_)) <;> (conv => whnf)) | ((with_reducible refine mt_eq (fun _ => ?_) (fun _ => ?_)) <;> (conv => whnf)) | ((with_reducible refine mt_ne (fun _ => ?_) (fun _ => ?_)) <;> (conv => whnf)) | ((with_reducible refine mt_not (fun _ => ?_) (fun _ => ?_)) <;> (conv => whnf)) | ((with_reducible refine mt_any (fun _ => ?_) (fun _ => ?_)) <;> (conv => whnf)))
      · rename_i hbig
        have : l.all (fun x => decide (x.size ≤ 4096)) = false := by
          rw [Bool.eq_false_iff]
          intro ha
          rw [List.all_eq_true] at ha
          have := ha s (List.mem_of_getElem? hss)
          simp at this
          omega
        rw [show counted l = (0, 1) by simp [counted, this]]
        exact ⟨rfl, rfl⟩
      · rename_i hbig hf
        have e : cntS (cntL (l.take k)) s = (true, (cntL (l.take k)).2) := by simp [cntS, hf]
        refine ⟨k + 1, ?_, rfl, ⟨by omega, hnext (by omega)⟩, by omega⟩
        simp only [cntSt, htk, e]
        rfl
      · rename_i hbig hf hle
        have hf' : (cntL (l.take k)).1 = false := by simpa using hf
        have hd : decide ((s.size : Int) + 16 > 524288 - (cntL (l.take k)).2) = false := by simpa using hle
        have e : cntS (cntL (l.take k)) s = (false, (cntL (l.take k)).2 + (s.size + 16)) := by simp only [cntS, hf', hd, Bool.false_or]; rfl
        refine ⟨k + 1, ?_, rfl, ⟨by omega, hnext (by omega)⟩, by omega⟩
        simp only [cntSt, htk, e, hd]
        rfl
      · rename_i hbig hf hle
        have hf' : (cntL (l.take k)).1 = false := by simpa using hf
        have hd : decide ((s.size : Int) + 16 > 524288 - (cntL (l.take k)).2) = true := by simpa using hle
        have e : cntS (cntL (l.take k)) s = (true, (cntL (l.take k)).2) := by simp [cntS, hf', hd]
        refine ⟨k + 1, ?_, rfl, ⟨by omega, hnext (by omega)⟩, by omega⟩
        simp only [cntSt, htk, e, hd]
        rfl
    · conv => whnf
      obtain rfl : k = l.length := by omega
      repeat' (first | ((with_reducible apply z_wrap); (focus omega); (conv => whnf)) | ((with_reducible refine mt_dec (fun _ => ?_) (fun _ => ?_)) <;> (conv => whnf)) | ((with_reducible refine mt_eq (fun _ => ?_) (fun _ => ?_)) <;> (conv => whnf)) | ((with_reducible refine mt_ne (fun _ => ?_) (fun _ => ?_)) <;> (conv => whnf)) | ((with_reducible refine mt_not (fun _ => ?_) (fun _ => ?_)) <;> (conv => whnf)) | ((with_reducible refine mt_any (fun _ => ?_) (fun _ => ?_)) <;> (conv => whnf)))
      · rename_i hf
        rw [List.take_length] at hf hall
        rw [show counted l = (0, 8) by simp [counted, hall, hf]]
        exact ⟨rfl, rfl⟩
      · rename_i hf
        rw [List.take_length] at hf hall ⊢
        rw [show counted l = ((cntL l).2, 0) by simp [counted, hall, hf]]
        exact ⟨rfl, rfl⟩
end Go.Proofs.Ytpedbknmkgcldaa

namespace Go.Proofs.Ytpedbknmkgcldaa
open Go.Ab Go.RowKit Go.MapKept
attribute [local irreducible] ACalls AW ADraw Into
set_option maxRecDepth 100000
def rowS (l : List ByteArray) (sh : Bool) : AB := .row 9 1 (strs l) sh
def layStR (xs : List UInt8) (l : List ByteArray) (sh : Bool) (k : Nat) : AF × List AB :=
  match k with
  | 0 => ([(0, .arr 0), (7, .arr 1), (8, .d (.int .i64 (strs l).length)), (9, .d (.int .i64 0))], [.row 5 1 (u8s xs) false, .row 9 1 (strs l) sh])
  | k + 1 => ([(0, .arr 2), (7, .arr 1), (8, .d (.int .i64 (strs l).length)), (9, .d (.int .i64 (k + 1 : Nat)))], [.dead, .row 9 1 (strs l) sh, .row 5 1 (u8s (xs ++ layL (l.take (k + 1)))) false])
theorem lay_raw (xs : List UInt8) (l : List ByteArray) (sh : Bool) (hx : xs.length ≤ 10000000) (hl : l.length ≤ 100000) (hs : ∀ s ∈ l, s.size ≤ 5000) : ACalls Try.prog 89 [.arr 0, .arr 1] [.row 5 1 (u8s xs) false, .row 9 1 (strs l) sh] (fun av L => (l = [] ∧ av = .arr 0 ∧ L = [.row 5 1 (u8s xs) false, .row 9 1 (strs l) sh]) ∨ (l ≠ [] ∧ av = .arr 2 ∧ L = [.dead, .row 9 1 (strs l) sh, .row 5 1 (u8s (xs ++ layL l)) false])) := by
  refine acalls_go ttOk zOk foOk Try.func89 rfl Try.ntmps89 rfl true rfl ?_
  conv => whnf
  refine loop_go ttOk zOk foOk (σ := Nat) (layStR xs l sh) (fun k => k ≤ l.length) (fun k => l.length - k) [0, 7, 8, 9] ?_ ?_
  · conv => whnf
    exact ⟨0, rfl, rfl, by omega⟩
  · rintro k hk
    rcases k with _ | k
    · conv => whnf
      refine sp_dec (fun h => ?_) (fun h => ?_) <;> simp only [strs, List.length_map] at h
      · conv => whnf
        obtain ⟨s, hss⟩ : ∃ s, l[0]? = some s := ⟨_, List.getElem?_eq_getElem (by omega)⟩
        have hsz := hs s (List.mem_of_getElem? hss)
        have hc := chk_range s.data.toList
        have hlen : (xs).length ≤ 600000000 := by omega
        have hul : (u8s (xs)).length = (xs).length := u8s_length _
        refine ⟨by omega, by rw [strs, List.length_map]; show 0 < l.length; omega, [.str s], by (show (l.map fun s : ByteArray => [DV.str s])[0]? = _); rw [List.getElem?_map, hss]; rfl, ?_⟩
        conv => whnf
        repeat' (first | ((with_reducible apply z_wrap); (focus omega); (conv => whnf)) | ((with_reducible refine mt_dec (fun _ => ?_) (fun _ => ?_)) <;> (conv => whnf)) | ((with_reducible refine mt_eq (fun _ => ?_) (fun _ => ?_)) <;> (conv => whnf)) | ((with_reducible refine mt_ne (fun _ => ?_) (fun _ => ?_)) <;> (conv => whnf)) | ((with_reducible refine mt_not (fun _ => ?_) (fun _ => ?_)) <;> (conv => whnf)) | ((with_reducible refine mt_any (fun _ => ?_) (fun _ => ?_)) <;> (conv => whnf)))
        intro z hz
        obtain rfl : z = (s.size : Int) := by rw [hz, wrap_u32 (by omega)]
        conv => whnf
        (refine Or.inr ?_; (conv => whnf))
        refine (four_row (xs) s.size (by omega) (by omega)).mono ?_
        rintro _ _ ⟨rfl, rfl⟩
        conv => whnf
        repeat' (first | ((with_reducible apply z_wrap); (focus omega); (conv => whnf)) | ((with_reducible refine mt_dec (fun _ => ?_) (fun _ => ?_)) <;> (conv => whnf)) | ((with_reducible refine mt_eq (fun _ => ?_) (fun _ => ?_)) <;> (conv => whnf)) | ((with_reducible refine mt_ne (fun _ => ?_) (fun _ => ?_)) <;> (conv => whnf)) | ((with_reducible refine mt_not (fun _ => ?_) (fun _ => ?_)) <;> (conv => whnf)) | ((with_reducible refine mt_any (fun _ => ?_) (fun _ => ?_)) <;> (conv => whnf)))
        have hds : s.data.toList.length = s.size := by simp
        refine ⟨by rw [u8s_length, List.length_append, show (fourL (s.size : Int)).length = 4 from rfl]; (show (_ + 4 + s.size) * 1 ≤ _); omega, ?_⟩
        rw [u8s_app]
        conv => whnf
        repeat' (first | ((with_reducible apply z_wrap); (focus omega); (conv => whnf)) | ((with_reducible refine mt_dec (fun _ => ?_) (fun _ => ?_)) <;> (conv => whnf)) | ((with_reducible refine mt_eq (fun _ => ?_) (fun _ => ?_)) <;> (conv => whnf)) | ((with_reducible refine mt_ne (fun _ => ?_) (fun _ => ?_)) <;> (conv => whnf)) | ((with_reducible refine mt_not (fun _ => ?_) (fun _ => ?_)) <;> (conv => whnf)) | ((with_reducible refine mt_any (fun _ => ?_) (fun _ => ?_)) <;> (conv => whnf)))
        refine (check_ok s (by omega)).mono ?_
        rintro _ _ ⟨rfl, rfl⟩
        conv => whnf
        (refine Or.inr ?_; (conv => whnf))
        refine (four_row (xs ++ fourL s.size ++ s.data.toList) (chk s.data.toList) (by rw [List.length_append, List.length_append, hds, show (fourL (s.size : Int)).length = 4 from rfl]; omega) hc).mono ?_
        rintro _ _ ⟨rfl, rfl⟩
        conv => whnf
        refine ⟨by rw [u8s_length, List.length_append, List.length_append, List.length_append, hds, show (fourL (s.size : Int)).length = 4 from rfl, show (fourL (chk s.data.toList)).length = 4 from rfl]; (show (_ + 1) * 1 ≤ _); omega, ?_⟩
        conv => whnf
        repeat' (first | ((with_reducible apply z_wrap); (focus omega); (conv => whnf)) | ((with_reducible refine mt_dec (fun _ => ?_) (fun _ => ?_)) <;> (conv => whnf)) | ((with_reducible refine mt_eq (fun _ => ?_) (fun _ => ?_)) <;> (conv => whnf)) | ((with_reducible refine mt_ne (fun _ => ?_) (fun _ => ?_)) <;> (conv => whnf)) | ((with_reducible refine mt_not (fun _ => ?_) (fun _ => ?_)) <;> (conv => whnf)) | ((with_reducible refine mt_any (fun _ => ?_) (fun _ => ?_)) <;> (conv => whnf)))
        refine ⟨1, rfl, ?_, by omega, by omega⟩
        have e : layL (l.take 1) = frameL s := by rw [layL_take l hss]; simp [layL]
        simp only [layStR, Nat.zero_add, e]
        simp [u8s, frameL]
      · conv => whnf
        obtain rfl : l = [] := List.eq_nil_of_length_eq_zero (by omega)
        exact .inl ⟨rfl, rfl, rfl⟩
    · conv => whnf
      refine sp_dec (fun h => ?_) (fun h => ?_) <;> simp only [strs, List.length_map] at h
      · conv => whnf
        obtain ⟨s, hss⟩ : ∃ s, l[k + 1]? = some s := ⟨_, List.getElem?_eq_getElem (by omega)⟩
        have hsz := hs s (List.mem_of_getElem? hss)
        have hc := chk_range s.data.toList
        have hlen : (xs ++ layL (l.take (k + 1))).length ≤ 600000000 := by have := layL_length (l.take (k + 1)) (fun s h => hs s (List.mem_of_mem_take h)); simp only [List.length_append, List.length_take] at this ⊢; omega
        have hul : (u8s (xs ++ layL (l.take (k + 1)))).length = (xs ++ layL (l.take (k + 1))).length := u8s_length _
        refine ⟨by omega, by rw [strs, List.length_map]; show k + 1 < l.length; omega, [.str s], by (show (l.map fun s : ByteArray => [DV.str s])[k + 1]? = _); rw [List.getElem?_map, hss]; rfl, ?_⟩
        conv => whnf
        repeat' (first | ((with_reducible apply z_wrap); (focus omega); (conv => whnf)) | ((with_reducible refine mt_dec (fun _ => ?_) (fun _ => ?_)) <;> (conv => whnf)) | ((with_reducible refine mt_eq (fun _ => ?_) (fun _ => ?_)) <;> (conv => whnf)) | ((with_reducible refine mt_ne (fun _ => ?_) (fun _ => ?_)) <;> (conv => whnf)) | ((with_reducible refine mt_not (fun _ => ?_) (fun _ => ?_)) <;> (conv => whnf)) | ((with_reducible refine mt_any (fun _ => ?_) (fun _ => ?_)) <;> (conv => whnf)))
        intro z hz
        obtain rfl : z = (s.size : Int) := by rw [hz, wrap_u32 (by omega)]
        conv => whnf
        (refine Or.inr ?_; (conv => whnf))
        refine (four_row (xs ++ layL (l.take (k + 1))) s.size (by omega) (by omega)).mono ?_
        rintro _ _ ⟨rfl, rfl⟩
        conv => whnf
        repeat' (first | ((with_reducible apply z_wrap); (focus omega); (conv => whnf)) | ((with_reducible refine mt_dec (fun _ => ?_) (fun _ => ?_)) <;> (conv => whnf)) | ((with_reducible refine mt_eq (fun _ => ?_) (fun _ => ?_)) <;> (conv => whnf)) | ((with_reducible refine mt_ne (fun _ => ?_) (fun _ => ?_)) <;> (conv => whnf)) | ((with_reducible refine mt_not (fun _ => ?_) (fun _ => ?_)) <;> (conv => whnf)) | ((with_reducible refine mt_any (fun _ => ?_) (fun _ => ?_)) <;> (conv => whnf)))
        have hds : s.data.toList.length = s.size := by simp
        refine ⟨by rw [u8s_length, List.length_append, show (fourL (s.size : Int)).length = 4 from rfl]; (show (_ + 4 + s.size) * 1 ≤ _); omega, ?_⟩
        rw [u8s_app]
        conv => whnf
        repeat' (first | ((with_reducible apply z_wrap); (focus omega); (conv => whnf)) | ((with_reducible refine mt_dec (fun _ => ?_) (fun _ => ?_)) <;> (conv => whnf)) | ((with_reducible refine mt_eq (fun _ => ?_) (fun _ => ?_)) <;> (conv => whnf)) | ((with_reducible refine mt_ne (fun _ => ?_) (fun _ => ?_)) <;> (conv => whnf)) | ((with_reducible refine mt_not (fun _ => ?_) (fun _ => ?_)) <;> (conv => whnf)) | ((with_reducible refine mt_any (fun _ => ?_) (fun _ => ?_)) <;> (conv => whnf)))
        refine (check_ok s (by omega)).mono ?_
        rintro _ _ ⟨rfl, rfl⟩
        conv => whnf
        (refine Or.inr ?_; (conv => whnf))
        refine (four_row (xs ++ layL (l.take (k + 1)) ++ fourL s.size ++ s.data.toList) (chk s.data.toList) (by rw [List.length_append, List.length_append, hds, show (fourL (s.size : Int)).length = 4 from rfl]; omega) hc).mono ?_
        rintro _ _ ⟨rfl, rfl⟩
        conv => whnf
        refine ⟨by rw [u8s_length, List.length_append, List.length_append, List.length_append, hds, show (fourL (s.size : Int)).length = 4 from rfl, show (fourL (chk s.data.toList)).length = 4 from rfl]; (show (_ + 1) * 1 ≤ _); omega, ?_⟩
        conv => whnf
        repeat' (first | ((with_reducible apply z_wrap); (focus omega); (conv => whnf)) | ((with_reducible refine mt_dec (fun _ => ?_) (fun _ => ?_)) <;> (conv => whnf)) | ((with_reducible refine mt_eq (fun _ => ?_) (fun _ => ?_)) <;> (conv => whnf)) | ((with_reducible refine mt_ne (fun _ => ?_) (fun _ => ?_)) <;> (conv => whnf)) | ((with_reducible refine mt_not (fun _ => ?_) (fun _ => ?_)) <;> (conv => whnf)) | ((with_reducible refine mt_any (fun _ => ?_) (fun _ => ?_)) <;> (conv => whnf)))
        refine ⟨k + 2, rfl, ?_, by omega, by omega⟩
        have e : layL (l.take (k + 1 + 1)) = layL (l.take (k + 1)) ++ frameL s := layL_take l hss
        simp only [layStR, e]
        simp [u8s, frameL]
      · conv => whnf
        have hkl : k + 1 = l.length := by omega
        refine .inr ⟨fun e => (by rw [e] at hkl; simp at hkl), rfl, ?_⟩
        rw [hkl, List.take_length]
end Go.Proofs.Ytpedbknmkgcldaa

namespace Go.Proofs.Ytpedbknmkgcldaa
open Go.Ab Go.RowKit Go.MapKept
attribute [local irreducible] ACalls AW ADraw Into
set_option maxRecDepth 100000
theorem append_ok (d : Dk) (hd : d.dat.ok) (n : ByteArray) (b : List UInt8) (hb : b.length ≤ 140737488355328) : ACalls Try.prog 18 [.ptr 0 0, .d (.str n), .d (.sl 1 (u8s b))] d.L (fun av L => ∃ d' : Dk, av = .d (.int .i64 (d.dat.append n b).1) ∧ L = d'.L ∧ d'.dat = (d.dat.append n b).2) := by
  refine acalls_go ttOk zOk foOk Try.func18 rfl Try.ntmps18 rfl false rfl ?_
  conv => whnf
  refine (call_by d true n false).mono ?_
  rintro _ _ (⟨rfl, rfl, h | h⟩ | ⟨rfl, rfl, _, hg, ho⟩ | ⟨rfl, rfl, _, hg, ho, hf⟩ | ⟨i, f, rfl, rfl, _, hg, ho, hf⟩)
  · cases h
  · conv => whnf
    repeat' (first | ((with_reducible apply z_wrap); (focus omega); (conv => whnf)) | ((with_reducible refine mt_dec (fun _ => ?_) (fun _ => ?_)) <;> (conv => whnf)) | ((with_reducible refine mt_eq (fun _ => ?_) (fun _ => ?_)) <;> (conv => whnf)) | ((with_reducible refine mt_ne (fun _ => ?_) (fun _ => ?_)) <;> (conv => whnf)) | ((with_reducible refine mt_not (fun _ => ?_) (fun _ => ?_)) <;> (conv => whnf)) | ((with_reducible refine mt_any (fun _ => ?_) (fun _ => ?_)) <;> (conv => whnf)))
    rw [app_bad h]
    exact ⟨d, rfl, rfl, rfl⟩
  · conv => whnf
    repeat' (first | ((with_reducible apply z_wrap); (focus omega); (conv => whnf)) | ((with_reducible refine mt_dec (fun _ => ?_) (fun _ => ?_)) <;> (conv => whnf)) | ((with_reducible refine mt_eq (fun _ => ?_) (fun _ => ?_)) <;> (conv => whnf)) | ((with_reducible refine mt_ne (fun _ => ?_) (fun _ => ?_)) <;> (conv => whnf)) | ((with_reducible refine mt_not (fun _ => ?_) (fun _ => ?_)) <;> (conv => whnf)) | ((with_reducible refine mt_any (fun _ => ?_) (fun _ => ?_)) <;> (conv => whnf)))
    rw [app_off hg ho]
    exact ⟨d.spend, rfl, rfl, rfl⟩
  · have hgn := getN_none hf
    conv => whnf
    repeat' (first | ((with_reducible apply z_wrap); (focus omega); (conv => whnf)) | ((with_reducible refine mt_dec (fun _ => ?_) (fun _ => ?_)) <;> (conv => whnf)) | ((with_reducible refine mt_eq (fun _ => ?_) (fun _ => ?_)) <;> (conv => whnf)) | ((with_reducible refine mt_ne (fun _ => ?_) (fun _ => ?_)) <;> (conv => whnf)) | ((with_reducible refine mt_not (fun _ => ?_) (fun _ => ?_)) <;> (conv => whnf)) | ((with_reducible refine mt_any (fun _ => ?_) (fun _ => ?_)) <;> (conv => whnf)))
    · rename_i hl
      simp only [u8s_length] at hl
      rw [app_long0 hg ho hgn (by omega)]
      exact ⟨d.spend, rfl, rfl, rfl⟩
    · rename_i hl h16
      simp only [u8s_length] at hl
      simp only [Dk.spend, List.length_map] at h16
      rw [app_full hg ho hgn (by omega) (by simp only [Dk.dat, List.length_map]; omega)]
      exact ⟨d.spend, rfl, rfl, rfl⟩
    · rename_i hl h16
      simp only [u8s_length] at hl
      simp only [Dk.spend, List.length_map] at h16
      rw [app_new hg ho hgn (by omega) (by simp only [Dk.dat, List.length_map]; omega)]
      intro b0
      conv => whnf
      repeat' (first | ((with_reducible apply z_wrap); (focus omega); (conv => whnf)) | ((with_reducible refine mt_dec (fun _ => ?_) (fun _ => ?_)) <;> (conv => whnf)) | ((with_reducible refine mt_eq (fun _ => ?_) (fun _ => ?_)) <;> (conv => whnf)) | ((with_reducible refine mt_ne (fun _ => ?_) (fun _ => ?_)) <;> (conv => whnf)) | ((with_reducible refine mt_not (fun _ => ?_) (fun _ => ?_)) <;> (conv => whnf)) | ((with_reducible refine mt_any (fun _ => ?_) (fun _ => ?_)) <;> (conv => whnf)))
      refine ⟨none, 2, _, by rw [mfind_ent]; simp only [Dk.spend]; rw [hf]; rfl, rfl, ?_⟩
      intro L' hL
      obtain rfl : L' = [.cells [.d (.int .i64 d.spend.calls), .d (.bool d.spend.off), .d (.int .i64 d.spend.upto), .map 1], .map ((d.spend.fs ++ [Fl.mk n b0 [] []]).map Fl.ent), .dead] := by rw [hL]; simp [mputAt, Fl.ent]
      clear hL
      conv => whnf
      repeat' (first | ((with_reducible apply z_wrap); (focus omega); (conv => whnf)) | ((with_reducible refine mt_dec (fun _ => ?_) (fun _ => ?_)) <;> (conv => whnf)) | ((with_reducible refine mt_eq (fun _ => ?_) (fun _ => ?_)) <;> (conv => whnf)) | ((with_reducible refine mt_ne (fun _ => ?_) (fun _ => ?_)) <;> (conv => whnf)) | ((with_reducible refine mt_not (fun _ => ?_) (fun _ => ?_)) <;> (conv => whnf)) | ((with_reducible refine mt_any (fun _ => ?_) (fun _ => ?_)) <;> (conv => whnf)))
      refine ⟨(Fl.mk n b0 [] []).cs, box_at (List.mem_append_right _ (List.mem_cons_self ..)), ?_⟩
      conv => whnf
      repeat' (first | ((with_reducible apply z_wrap); (focus omega); (conv => whnf)) | ((with_reducible refine mt_dec (fun _ => ?_) (fun _ => ?_)) <;> (conv => whnf)) | ((with_reducible refine mt_eq (fun _ => ?_) (fun _ => ?_)) <;> (conv => whnf)) | ((with_reducible refine mt_ne (fun _ => ?_) (fun _ => ?_)) <;> (conv => whnf)) | ((with_reducible refine mt_not (fun _ => ?_) (fun _ => ?_)) <;> (conv => whnf)) | ((with_reducible refine mt_any (fun _ => ?_) (fun _ => ?_)) <;> (conv => whnf)))
      refine (clone_row [] (Nat.zero_le _)).mono ?_
      rintro _ _ ⟨rfl, rfl⟩
      conv => whnf
      repeat' (first | ((with_reducible apply z_wrap); (focus omega); (conv => whnf)) | ((with_reducible refine mt_dec (fun _ => ?_) (fun _ => ?_)) <;> (conv => whnf)) | ((with_reducible refine mt_eq (fun _ => ?_) (fun _ => ?_)) <;> (conv => whnf)) | ((with_reducible refine mt_ne (fun _ => ?_) (fun _ => ?_)) <;> (conv => whnf)) | ((with_reducible refine mt_not (fun _ => ?_) (fun _ => ?_)) <;> (conv => whnf)) | ((with_reducible refine mt_any (fun _ => ?_) (fun _ => ?_)) <;> (conv => whnf)))
      refine ⟨by simp; omega, ?_⟩
      conv => whnf
      repeat' (first | ((with_reducible apply z_wrap); (focus omega); (conv => whnf)) | ((with_reducible refine mt_dec (fun _ => ?_) (fun _ => ?_)) <;> (conv => whnf)) | ((with_reducible refine mt_eq (fun _ => ?_) (fun _ => ?_)) <;> (conv => whnf)) | ((with_reducible refine mt_ne (fun _ => ?_) (fun _ => ?_)) <;> (conv => whnf)) | ((with_reducible refine mt_not (fun _ => ?_) (fun _ => ?_)) <;> (conv => whnf)) | ((with_reducible refine mt_any (fun _ => ?_) (fun _ => ?_)) <;> (conv => whnf)))
      refine .inl ⟨1, _, d.spend.fs.length, _, _, rfl, by simp; rfl, by simp, ?_⟩
      intro L' hL
      obtain rfl : L' = [.cells [.d (.int .i64 d.spend.calls), .d (.bool d.spend.off), .d (.int .i64 d.spend.upto), .map 1], .map ((d.spend.fs ++ [Fl.mk n b0 [] b]).map Fl.ent), .dead, .dead, .row 5 1 (u8s b) true] := by rw [hL]; simp [Fl.ent, overD, norm1, List.set_append]
      clear hL
      conv => whnf
      exact ⟨{ d.spend with fs := d.spend.fs ++ [Fl.mk n b0 [] b] }, rfl, rfl, by simp [Dk.dat, Fl.dat, Dk.spend, DD.spend]⟩
  · have hgn := getN_some hf
    have hs : f.seen.length ≤ 1048576 := (hd.len f.dat (mem_getN hgn)).1
    have hu := u8s_length f.seen
    conv => whnf
    repeat' (first | ((with_reducible apply z_wrap); (focus omega); (conv => whnf)) | ((with_reducible refine mt_dec (fun _ => ?_) (fun _ => ?_)) <;> (conv => whnf)) | ((with_reducible refine mt_eq (fun _ => ?_) (fun _ => ?_)) <;> (conv => whnf)) | ((with_reducible refine mt_ne (fun _ => ?_) (fun _ => ?_)) <;> (conv => whnf)) | ((with_reducible refine mt_not (fun _ => ?_) (fun _ => ?_)) <;> (conv => whnf)) | ((with_reducible refine mt_any (fun _ => ?_) (fun _ => ?_)) <;> (conv => whnf)))
    refine ⟨f.cs, box_at (findF_mem hf), ?_⟩
    conv => whnf
    repeat' (first | ((with_reducible apply z_wrap); (focus omega); (conv => whnf)) | ((with_reducible refine mt_dec (fun _ => ?_) (fun _ => ?_)) <;> (conv => whnf)) | ((with_reducible refine mt_eq (fun _ => ?_) (fun _ => ?_)) <;> (conv => whnf)) | ((with_reducible refine mt_ne (fun _ => ?_) (fun _ => ?_)) <;> (conv => whnf)) | ((with_reducible refine mt_not (fun _ => ?_) (fun _ => ?_)) <;> (conv => whnf)) | ((with_reducible refine mt_any (fun _ => ?_) (fun _ => ?_)) <;> (conv => whnf)))
    · rename_i hl
      simp only [u8s_length] at hl
      rw [app_long hg ho hgn (by show b.length > 1048576 - f.seen.length; omega)]
      exact ⟨d.spend, rfl, rfl, rfl⟩
    · rename_i hl
      simp only [u8s_length] at hl
      rw [app_old hg ho hgn (by show ¬ b.length > 1048576 - f.seen.length; omega)]
      refine ⟨f.cs, box_at (findF_mem hf), ?_⟩
      conv => whnf
      repeat' (first | ((with_reducible apply z_wrap); (focus omega); (conv => whnf)) | ((with_reducible refine mt_dec (fun _ => ?_) (fun _ => ?_)) <;> (conv => whnf)) | ((with_reducible refine mt_eq (fun _ => ?_) (fun _ => ?_)) <;> (conv => whnf)) | ((with_reducible refine mt_ne (fun _ => ?_) (fun _ => ?_)) <;> (conv => whnf)) | ((with_reducible refine mt_not (fun _ => ?_) (fun _ => ?_)) <;> (conv => whnf)) | ((with_reducible refine mt_any (fun _ => ?_) (fun _ => ?_)) <;> (conv => whnf)))
      refine (clone_row f.seen (by omega)).mono ?_
      rintro _ _ ⟨rfl, rfl⟩
      conv => whnf
      repeat' (first | ((with_reducible apply z_wrap); (focus omega); (conv => whnf)) | ((with_reducible refine mt_dec (fun _ => ?_) (fun _ => ?_)) <;> (conv => whnf)) | ((with_reducible refine mt_eq (fun _ => ?_) (fun _ => ?_)) <;> (conv => whnf)) | ((with_reducible refine mt_ne (fun _ => ?_) (fun _ => ?_)) <;> (conv => whnf)) | ((with_reducible refine mt_not (fun _ => ?_) (fun _ => ?_)) <;> (conv => whnf)) | ((with_reducible refine mt_any (fun _ => ?_) (fun _ => ?_)) <;> (conv => whnf)))
      refine ⟨by simp; omega, ?_⟩
      conv => whnf
      repeat' (first | ((with_reducible apply z_wrap); (focus omega); (conv => whnf)) | ((with_reducible refine mt_dec (fun _ => ?_) (fun _ => ?_)) <;> (conv => whnf)) | ((with_reducible refine mt_eq (fun _ => ?_) (fun _ => ?_)) <;> (conv => whnf)) | ((with_reducible refine mt_ne (fun _ => ?_) (fun _ => ?_)) <;> (conv => whnf)) | ((with_reducible refine mt_not (fun _ => ?_) (fun _ => ?_)) <;> (conv => whnf)) | ((with_reducible refine mt_any (fun _ => ?_) (fun _ => ?_)) <;> (conv => whnf)))
      refine .inl ⟨1, _, i, _, _, rfl, ent_at hf, by simp [Fl.cs], ?_⟩
      intro L' hL
      obtain rfl : L' = [.cells [.d (.int .i64 d.spend.calls), .d (.bool d.spend.off), .d (.int .i64 d.spend.upto), .map 1], .map ((d.spend.put i ⟨f.name, f.b, f.safe, f.seen ++ b⟩).fs.map Fl.ent), .dead, .row 5 1 (u8s f.seen ++ u8s b) true] := by rw [hL]; simp [Dk.put, List.map_set, Fl.ent, Fl.cs, overD, norm1]
      clear hL
      conv => whnf
      exact ⟨d.spend.put i ⟨f.name, f.b, f.safe, f.seen ++ b⟩, rfl, rfl, put_dat (d := d.spend) hf (fun f => { f with seen := f.seen ++ b }) _ rfl⟩
end Go.Proofs.Ytpedbknmkgcldaa

namespace Go.Proofs.Ytpedbknmkgcldaa
open Go.Ab Go.RowKit Go.MapKept
attribute [local irreducible] ACalls AW ADraw Into
set_option maxRecDepth 100000
theorem sync_ok (d : Dk) (n : ByteArray) : ACalls Try.prog 19 [.ptr 0 0, .d (.str n)] d.L (fun av L => ∃ d' : Dk, av = .d (.int .i64 (d.dat.sync n).1) ∧ L = d'.L ∧ d'.dat = (d.dat.sync n).2) := by
  refine acalls_go ttOk zOk foOk Try.func19 rfl Try.ntmps19 rfl false rfl ?_
  conv => whnf
  refine (call_by d true n true).mono ?_
  rintro _ _ (⟨rfl, rfl, h | h⟩ | ⟨rfl, rfl, _, hg, ho⟩ | ⟨rfl, rfl, _, hg, ho, hf⟩ | ⟨i, f, rfl, rfl, _, hg, ho, hf⟩)
  · cases h
  · conv => whnf
    repeat' (first | ((with_reducible apply z_wrap); (focus omega); (conv => whnf)) | ((with_reducible refine mt_dec (fun _ => ?_) (fun _ => ?_)) <;> (conv => whnf)) | ((with_reducible refine mt_eq (fun _ => ?_) (fun _ => ?_)) <;> (conv => whnf)) | ((with_reducible refine mt_ne (fun _ => ?_) (fun _ => ?_)) <;> (conv => whnf)) | ((with_reducible refine mt_not (fun _ => ?_) (fun _ => ?_)) <;> (conv => whnf)) | ((with_reducible refine mt_any (fun _ => ?_) (fun _ => ?_)) <;> (conv => whnf)))
    rw [sync_bad h]
    exact ⟨d, rfl, rfl, rfl⟩
  · conv => whnf
    repeat' (first | ((with_reducible apply z_wrap); (focus omega); (conv => whnf)) | ((with_reducible refine mt_dec (fun _ => ?_) (fun _ => ?_)) <;> (conv => whnf)) | ((with_reducible refine mt_eq (fun _ => ?_) (fun _ => ?_)) <;> (conv => whnf)) | ((with_reducible refine mt_ne (fun _ => ?_) (fun _ => ?_)) <;> (conv => whnf)) | ((with_reducible refine mt_not (fun _ => ?_) (fun _ => ?_)) <;> (conv => whnf)) | ((with_reducible refine mt_any (fun _ => ?_) (fun _ => ?_)) <;> (conv => whnf)))
    rw [sync_off hg ho]
    exact ⟨d.spend, rfl, rfl, rfl⟩
  · conv => whnf
    repeat' (first | ((with_reducible apply z_wrap); (focus omega); (conv => whnf)) | ((with_reducible refine mt_dec (fun _ => ?_) (fun _ => ?_)) <;> (conv => whnf)) | ((with_reducible refine mt_eq (fun _ => ?_) (fun _ => ?_)) <;> (conv => whnf)) | ((with_reducible refine mt_ne (fun _ => ?_) (fun _ => ?_)) <;> (conv => whnf)) | ((with_reducible refine mt_not (fun _ => ?_) (fun _ => ?_)) <;> (conv => whnf)) | ((with_reducible refine mt_any (fun _ => ?_) (fun _ => ?_)) <;> (conv => whnf)))
    rw [sync_none hg ho (getN_none hf)]
    exact ⟨d.spend, rfl, rfl, rfl⟩
  · conv => whnf
    repeat' (first | ((with_reducible apply z_wrap); (focus omega); (conv => whnf)) | ((with_reducible refine mt_dec (fun _ => ?_) (fun _ => ?_)) <;> (conv => whnf)) | ((with_reducible refine mt_eq (fun _ => ?_) (fun _ => ?_)) <;> (conv => whnf)) | ((with_reducible refine mt_ne (fun _ => ?_) (fun _ => ?_)) <;> (conv => whnf)) | ((with_reducible refine mt_not (fun _ => ?_) (fun _ => ?_)) <;> (conv => whnf)) | ((with_reducible refine mt_any (fun _ => ?_) (fun _ => ?_)) <;> (conv => whnf)))
    rw [sync_some hg ho (getN_some hf)]
    refine ⟨f.cs, box_at (findF_mem hf), ?_⟩
    conv => whnf
    repeat' (first | ((with_reducible apply z_wrap); (focus omega); (conv => whnf)) | ((with_reducible refine mt_dec (fun _ => ?_) (fun _ => ?_)) <;> (conv => whnf)) | ((with_reducible refine mt_eq (fun _ => ?_) (fun _ => ?_)) <;> (conv => whnf)) | ((with_reducible refine mt_ne (fun _ => ?_) (fun _ => ?_)) <;> (conv => whnf)) | ((with_reducible refine mt_not (fun _ => ?_) (fun _ => ?_)) <;> (conv => whnf)) | ((with_reducible refine mt_any (fun _ => ?_) (fun _ => ?_)) <;> (conv => whnf)))
    refine .inl ⟨1, _, i, _, _, rfl, ent_at hf, by simp [Fl.cs], ?_⟩
    intro L' hL
    obtain rfl : L' = [.cells [.d (.int .i64 d.spend.calls), .d (.bool d.spend.off), .d (.int .i64 d.spend.upto), .map 1], .map ((d.spend.put i ⟨f.name, f.b, f.seen, f.seen⟩).fs.map Fl.ent)] := by rw [hL]; simp [Dk.put, List.map_set, Fl.ent, Fl.cs, overD, norm1]
    clear hL
    conv => whnf
    exact ⟨d.spend.put i ⟨f.name, f.b, f.seen, f.seen⟩, rfl, rfl, put_dat (d := d.spend) hf (fun f => { f with safe := f.seen }) _ rfl⟩
end Go.Proofs.Ytpedbknmkgcldaa

namespace Go.Proofs.Ytpedbknmkgcldaa
open Go.Ab Go.RowKit Go.MapKept
attribute [local irreducible] ACalls AW ADraw Into
set_option maxRecDepth 100000
theorem rename_ok (d : Dk) (n t : ByteArray) : ACalls Try.prog 23 [.ptr 0 0, .d (.str n), .d (.str t)] d.L (fun av L => ∃ d' : Dk, av = .d (.int .i64 (d.dat.rename n t).1) ∧ L = d'.L ∧ d'.dat = (d.dat.rename n t).2) := by
  refine acalls_go ttOk zOk foOk Try.func23 rfl Try.ntmps23 rfl false rfl ?_
  conv => whnf
  ((with_reducible refine (good_ok t).mono ?_); rintro _ _ ⟨rfl, rfl⟩; (conv => whnf))
  refine (call_by d _ n true).mono ?_
  rintro _ _ (⟨rfl, rfl, h⟩ | ⟨rfl, rfl, ht, hg, ho⟩ | ⟨rfl, rfl, ht, hg, ho, hf⟩ | ⟨i, f, rfl, rfl, ht, hg, ho, hf⟩)
  · conv => whnf
    repeat' (first | ((with_reducible apply z_wrap); (focus omega); (conv => whnf)) | ((with_reducible refine mt_dec (fun _ => ?_) (fun _ => ?_)) <;> (conv => whnf)) | ((with_reducible refine mt_eq (fun _ => ?_) (fun _ => ?_)) <;> (conv => whnf)) | ((with_reducible refine mt_ne (fun _ => ?_) (fun _ => ?_)) <;> (conv => whnf)) | ((with_reducible refine mt_not (fun _ => ?_) (fun _ => ?_)) <;> (conv => whnf)) | ((with_reducible refine mt_any (fun _ => ?_) (fun _ => ?_)) <;> (conv => whnf)))
    rw [ren_bad h]
    exact ⟨d, rfl, rfl, rfl⟩
  · conv => whnf
    repeat' (first | ((with_reducible apply z_wrap); (focus omega); (conv => whnf)) | ((with_reducible refine mt_dec (fun _ => ?_) (fun _ => ?_)) <;> (conv => whnf)) | ((with_reducible refine mt_eq (fun _ => ?_) (fun _ => ?_)) <;> (conv => whnf)) | ((with_reducible refine mt_ne (fun _ => ?_) (fun _ => ?_)) <;> (conv => whnf)) | ((with_reducible refine mt_not (fun _ => ?_) (fun _ => ?_)) <;> (conv => whnf)) | ((with_reducible refine mt_any (fun _ => ?_) (fun _ => ?_)) <;> (conv => whnf)))
    rw [ren_off ht hg ho]
    exact ⟨d.spend, rfl, rfl, rfl⟩
  · conv => whnf
    repeat' (first | ((with_reducible apply z_wrap); (focus omega); (conv => whnf)) | ((with_reducible refine mt_dec (fun _ => ?_) (fun _ => ?_)) <;> (conv => whnf)) | ((with_reducible refine mt_eq (fun _ => ?_) (fun _ => ?_)) <;> (conv => whnf)) | ((with_reducible refine mt_ne (fun _ => ?_) (fun _ => ?_)) <;> (conv => whnf)) | ((with_reducible refine mt_not (fun _ => ?_) (fun _ => ?_)) <;> (conv => whnf)) | ((with_reducible refine mt_any (fun _ => ?_) (fun _ => ?_)) <;> (conv => whnf)))
    rw [ren_none ht hg ho (getN_none hf)]
    exact ⟨d.spend, rfl, rfl, rfl⟩
  · conv => whnf
    repeat' (first | ((with_reducible apply z_wrap); (focus omega); (conv => whnf)) | ((with_reducible refine mt_dec (fun _ => ?_) (fun _ => ?_)) <;> (conv => whnf)) | ((with_reducible refine mt_eq (fun _ => ?_) (fun _ => ?_)) <;> (conv => whnf)) | ((with_reducible refine mt_ne (fun _ => ?_) (fun _ => ?_)) <;> (conv => whnf)) | ((with_reducible refine mt_not (fun _ => ?_) (fun _ => ?_)) <;> (conv => whnf)) | ((with_reducible refine mt_any (fun _ => ?_) (fun _ => ?_)) <;> (conv => whnf)))
    rw [ren_some ht hg ho (getN_some hf)]
    refine ⟨_, mfind_ent n d.fs 0, ?_⟩
    rw [hf]
    conv => whnf
    repeat' (first | ((with_reducible apply z_wrap); (focus omega); (conv => whnf)) | ((with_reducible refine mt_dec (fun _ => ?_) (fun _ => ?_)) <;> (conv => whnf)) | ((with_reducible refine mt_eq (fun _ => ?_) (fun _ => ?_)) <;> (conv => whnf)) | ((with_reducible refine mt_ne (fun _ => ?_) (fun _ => ?_)) <;> (conv => whnf)) | ((with_reducible refine mt_not (fun _ => ?_) (fun _ => ?_)) <;> (conv => whnf)) | ((with_reducible refine mt_any (fun _ => ?_) (fun _ => ?_)) <;> (conv => whnf)))
    refine ⟨_, 2, _, by rw [erase_ent]; exact mfind_ent t (d.fs.eraseIdx i) 0, rfl, ?_⟩
    intro L' hL
    have hdel := getN_del hf
    cases ht' : findF t (d.fs.eraseIdx i) 0 with
    | none =>
      rw [ht'] at hL
      obtain rfl : L' = [.cells [.d (.int .i64 d.spend.calls), .d (.bool d.spend.off), .d (.int .i64 d.spend.upto), .map 1], .map ((d.fs.eraseIdx i ++ [Fl.mk t f.b f.safe f.seen]).map Fl.ent), .dead] := by rw [hL]; simp [mputAt, erase_ent, Fl.ent, Dk.spend]
      clear hL
      conv => whnf
      exact ⟨{ d.spend with fs := d.fs.eraseIdx i ++ [Fl.mk t f.b f.safe f.seen] }, rfl, rfl, by
        have hn : getN t (delN n d.dat.fs) = none := by rw [← hdel]; exact getN_none (d := { d with fs := d.fs.eraseIdx i }) ht'
        simp only [Dk.dat, Dk.spend, DD.spend, List.map_append, setN]
        simp only [Dk.dat] at hdel hn
        rw [hdel, hn]; rfl⟩
    | some q =>
      obtain ⟨m, g⟩ := q
      rw [ht'] at hL
      have hput := put_dat (d := { d with fs := d.fs.eraseIdx i }) ht' (fun _ => ⟨t, f.safe, f.seen⟩) ⟨t, f.b, f.safe, f.seen⟩ rfl
      obtain rfl : L' = [.cells [.d (.int .i64 d.spend.calls), .d (.bool d.spend.off), .d (.int .i64 d.spend.upto), .map 1], .map (((d.fs.eraseIdx i).set m (Fl.mk t f.b f.safe f.seen)).map Fl.ent), .dead] := by rw [hL]; simp [mputAt, erase_ent, Fl.ent, Dk.spend, List.map_set]
      clear hL
      conv => whnf
      exact ⟨{ d.spend with fs := (d.fs.eraseIdx i).set m (Fl.mk t f.b f.safe f.seen) }, rfl, rfl, by
        have hn : getN t (delN n d.dat.fs) = some g.dat := by rw [← hdel]; exact getN_some (d := { d with fs := d.fs.eraseIdx i }) ht'
        have h2 := congrArg DD.fs hput
        simp only [Dk.dat, Dk.put] at h2
        simp only [Dk.dat, Dk.spend, DD.spend, setN]
        simp only [Dk.dat] at hdel hn
        rw [hn, h2, hdel]; rfl⟩
end Go.Proofs.Ytpedbknmkgcldaa

namespace Go.Proofs.Ytpedbknmkgcldaa
open Go.Ab Go.RowKit Go.MapKept
attribute [local irreducible] ACalls AW ADraw Into
set_option maxRecDepth 100000
def LD.reset (l : LD) (s : List ByteArray) : Int × LD :=
  if l.dead = true then (9, l) else
  if (counted s).2 ≠ 0 then ((counted s).2, l) else
  if l.sweep.1 ≠ 0 then (l.sweep.1, l.sweep.2.did l.sweep.1) else
  let p := l.sweep.2.d.append freshN (layL s)
  if p.1 ≠ 0 then (p.1, ({ l.sweep.2 with d := p.2 } : LD).did p.1) else
  let q := p.2.sync freshN
  if q.1 ≠ 0 then (q.1, ({ l.sweep.2 with d := q.2 } : LD).did q.1) else
  let r := q.2.rename freshN logN
  if r.1 ≠ 0 then (r.1, ({ l.sweep.2 with d := r.2 } : LD).did r.1) else
  (0, ({ l.sweep.2 with d := r.2, recs := s, size := (counted s).1, file := true } : LD).did 0)
theorem sweep_fine {l : LD} (h : l.d.fine) : l.sweep.2.d.fine := by
  unfold LD.sweep
  split
  · exact h.remove _
  · split <;> exact h
theorem sweep_recs {l : LD} : l.sweep.2.recs = l.recs := by
  unfold LD.sweep
  split
  · rfl
  · split <;> rfl
section
variable {l : LD} {s : List ByteArray}
def LD.app1 (l : LD) (s : List ByteArray) : Int × DD := l.sweep.2.d.append freshN (layL s)
def LD.syn1 (l : LD) (s : List ByteArray) : Int × DD := (l.app1 s).2.sync freshN
def LD.ren1 (l : LD) (s : List ByteArray) : Int × DD := (l.syn1 s).2.rename freshN logN
theorem res1 (h : l.dead = false) (h1 : (counted s).2 = 0) (h2 : l.sweep.1 ≠ 0) : l.reset s = (l.sweep.1, l.sweep.2.did l.sweep.1) := by
  simp only [LD.reset, h, h1, if_pos h2]; rfl
theorem res2 (h : l.dead = false) (h1 : (counted s).2 = 0) (h2 : l.sweep.1 = 0) (h3 : (l.app1 s).1 ≠ 0) : l.reset s = ((l.app1 s).1, ({ l.sweep.2 with d := (l.app1 s).2 } : LD).did (l.app1 s).1) := by
  unfold LD.app1 at *
  simp only [LD.reset, h, h1, h2, if_pos h3]; rfl
theorem res3 (h : l.dead = false) (h1 : (counted s).2 = 0) (h2 : l.sweep.1 = 0) (h3 : (l.app1 s).1 = 0) (h4 : (l.syn1 s).1 ≠ 0) : l.reset s = ((l.syn1 s).1, ({ l.sweep.2 with d := (l.syn1 s).2 } : LD).did (l.syn1 s).1) := by
  unfold LD.syn1 LD.app1 at *
  simp only [LD.reset, h, h1, h2, h3, if_pos h4]; rfl
theorem res4 (h : l.dead = false) (h1 : (counted s).2 = 0) (h2 : l.sweep.1 = 0) (h3 : (l.app1 s).1 = 0) (h4 : (l.syn1 s).1 = 0) (h5 : (l.ren1 s).1 ≠ 0) : l.reset s = ((l.ren1 s).1, ({ l.sweep.2 with d := (l.ren1 s).2 } : LD).did (l.ren1 s).1) := by
  unfold LD.ren1 LD.syn1 LD.app1 at *
  simp only [LD.reset, h, h1, h2, h3, h4, if_pos h5]; rfl
theorem res5 (h : l.dead = false) (h1 : (counted s).2 = 0) (h2 : l.sweep.1 = 0) (h3 : (l.app1 s).1 = 0) (h4 : (l.syn1 s).1 = 0) (h5 : (l.ren1 s).1 = 0) : l.reset s = (0, ({ l.sweep.2 with d := (l.ren1 s).2, recs := s, size := (counted s).1, file := true } : LD).did 0) := by
  unfold LD.ren1 LD.syn1 LD.app1 at *
  simp only [LD.reset, h, h1, h2, h3, h4, h5]; rfl
end
theorem counted_small {s : List ByteArray} (h : (counted s).2 = 0) : ∀ x ∈ s, x.size ≤ 4096 := by
  unfold counted at h
  split at h
  · cases h
  · rename_i h1
    simp only [Bool.not_eq_false] at h1
    rw [List.all_eq_true] at h1
    intro x hx
    simpa using h1 x hx
def Lg.R (l : Lg) (s : List ByteArray) (ssh : Bool) : List AB := [.cells (.ptr 2 0 :: .arr 3 :: l.tail), .row 9 1 (strs s) ssh, .cells [.d (.int .i64 l.d.calls), .d (.bool l.d.off), .d (.int .i64 l.d.upto), .map 4], .row 9 1 (strs l.recs) l.sh, .map (l.d.fs.map Fl.ent)]
def Lg.R1 (l : Lg) (s : List ByteArray) (ssh : Bool) (old : List ByteArray) (osh : Bool) : List AB := [.cells (.ptr 2 0 :: .arr 5 :: l.tail), .row 9 1 (strs s) ssh, .cells [.d (.int .i64 l.d.calls), .d (.bool l.d.off), .d (.int .i64 l.d.upto), .map 4], .row 9 1 (strs old) osh, .map (l.d.fs.map Fl.ent), .row 9 1 (strs l.recs) l.sh]
set_option maxHeartbeats 4000000 in
theorem reset_ok (l : Lg) (hd : l.d.dat.fine) (s : List ByteArray) (ssh : Bool) (hs : s.length ≤ 100000) : ACalls Try.prog 44 [.ptr 0 0, .arr 1] (l.R s ssh) (fun av L => ∃ l' : Lg, av = .d (.int .i64 (l.dat.reset s).1) ∧ L = (if (l.dat.reset s).1 = 0 then l'.R1 s ssh l.recs l.sh else l'.R s ssh) ∧ l'.dat = (l.dat.reset s).2) := by
  refine acalls_go ttOk zOk foOk Try.func44 rfl Try.ntmps44 rfl true rfl ?_
  conv => whnf
  refine scope_go ttOk zOk foOk (σ := Int × Lg) (fun p => ([(0, .ptr 0 0), (6, .d (.int .i64 p.1))], if p.1 = 0 then p.2.R1 s ssh l.recs l.sh else p.2.R s ssh))
    (fun k p => k = 0 ∧ p.1 = (l.dat.reset s).1 ∧ p.2.dat.did p.1 = (l.dat.reset s).2) (fun _ _ => 0) ?_ ?_
  · rintro k rest hl ⟨e, l'⟩ ⟨rfl, he, hl'⟩
    have ee := Option.some.inj (show some _ = some rest from hl)
    subst ee
    clear hl
    simp only at he hl' ⊢
    rw [← he, ← hl']
    by_cases h0 : e = 0
    · simp only [if_pos h0]
      conv => whnf
      repeat' (first | ((with_reducible apply rd_intro); (focus (intro K hK; (conv => whnf); first | exact hK | (intro z hz; rw [wrapI (by omega)] at hz; subst hz; exact hK))); (conv => whnf)) | ((with_reducible apply gd_and); (focus ((conv => whnf); first | rfl | (intro K hK; (conv => whnf); first | exact hK | (intro z hz; rw [wrapI (by omega)] at hz; subst hz; exact hK)))); (conv => whnf)) | ((with_reducible apply z_wrap); (focus omega); (conv => whnf)) | ((with_reducible refine mt_dec (fun _ => ?_) (fun _ => ?_)) <;> (conv => whnf)) | ((with_reducible refine mt_eq (fun _ => ?_) (fun _ => ?_)) <;> (conv => whnf)) | ((with_reducible refine mt_ne (fun _ => ?_) (fun _ => ?_)) <;> (conv => whnf)) | ((with_reducible refine mt_not (fun _ => ?_) (fun _ => ?_)) <;> (conv => whnf)) | ((with_reducible refine mt_any (fun _ => ?_) (fun _ => ?_)) <;> (conv => whnf)))
      refine (did_ok l' _).mono ?_
      rintro _ _ ⟨rfl, rfl⟩
      conv => whnf
      exact ⟨_, rfl, rfl, rfl⟩
    · simp only [if_neg h0]
      conv => whnf
      repeat' (first | ((with_reducible apply rd_intro); (focus (intro K hK; (conv => whnf); first | exact hK | (intro z hz; rw [wrapI (by omega)] at hz; subst hz; exact hK))); (conv => whnf)) | ((with_reducible apply gd_and); (focus ((conv => whnf); first | rfl | (intro K hK; (conv => whnf); first | exact hK | (intro z hz; rw [wrapI (by omega)] at hz; subst hz; exact hK)))); (conv => whnf)) | ((with_reducible apply z_wrap); (focus omega); (conv => whnf)) | ((with_reducible refine mt_dec (fun _ => ?_) (fun _ => ?_)) <;> (conv => whnf)) | ((with_reducible refine mt_eq (fun _ => ?_) (fun _ => ?_)) <;> (conv => whnf)) | ((with_reducible refine mt_ne (fun _ => ?_) (fun _ => ?_)) <;> (conv => whnf)) | ((with_reducible refine mt_not (fun _ => ?_) (fun _ => ?_)) <;> (conv => whnf)) | ((with_reducible refine mt_any (fun _ => ?_) (fun _ => ?_)) <;> (conv => whnf)))
      refine (did_ok l' _).mono ?_
      rintro _ _ ⟨rfl, rfl⟩
      conv => whnf
      exact ⟨_, rfl, rfl, rfl⟩
  · intro pass
    conv => whnf
    repeat' (first | ((with_reducible apply rd_intro); (focus (intro K hK; (conv => whnf); first | exact hK | (intro z hz; rw [wrapI (by omega)] at hz; subst hz; exact hK))); (conv => whnf)) | ((with_reducible apply gd_and); (focus ((conv => whnf); first | rfl | (intro K hK; (conv => whnf); first | exact hK | (intro z hz; rw [wrapI (by omega)] at hz; subst hz; exact hK)))); (conv => whnf)) | ((with_reducible apply z_wrap); (focus omega); (conv => whnf)) | ((with_reducible refine mt_dec (fun _ => ?_) (fun _ => ?_)) <;> (conv => whnf)) | ((with_reducible refine mt_eq (fun _ => ?_) (fun _ => ?_)) <;> (conv => whnf)) | ((with_reducible refine mt_ne (fun _ => ?_) (fun _ => ?_)) <;> (conv => whnf)) | ((with_reducible refine mt_not (fun _ => ?_) (fun _ => ?_)) <;> (conv => whnf)) | ((with_reducible refine mt_any (fun _ => ?_) (fun _ => ?_)) <;> (conv => whnf)))
    · rename_i h
      have h' : l.dat.dead = true := h
      rw [show l.dat.reset s = (9, l.dat) by simp [LD.reset, h']]
      exact ⟨l, rfl, rfl, rfl⟩
    rename_i h
    have h' : l.dat.dead = false := (by simpa using h : l.dead = false)
    (refine Or.inr ?_; (conv => whnf))
    refine (counted_ok s ssh (by omega)).mono ?_
    rintro _ _ ⟨rfl, rfl⟩
    conv => whnf
    repeat' (first | ((with_reducible apply rd_intro); (focus (intro K hK; (conv => whnf); first | exact hK | (intro z hz; rw [wrapI (by omega)] at hz; subst hz; exact hK))); (conv => whnf)) | ((with_reducible apply gd_and); (focus ((conv => whnf); first | rfl | (intro K hK; (conv => whnf); first | exact hK | (intro z hz; rw [wrapI (by omega)] at hz; subst hz; exact hK)))); (conv => whnf)) | ((with_reducible apply z_wrap); (focus omega); (conv => whnf)) | ((with_reducible refine mt_dec (fun _ => ?_) (fun _ => ?_)) <;> (conv => whnf)) | ((with_reducible refine mt_eq (fun _ => ?_) (fun _ => ?_)) <;> (conv => whnf)) | ((with_reducible refine mt_ne (fun _ => ?_) (fun _ => ?_)) <;> (conv => whnf)) | ((with_reducible refine mt_not (fun _ => ?_) (fun _ => ?_)) <;> (conv => whnf)) | ((with_reducible refine mt_any (fun _ => ?_) (fun _ => ?_)) <;> (conv => whnf)))
    · rename_i hc
      rw [show l.dat.reset s = ((counted s).2, l.dat) by simp [LD.reset, h', hc]]
      refine ⟨l, rfl, ?_, rfl⟩
      rw [if_neg hc]
      rfl
    rename_i hc
    have hc' : (counted s).2 = 0 := by simpa using hc
    refine (sweep_ok l hd.ok).mono ?_
    rintro _ _ ⟨l1, rfl, rfl, hl1, hsh⟩
    conv => whnf
    repeat' (first | ((with_reducible apply rd_intro); (focus (intro K hK; (conv => whnf); first | exact hK | (intro z hz; rw [wrapI (by omega)] at hz; subst hz; exact hK))); (conv => whnf)) | ((with_reducible apply gd_and); (focus ((conv => whnf); first | rfl | (intro K hK; (conv => whnf); first | exact hK | (intro z hz; rw [wrapI (by omega)] at hz; subst hz; exact hK)))); (conv => whnf)) | ((with_reducible apply z_wrap); (focus omega); (conv => whnf)) | ((with_reducible refine mt_dec (fun _ => ?_) (fun _ => ?_)) <;> (conv => whnf)) | ((with_reducible refine mt_eq (fun _ => ?_) (fun _ => ?_)) <;> (conv => whnf)) | ((with_reducible refine mt_ne (fun _ => ?_) (fun _ => ?_)) <;> (conv => whnf)) | ((with_reducible refine mt_not (fun _ => ?_) (fun _ => ?_)) <;> (conv => whnf)) | ((with_reducible refine mt_any (fun _ => ?_) (fun _ => ?_)) <;> (conv => whnf)))
    · rename_i h2
      refine into_of [0, 6] ?_
      conv => whnf
      refine ⟨(l.dat.sweep.1, l1), rfl, by simp only [if_neg h2]; rfl, rfl, by rw [res1 h' hc' h2], ?_⟩
      rw [res1 h' hc' h2, hl1]
    rename_i h2
    have h2' : l.dat.sweep.1 = 0 := by simpa using h2
    have hf1 : l1.d.dat.fine := by
      have : l1.d.dat = l1.dat.d := rfl
      rw [this, hl1]
      exact sweep_fine (l := l.dat) hd
    have hl1d : l1.d.dat = l.dat.sweep.2.d := by rw [← hl1]; rfl
    have hrecs : l1.recs = l.recs := by
      have : l1.recs = l1.dat.recs := rfl
      rw [this, hl1, sweep_recs]
      rfl
    have hsmall := counted_small hc'
    have hlay : (layL s).length ≤ 140737488355328 := by
      have := layL_length s (fun x hx => by have := hsmall x hx; omega)
      omega
    ((with_reducible refine draw_pl ttOk zOk foOk mixedOk pl44x8 ?_ ?_); (focus kernel_rfl); (conv => whnf))
    repeat' (first | ((with_reducible apply rd_intro); (focus (intro K hK; (conv => whnf); first | exact hK | (intro z hz; rw [wrapI (by omega)] at hz; subst hz; exact hK))); (conv => whnf)) | ((with_reducible apply gd_and); (focus ((conv => whnf); first | rfl | (intro K hK; (conv => whnf); first | exact hK | (intro z hz; rw [wrapI (by omega)] at hz; subst hz; exact hK)))); (conv => whnf)) | ((with_reducible apply z_wrap); (focus omega); (conv => whnf)) | ((with_reducible refine mt_dec (fun _ => ?_) (fun _ => ?_)) <;> (conv => whnf)) | ((with_reducible refine mt_eq (fun _ => ?_) (fun _ => ?_)) <;> (conv => whnf)) | ((with_reducible refine mt_ne (fun _ => ?_) (fun _ => ?_)) <;> (conv => whnf)) | ((with_reducible refine mt_not (fun _ => ?_) (fun _ => ?_)) <;> (conv => whnf)) | ((with_reducible refine mt_any (fun _ => ?_) (fun _ => ?_)) <;> (conv => whnf)))
    (refine Or.inr ?_; (conv => whnf))
    refine (lay_raw [] s ssh (by simp) hs (fun x hx => by have := hsmall x hx; omega)).mono ?_
    rintro _ _ (⟨hnil, rfl, rfl⟩ | ⟨_, rfl, rfl⟩)
    · rw [show u8s [] = u8s (layL s) by rw [hnil]; rfl]
      conv => whnf
      repeat' (first | ((with_reducible apply rd_intro); (focus (intro K hK; (conv => whnf); first | exact hK | (intro z hz; rw [wrapI (by omega)] at hz; subst hz; exact hK))); (conv => whnf)) | ((with_reducible apply gd_and); (focus ((conv => whnf); first | rfl | (intro K hK; (conv => whnf); first | exact hK | (intro z hz; rw [wrapI (by omega)] at hz; subst hz; exact hK)))); (conv => whnf)) | ((with_reducible apply z_wrap); (focus omega); (conv => whnf)) | ((with_reducible refine mt_dec (fun _ => ?_) (fun _ => ?_)) <;> (conv => whnf)) | ((with_reducible refine mt_eq (fun _ => ?_) (fun _ => ?_)) <;> (conv => whnf)) | ((with_reducible refine mt_ne (fun _ => ?_) (fun _ => ?_)) <;> (conv => whnf)) | ((with_reducible refine mt_not (fun _ => ?_) (fun _ => ?_)) <;> (conv => whnf)) | ((with_reducible refine mt_any (fun _ => ?_) (fun _ => ?_)) <;> (conv => whnf)))
      (refine Or.inl ?_; (conv => whnf))
      refine (append_ok l1.d hf1.ok freshN (layL s) hlay).mono ?_
      rintro _ _ ⟨d2, rfl, rfl, hd2⟩
      rw [hl1d] at hd2 ⊢
      conv => whnf
      repeat' (first | ((with_reducible apply rd_intro); (focus (intro K hK; (conv => whnf); first | exact hK | (intro z hz; rw [wrapI (by omega)] at hz; subst hz; exact hK))); (conv => whnf)) | ((with_reducible apply gd_and); (focus ((conv => whnf); first | rfl | (intro K hK; (conv => whnf); first | exact hK | (intro z hz; rw [wrapI (by omega)] at hz; subst hz; exact hK)))); (conv => whnf)) | ((with_reducible apply z_wrap); (focus omega); (conv => whnf)) | ((with_reducible refine mt_dec (fun _ => ?_) (fun _ => ?_)) <;> (conv => whnf)) | ((with_reducible refine mt_eq (fun _ => ?_) (fun _ => ?_)) <;> (conv => whnf)) | ((with_reducible refine mt_ne (fun _ => ?_) (fun _ => ?_)) <;> (conv => whnf)) | ((with_reducible refine mt_not (fun _ => ?_) (fun _ => ?_)) <;> (conv => whnf)) | ((with_reducible refine mt_any (fun _ => ?_) (fun _ => ?_)) <;> (conv => whnf)))
      · rename_i h3
        replace h3 : (l.dat.app1 s).1 ≠ 0 := h3
        refine into_of [0, 6] ?_
        conv => whnf
        refine ⟨((l.dat.app1 s).1, { l1 with d := d2 }), rfl, by simp only [if_neg h3]; rfl, rfl, by rw [res2 h' hc' h2' h3], ?_⟩
        rw [res2 h' hc' h2' h3, ← hl1]
        simp only [Lg.dat, hd2]
        rfl
      rename_i h3
      have h3' : (l.dat.app1 s).1 = 0 := (by simpa using h3 : (l.dat.sweep.2.d.append freshN (layL s)).1 = 0)
      refine (sync_ok d2 freshN).mono ?_
      rintro _ _ ⟨d3, rfl, rfl, hd3⟩
      rw [hd2] at hd3 ⊢
      conv => whnf
      repeat' (first | ((with_reducible apply rd_intro); (focus (intro K hK; (conv => whnf); first | exact hK | (intro z hz; rw [wrapI (by omega)] at hz; subst hz; exact hK))); (conv => whnf)) | ((with_reducible apply gd_and); (focus ((conv => whnf); first | rfl | (intro K hK; (conv => whnf); first | exact hK | (intro z hz; rw [wrapI (by omega)] at hz; subst hz; exact hK)))); (conv => whnf)) | ((with_reducible apply z_wrap); (focus omega); (conv => whnf)) | ((with_reducible refine mt_dec (fun _ => ?_) (fun _ => ?_)) <;> (conv => whnf)) | ((with_reducible refine mt_eq (fun _ => ?_) (fun _ => ?_)) <;> (conv => whnf)) | ((with_reducible refine mt_ne (fun _ => ?_) (fun _ => ?_)) <;> (conv => whnf)) | ((with_reducible refine mt_not (fun _ => ?_) (fun _ => ?_)) <;> (conv => whnf)) | ((with_reducible refine mt_any (fun _ => ?_) (fun _ => ?_)) <;> (conv => whnf)))
      · rename_i h4
        replace h4 : (l.dat.syn1 s).1 ≠ 0 := h4
        refine into_of [0, 6] ?_
        conv => whnf
        refine ⟨((l.dat.syn1 s).1, { l1 with d := d3 }), rfl, by simp only [if_neg h4]; rfl, rfl, by rw [res3 h' hc' h2' h3' h4], ?_⟩
        rw [res3 h' hc' h2' h3' h4, ← hl1]
        simp only [Lg.dat, hd3]
        rfl
      rename_i h4
      have h4' : (l.dat.syn1 s).1 = 0 := (by simpa using h4 : ((l.dat.sweep.2.d.append freshN (layL s)).2.sync freshN).1 = 0)
      refine (rename_ok d3 freshN logN).mono ?_
      rintro _ _ ⟨d4, rfl, rfl, hd4⟩
      rw [hd3] at hd4 ⊢
      conv => whnf
      repeat' (first | ((with_reducible apply rd_intro); (focus (intro K hK; (conv => whnf); first | exact hK | (intro z hz; rw [wrapI (by omega)] at hz; subst hz; exact hK))); (conv => whnf)) | ((with_reducible apply gd_and); (focus ((conv => whnf); first | rfl | (intro K hK; (conv => whnf); first | exact hK | (intro z hz; rw [wrapI (by omega)] at hz; subst hz; exact hK)))); (conv => whnf)) | ((with_reducible apply z_wrap); (focus omega); (conv => whnf)) | ((with_reducible refine mt_dec (fun _ => ?_) (fun _ => ?_)) <;> (conv => whnf)) | ((with_reducible refine mt_eq (fun _ => ?_) (fun _ => ?_)) <;> (conv => whnf)) | ((with_reducible refine mt_ne (fun _ => ?_) (fun _ => ?_)) <;> (conv => whnf)) | ((with_reducible refine mt_not (fun _ => ?_) (fun _ => ?_)) <;> (conv => whnf)) | ((with_reducible refine mt_any (fun _ => ?_) (fun _ => ?_)) <;> (conv => whnf)))
      · rename_i h5
        have h5' : (l.dat.ren1 s).1 = 0 := h5
        (refine Or.inr ?_; (conv => whnf))
        refine (cloneS_row s ssh (by omega)).mono ?_
        rintro _ _ ⟨rfl, rfl⟩
        conv => whnf
        repeat' (first | ((with_reducible apply rd_intro); (focus (intro K hK; (conv => whnf); first | exact hK | (intro z hz; rw [wrapI (by omega)] at hz; subst hz; exact hK))); (conv => whnf)) | ((with_reducible apply gd_and); (focus ((conv => whnf); first | rfl | (intro K hK; (conv => whnf); first | exact hK | (intro z hz; rw [wrapI (by omega)] at hz; subst hz; exact hK)))); (conv => whnf)) | ((with_reducible apply z_wrap); (focus omega); (conv => whnf)) | ((with_reducible refine mt_dec (fun _ => ?_) (fun _ => ?_)) <;> (conv => whnf)) | ((with_reducible refine mt_eq (fun _ => ?_) (fun _ => ?_)) <;> (conv => whnf)) | ((with_reducible refine mt_ne (fun _ => ?_) (fun _ => ?_)) <;> (conv => whnf)) | ((with_reducible refine mt_not (fun _ => ?_) (fun _ => ?_)) <;> (conv => whnf)) | ((with_reducible refine mt_any (fun _ => ?_) (fun _ => ?_)) <;> (conv => whnf)))
        refine aw_at (σ := Unit) (fun _ => ([(0, .ptr 0 0), (6, .d (.int .i64 (l.dat.ren1 s).1))], Lg.R1 { l1 with d := d4, recs := s, sh := false, size := (counted s).1, file := true } s ssh l.recs l.sh)) (fun _ => True) [0, 6] ?_ ?_
        · conv => whnf
          refine ⟨(), rfl, ?_, trivial⟩
          rw [← hsh, ← hrecs]
          rfl
        · intro _ _
          have := pass 0 _ rfl ((l.dat.ren1 s).1, { l1 with d := d4, recs := s, sh := false, size := (counted s).1, file := true }) ⟨rfl, by rw [res5 h' hc' h2' h3' h4' h5', h5'], by
            rw [res5 h' hc' h2' h3' h4' h5', ← hl1, h5']
            simp only [Lg.dat, hd4]
            rfl⟩
          simp only [if_pos h5'] at this
          exact this
      · rename_i h5
        have h5' : (l.dat.ren1 s).1 ≠ 0 := h5
        refine aw_at (σ := Unit) (fun _ => ([(0, .ptr 0 0), (6, .d (.int .i64 (l.dat.ren1 s).1))], Lg.R { l1 with d := d4 } s ssh)) (fun _ => True) [0, 6] ?_ ?_
        · conv => whnf
          exact ⟨(), rfl, rfl, trivial⟩
        · intro _ _
          have := pass 0 _ rfl ((l.dat.ren1 s).1, { l1 with d := d4 }) ⟨rfl, by rw [res4 h' hc' h2' h3' h4' h5'], by
            rw [res4 h' hc' h2' h3' h4' h5', ← hl1]
            simp only [Lg.dat, hd4]
            rfl⟩
          simp only [if_neg h5'] at this
          exact this
    · rw [List.nil_append]
      conv => whnf
      repeat' (first | ((with_reducible apply rd_intro); (focus (intro K hK; (conv => whnf); first | exact hK | (intro z hz; rw [wrapI (by omega)] at hz; subst hz; exact hK))); (conv => whnf)) | ((with_reducible apply gd_and); (focus ((conv => whnf); first | rfl | (intro K hK; (conv => whnf); first | exact hK | (intro z hz; rw [wrapI (by omega)] at hz; subst hz; exact hK)))); (conv => whnf)) | ((with_reducible apply z_wrap); (focus omega); (conv => whnf)) | ((with_reducible refine mt_dec (fun _ => ?_) (fun _ => ?_)) <;> (conv => whnf)) | ((with_reducible refine mt_eq (fun _ => ?_) (fun _ => ?_)) <;> (conv => whnf)) | ((with_reducible refine mt_ne (fun _ => ?_) (fun _ => ?_)) <;> (conv => whnf)) | ((with_reducible refine mt_not (fun _ => ?_) (fun _ => ?_)) <;> (conv => whnf)) | ((with_reducible refine mt_any (fun _ => ?_) (fun _ => ?_)) <;> (conv => whnf)))
      (refine Or.inl ?_; (conv => whnf))
      refine (append_ok l1.d hf1.ok freshN (layL s) hlay).mono ?_
      rintro _ _ ⟨d2, rfl, rfl, hd2⟩
      rw [hl1d] at hd2 ⊢
      conv => whnf
      repeat' (first | ((with_reducible apply rd_intro); (focus (intro K hK; (conv => whnf); first | exact hK | (intro z hz; rw [wrapI (by omega)] at hz; subst hz; exact hK))); (conv => whnf)) | ((with_reducible apply gd_and); (focus ((conv => whnf); first | rfl | (intro K hK; (conv => whnf); first | exact hK | (intro z hz; rw [wrapI (by omega)] at hz; subst hz; exact hK)))); (conv => whnf)) | ((with_reducible apply z_wrap); (focus omega); (conv => whnf)) | ((with_reducible refine mt_dec (fun _ => ?_) (fun _ => ?_)) <;> (conv => whnf)) | ((with_reducible refine mt_eq (fun _ => ?_) (fun _ => ?_)) <;> (conv => whnf)) | ((with_reducible refine mt_ne (fun _ => ?_) (fun _ => ?_)) <;> (conv => whnf)) | ((with_reducible refine mt_not (fun _ => ?_) (fun _ => ?_)) <;> (conv => whnf)) | ((with_reducible refine mt_any (fun _ => ?_) (fun _ => ?_)) <;> (conv => whnf)))
      · rename_i h3
        replace h3 : (l.dat.app1 s).1 ≠ 0 := h3
        refine into_of [0, 6] ?_
        conv => whnf
        refine ⟨((l.dat.app1 s).1, { l1 with d := d2 }), rfl, by simp only [if_neg h3]; rfl, rfl, by rw [res2 h' hc' h2' h3], ?_⟩
        rw [res2 h' hc' h2' h3, ← hl1]
        simp only [Lg.dat, hd2]
        rfl
      rename_i h3
      have h3' : (l.dat.app1 s).1 = 0 := (by simpa using h3 : (l.dat.sweep.2.d.append freshN (layL s)).1 = 0)
      refine (sync_ok d2 freshN).mono ?_
      rintro _ _ ⟨d3, rfl, rfl, hd3⟩
      rw [hd2] at hd3 ⊢
      conv => whnf
      repeat' (first | ((with_reducible apply rd_intro); (focus (intro K hK; (conv => whnf); first | exact hK | (intro z hz; rw [wrapI (by omega)] at hz; subst hz; exact hK))); (conv => whnf)) | ((with_reducible apply gd_and); (focus ((conv => whnf); first | rfl | (intro K hK; (conv => whnf); first | exact hK | (intro z hz; rw [wrapI (by omega)] at hz; subst hz; exact hK)))); (conv => whnf)) | ((with_reducible apply z_wrap); (focus omega); (conv => whnf)) | ((with_reducible refine mt_dec (fun _ => ?_) (fun _ => ?_)) <;> (conv => whnf)) | ((with_reducible refine mt_eq (fun _ => ?_) (fun _ => ?_)) <;> (conv => whnf)) | ((with_reducible refine mt_ne (fun _ => ?_) (fun _ => ?_)) <;> (conv => whnf)) | ((with_reducible refine mt_not (fun _ => ?_) (fun _ => ?_)) <;> (conv => whnf)) | ((with_reducible refine mt_any (fun _ => ?_) (fun _ => ?_)) <;> (conv => whnf)))
      · rename_i h4
        replace h4 : (l.dat.syn1 s).1 ≠ 0 := h4
        refine into_of [0, 6] ?_
        conv => whnf
        refine ⟨((l.dat.syn1 s).1, { l1 with d := d3 }), rfl, by simp only [if_neg h4]; rfl, rfl, by rw [res3 h' hc' h2' h3' h4], ?_⟩
        rw [res3 h' hc' h2' h3' h4, ← hl1]
        simp only [Lg.dat, hd3]
        rfl
      rename_i h4
      have h4' : (l.dat.syn1 s).1 = 0 := (by simpa using h4 : ((l.dat.sweep.2.d.append freshN (layL s)).2.sync freshN).1 = 0)
      refine (rename_ok d3 freshN logN).mono ?_
      rintro _ _ ⟨d4, rfl, rfl, hd4⟩
      rw [hd3] at hd4 ⊢
      conv => whnf
      repeat' (first | ((with_reducible apply rd_intro); (focus (intro K hK; (conv => whnf); first | exact hK | (intro z hz; rw [wrapI (by omega)] at hz; subst hz; exact hK))); (conv => whnf)) | ((with_reducible apply gd_and); (focus ((conv => whnf); first | rfl | (intro K hK; (conv => whnf); first | exact hK | (intro z hz; rw [wrapI (by omega)] at hz; subst hz; exact hK)))); (conv => whnf)) | ((with_reducible apply z_wrap); (focus omega); (conv => whnf)) | ((with_reducible refine mt_dec (fun _ => ?_) (fun _ => ?_)) <;> (conv => whnf)) | ((with_reducible refine mt_eq (fun _ => ?_) (fun _ => ?_)) <;> (conv => whnf)) | ((with_reducible refine mt_ne (fun _ => ?_) (fun _ => ?_)) <;> (conv => whnf)) | ((with_reducible refine mt_not (fun _ => ?_) (fun _ => ?_)) <;> (conv => whnf)) | ((with_reducible refine mt_any (fun _ => ?_) (fun _ => ?_)) <;> (conv => whnf)))
      · rename_i h5
        have h5' : (l.dat.ren1 s).1 = 0 := h5
        (refine Or.inr ?_; (conv => whnf))
        refine (cloneS_row s ssh (by omega)).mono ?_
        rintro _ _ ⟨rfl, rfl⟩
        conv => whnf
        repeat' (first | ((with_reducible apply rd_intro); (focus (intro K hK; (conv => whnf); first | exact hK | (intro z hz; rw [wrapI (by omega)] at hz; subst hz; exact hK))); (conv => whnf)) | ((with_reducible apply gd_and); (focus ((conv => whnf); first | rfl | (intro K hK; (conv => whnf); first | exact hK | (intro z hz; rw [wrapI (by omega)] at hz; subst hz; exact hK)))); (conv => whnf)) | ((with_reducible apply z_wrap); (focus omega); (conv => whnf)) | ((with_reducible refine mt_dec (fun _ => ?_) (fun _ => ?_)) <;> (conv => whnf)) | ((with_reducible refine mt_eq (fun _ => ?_) (fun _ => ?_)) <;> (conv => whnf)) | ((with_reducible refine mt_ne (fun _ => ?_) (fun _ => ?_)) <;> (conv => whnf)) | ((with_reducible refine mt_not (fun _ => ?_) (fun _ => ?_)) <;> (conv => whnf)) | ((with_reducible refine mt_any (fun _ => ?_) (fun _ => ?_)) <;> (conv => whnf)))
        refine aw_at (σ := Unit) (fun _ => ([(0, .ptr 0 0), (6, .d (.int .i64 (l.dat.ren1 s).1))], Lg.R1 { l1 with d := d4, recs := s, sh := false, size := (counted s).1, file := true } s ssh l.recs l.sh)) (fun _ => True) [0, 6] ?_ ?_
        · conv => whnf
          refine ⟨(), rfl, ?_, trivial⟩
          rw [← hsh, ← hrecs]
          rfl
        · intro _ _
          have := pass 0 _ rfl ((l.dat.ren1 s).1, { l1 with d := d4, recs := s, sh := false, size := (counted s).1, file := true }) ⟨rfl, by rw [res5 h' hc' h2' h3' h4' h5', h5'], by
            rw [res5 h' hc' h2' h3' h4' h5', ← hl1, h5']
            simp only [Lg.dat, hd4]
            rfl⟩
          simp only [if_pos h5'] at this
          exact this
      · rename_i h5
        have h5' : (l.dat.ren1 s).1 ≠ 0 := h5
        refine aw_at (σ := Unit) (fun _ => ([(0, .ptr 0 0), (6, .d (.int .i64 (l.dat.ren1 s).1))], Lg.R { l1 with d := d4 } s ssh)) (fun _ => True) [0, 6] ?_ ?_
        · conv => whnf
          exact ⟨(), rfl, rfl, trivial⟩
        · intro _ _
          have := pass 0 _ rfl ((l.dat.ren1 s).1, { l1 with d := d4 }) ⟨rfl, by rw [res4 h' hc' h2' h3' h4' h5'], by
            rw [res4 h' hc' h2' h3' h4' h5', ← hl1]
            simp only [Lg.dat, hd4]
            rfl⟩
          simp only [if_neg h5'] at this
          exact this
end Go.Proofs.Ytpedbknmkgcldaa

namespace Go.Proofs.Ytpedbknmkgcldaa
open Go.Ab Go.RowKit Go.MapKept
attribute [local irreducible] ACalls AW ADraw Into
set_option maxRecDepth 100000
set_option maxHeartbeats 4000000 in
theorem lappend_ok (l : Lg) (hd : l.d.dat.ok) (hz : 0 ≤ l.size ∧ l.size ≤ 524288) (hl : l.recs.length ≤ 100000) (s : ByteArray) (hs : s.size ≤ 100000000) : ACalls Try.prog 42 [.ptr 0 0, .d (.str s)] l.L (fun av L => ∃ l' : Lg, av = .d (.int .i64 (l.dat.append s).1) ∧ L = (if (l.dat.append s).1 = 0 then l'.L1 else l'.L) ∧ l'.dat = (l.dat.append s).2) := by
  refine acalls_go ttOk zOk foOk Try.func42 rfl Try.ntmps42 rfl false rfl ?_
  conv => whnf
  repeat' (first | ((with_reducible apply rd_intro); (focus (intro K hK; (conv => whnf); first | exact hK | (intro z hz; rw [wrapI (by omega)] at hz; subst hz; exact hK))); (conv => whnf)) | ((with_reducible apply gd_and); (focus ((conv => whnf); first | rfl | (intro K hK; (conv => whnf); first | exact hK | (intro z hz; rw [wrapI (by omega)] at hz; subst hz; exact hK)))); (conv => whnf)) | ((with_reducible apply z_wrap); (focus omega); (conv => whnf)) | ((with_reducible refine mt_dec (fun _ => ?_) (fun _ => ?_)) <;> (conv => whnf)) | ((with_reducible refine mt_eq (fun _ => ?_) (fun _ => ?_)) <;> (conv => whnf)) | ((with_reducible refine mt_ne (fun _ => ?_) (fun _ => ?_)) <;> (conv => whnf)) | ((with_reducible refine mt_not (fun _ => ?_) (fun _ => ?_)) <;> (conv => whnf)) | ((with_reducible refine mt_any (fun _ => ?_) (fun _ => ?_)) <;> (conv => whnf)))
  · rename_i h
    rw [lapp_dead (l := l.dat) (by simpa [Lg.dat] using h)]
    exact ⟨l, rfl, rfl, rfl⟩
  · rename_i h h1
    rw [lapp_long (l := l.dat) (by simpa [Lg.dat] using h) (by omega)]
    exact ⟨l, rfl, rfl, rfl⟩
  · rename_i h h1 h2
    rw [lapp_full (l := l.dat) (by simpa [Lg.dat] using h) (by omega) (by simpa [Lg.dat] using h2)]
    exact ⟨l, rfl, rfl, rfl⟩
  · rename_i h h1 h2
    ((with_reducible refine draw_pl ttOk zOk foOk mixedOk pl42x7 ?_ ?_); (focus kernel_rfl); (conv => whnf))
    repeat' (first | ((with_reducible apply rd_intro); (focus (intro K hK; (conv => whnf); first | exact hK | (intro z hz; rw [wrapI (by omega)] at hz; subst hz; exact hK))); (conv => whnf)) | ((with_reducible apply gd_and); (focus ((conv => whnf); first | rfl | (intro K hK; (conv => whnf); first | exact hK | (intro z hz; rw [wrapI (by omega)] at hz; subst hz; exact hK)))); (conv => whnf)) | ((with_reducible apply z_wrap); (focus omega); (conv => whnf)) | ((with_reducible refine mt_dec (fun _ => ?_) (fun _ => ?_)) <;> (conv => whnf)) | ((with_reducible refine mt_eq (fun _ => ?_) (fun _ => ?_)) <;> (conv => whnf)) | ((with_reducible refine mt_ne (fun _ => ?_) (fun _ => ?_)) <;> (conv => whnf)) | ((with_reducible refine mt_not (fun _ => ?_) (fun _ => ?_)) <;> (conv => whnf)) | ((with_reducible refine mt_any (fun _ => ?_) (fun _ => ?_)) <;> (conv => whnf)))
    (refine Or.inr ?_; (conv => whnf))
    refine (lay_raw [] [s] false (by simp) (by simp) (by simp; omega)).mono ?_
    rintro _ _ (⟨h, _⟩ | ⟨_, rfl, rfl⟩)
    · cases h
    rw [show ([] : List UInt8) ++ layL [s] = frameL s by simp [layL]]
    conv => whnf
    repeat' (first | ((with_reducible apply rd_intro); (focus (intro K hK; (conv => whnf); first | exact hK | (intro z hz; rw [wrapI (by omega)] at hz; subst hz; exact hK))); (conv => whnf)) | ((with_reducible apply gd_and); (focus ((conv => whnf); first | rfl | (intro K hK; (conv => whnf); first | exact hK | (intro z hz; rw [wrapI (by omega)] at hz; subst hz; exact hK)))); (conv => whnf)) | ((with_reducible apply z_wrap); (focus omega); (conv => whnf)) | ((with_reducible refine mt_dec (fun _ => ?_) (fun _ => ?_)) <;> (conv => whnf)) | ((with_reducible refine mt_eq (fun _ => ?_) (fun _ => ?_)) <;> (conv => whnf)) | ((with_reducible refine mt_ne (fun _ => ?_) (fun _ => ?_)) <;> (conv => whnf)) | ((with_reducible refine mt_not (fun _ => ?_) (fun _ => ?_)) <;> (conv => whnf)) | ((with_reducible refine mt_any (fun _ => ?_) (fun _ => ?_)) <;> (conv => whnf)))
    (refine Or.inl ?_; (conv => whnf))
    refine (append_ok l.d hd logN (frameL s) (by have : s.data.toList.length = s.size := by simp
                                                 simp [frameL, fourL, this]; omega)).mono ?_
    rintro _ _ ⟨d', rfl, rfl, hd'⟩
    conv => whnf
    repeat' (first | ((with_reducible apply rd_intro); (focus (intro K hK; (conv => whnf); first | exact hK | (intro z hz; rw [wrapI (by omega)] at hz; subst hz; exact hK))); (conv => whnf)) | ((with_reducible apply gd_and); (focus ((conv => whnf); first | rfl | (intro K hK; (conv => whnf); first | exact hK | (intro z hz; rw [wrapI (by omega)] at hz; subst hz; exact hK)))); (conv => whnf)) | ((with_reducible apply z_wrap); (focus omega); (conv => whnf)) | ((with_reducible refine mt_dec (fun _ => ?_) (fun _ => ?_)) <;> (conv => whnf)) | ((with_reducible refine mt_eq (fun _ => ?_) (fun _ => ?_)) <;> (conv => whnf)) | ((with_reducible refine mt_ne (fun _ => ?_) (fun _ => ?_)) <;> (conv => whnf)) | ((with_reducible refine mt_not (fun _ => ?_) (fun _ => ?_)) <;> (conv => whnf)) | ((with_reducible refine mt_any (fun _ => ?_) (fun _ => ?_)) <;> (conv => whnf)))
    refine (did_ok { l with d := d' } _).mono ?_
    rintro _ _ ⟨rfl, rfl⟩
    conv => whnf
    repeat' (first | ((with_reducible apply rd_intro); (focus (intro K hK; (conv => whnf); first | exact hK | (intro z hz; rw [wrapI (by omega)] at hz; subst hz; exact hK))); (conv => whnf)) | ((with_reducible apply gd_and); (focus ((conv => whnf); first | rfl | (intro K hK; (conv => whnf); first | exact hK | (intro z hz; rw [wrapI (by omega)] at hz; subst hz; exact hK)))); (conv => whnf)) | ((with_reducible apply z_wrap); (focus omega); (conv => whnf)) | ((with_reducible refine mt_dec (fun _ => ?_) (fun _ => ?_)) <;> (conv => whnf)) | ((with_reducible refine mt_eq (fun _ => ?_) (fun _ => ?_)) <;> (conv => whnf)) | ((with_reducible refine mt_ne (fun _ => ?_) (fun _ => ?_)) <;> (conv => whnf)) | ((with_reducible refine mt_not (fun _ => ?_) (fun _ => ?_)) <;> (conv => whnf)) | ((with_reducible refine mt_any (fun _ => ?_) (fun _ => ?_)) <;> (conv => whnf)))
    · rename_i h3
      have hl3 : (l.dat.d.append logN (frameL s)).1 ≠ 0 := h3
      rw [lapp_err (l := l.dat) (by simpa [Lg.dat] using h) (by omega) (by simpa [Lg.dat] using h2) hl3]
      refine ⟨{ l with d := d', dead := true }, rfl, ?_, ?_⟩
      · rw [if_neg hl3]
        simp [Lg.L, Lg.tail, h, h3]
      · simp only [Lg.dat, hd']
    · rename_i h3
      have hl3' : (l.d.dat.append logN (frameL s)).1 = 0 := by simpa using h3
      have hl3 : (l.dat.d.append logN (frameL s)).1 = 0 := hl3'
      rw [lapp_ok (l := l.dat) (by simpa [Lg.dat] using h) (by omega) (by simpa [Lg.dat] using h2) hl3]
      simp only [hl3', h]
      ((with_reducible refine draw_pl ttOk zOk foOk mixedOk pl42x10 ?_ ?_); (focus kernel_rfl); (conv => whnf))
      repeat' (first | ((with_reducible apply rd_intro); (focus (intro K hK; (conv => whnf); first | exact hK | (intro z hz; rw [wrapI (by omega)] at hz; subst hz; exact hK))); (conv => whnf)) | ((with_reducible apply gd_and); (focus ((conv => whnf); first | rfl | (intro K hK; (conv => whnf); first | exact hK | (intro z hz; rw [wrapI (by omega)] at hz; subst hz; exact hK)))); (conv => whnf)) | ((with_reducible apply z_wrap); (focus omega); (conv => whnf)) | ((with_reducible refine mt_dec (fun _ => ?_) (fun _ => ?_)) <;> (conv => whnf)) | ((with_reducible refine mt_eq (fun _ => ?_) (fun _ => ?_)) <;> (conv => whnf)) | ((with_reducible refine mt_ne (fun _ => ?_) (fun _ => ?_)) <;> (conv => whnf)) | ((with_reducible refine mt_not (fun _ => ?_) (fun _ => ?_)) <;> (conv => whnf)) | ((with_reducible refine mt_any (fun _ => ?_) (fun _ => ?_)) <;> (conv => whnf)))
      refine ⟨by rw [strs_length]; (show (_ + 1) * 16 ≤ _); omega, ?_⟩
      conv => whnf
      repeat' (first | ((with_reducible apply rd_intro); (focus (intro K hK; (conv => whnf); first | exact hK | (intro z hz; rw [wrapI (by omega)] at hz; subst hz; exact hK))); (conv => whnf)) | ((with_reducible apply gd_and); (focus ((conv => whnf); first | rfl | (intro K hK; (conv => whnf); first | exact hK | (intro z hz; rw [wrapI (by omega)] at hz; subst hz; exact hK)))); (conv => whnf)) | ((with_reducible apply z_wrap); (focus omega); (conv => whnf)) | ((with_reducible refine mt_dec (fun _ => ?_) (fun _ => ?_)) <;> (conv => whnf)) | ((with_reducible refine mt_eq (fun _ => ?_) (fun _ => ?_)) <;> (conv => whnf)) | ((with_reducible refine mt_ne (fun _ => ?_) (fun _ => ?_)) <;> (conv => whnf)) | ((with_reducible refine mt_not (fun _ => ?_) (fun _ => ?_)) <;> (conv => whnf)) | ((with_reducible refine mt_any (fun _ => ?_) (fun _ => ?_)) <;> (conv => whnf)))
      rw [strs_app]
      refine ⟨⟨d', l.recs ++ [s], l.sh, l.size + s.size + 16, true, false⟩, rfl, ?_, ?_⟩
      · rw [if_pos trivial]
        rfl
      · simp only [Lg.dat, hd', h]
end Go.Proofs.Ytpedbknmkgcldaa

/-
  DERIVED: THE SHELF's CONTRACTS AT THIS DUMP, IN PLAIN WORDS (tools/lay-plain.mjs out of 'TrySortedShelf.lean', which tools/lay-shelf.mjs wrote): THE SAME DECLARATIONS UNDER THE SAME NAMES: 'import', 'namespace', 'open', 'def', 'theorem' AND NOTHING ELSE: no command of the shelf's: FOR A HAND-IN. Each laying: the table of numbers ('.._ren') and one theorem, a field a fact of the dump's own or the kernel's comparison; each contract: ONE APPLICATION.
-/
namespace Go.Proofs
open Go.Shelf
def Try.keys70_ren : Go.Shelf.Ren := ⟨fun | 7 => 70 | 10 => 105 | n => n, fun | 23 => 58 | 26 => 9 | 3 => 105 | 28 => 112 | 0 => 0 | 27 => 111 | 33 => 38 | 4 => 4 | n => n, fun | n => n⟩
theorem Try.keys70 : Go.Proofs.SlLaysZ.n7 Try.prog Try.keys70_ren := {
  mixed := by kernel_rfl
  f7 := ⟨Try.f70.name, by decide, Try.func70.trans (congrArg some (by kernel_rfl))⟩
  f10 := ⟨Try.f105.name, by decide, Try.func105.trans (congrArg some (by kernel_rfl))⟩
  t0 := Try.underlying0
  a0 := Try.isAgg0
  z0 := Try.sizeOf0
  v0 := Try.zeroValue0
  t4 := Try.underlying4
  a4 := Try.isAgg4
  z4 := Try.sizeOf4
  v4 := Try.zeroValue4
  t23 := Try.underlying58
  a23 := Try.isAgg58
  z23 := Try.sizeOf58
  v23 := Try.zeroValue58
  t26 := Try.underlying9
  a26 := Try.isAgg9
  z26 := Try.sizeOf9
  v26 := Try.zeroValue9
  t27 := Try.underlying111
  a27 := Try.isAgg111
  z27 := Try.sizeOf111
  v27 := Try.zeroValue111
  t28 := Try.underlying112
  a28 := Try.isAgg112
  z28 := Try.sizeOf112
  v28 := Try.zeroValue112
  t33 := Try.underlying38
  a33 := Try.isAgg38
  z33 := Try.sizeOf38
  v33 := Try.zeroValue38 }
def Try.sorted69_ren : Go.Shelf.Ren := ⟨fun | 6 => 69 | 8 => 103 | 9 => 104 | 11 => 120 | 13 => 122 | 12 => 121 | 23 => 133 | 24 => 134 | 14 => 124 | 15 => 125 | 16 => 126 | 17 => 127 | 18 => 128 | 19 => 129 | 20 => 130 | 21 => 131 | 22 => 132 | 25 => 135 | 26 => 136 | 27 => 137 | 28 => 138 | 29 => 139 | 30 => 140 | 31 => 141 | n => n, fun | 26 => 9 | 28 => 112 | 24 => 46 | 0 => 0 | 3 => 3 | 37 => 118 | 48 => 158 | 50 => 176 | 4 => 4 | 40 => 168 | 39 => 167 | 45 => 102 | 5 => 5 | 9 => 9 | 51 => 177 | 55 => 181 | 57 => 183 | 58 => 114 | 33 => 38 | n => n, fun | n => n⟩
theorem Try.sorted69 : Go.Proofs.SlLaysZ.n6 Try.prog Try.sorted69_ren := {
  mixed := by kernel_rfl
  f6 := ⟨Try.f69.name, by decide, Try.func69.trans (congrArg some (by kernel_rfl))⟩
  f8 := ⟨Try.f103.name, by decide, Try.func103.trans (congrArg some (by kernel_rfl))⟩
  f11 := ⟨Try.f120.name, by decide, Try.func120.trans (congrArg some (by kernel_rfl))⟩
  t0 := Try.underlying0
  a0 := Try.isAgg0
  z0 := Try.sizeOf0
  v0 := Try.zeroValue0
  t24 := Try.underlying46
  a24 := Try.isAgg46
  z24 := Try.sizeOf46
  v24 := Try.zeroValue46
  t26 := Try.underlying9
  a26 := Try.isAgg9
  z26 := Try.sizeOf9
  v26 := Try.zeroValue9
  t28 := Try.underlying112
  a28 := Try.isAgg112
  z28 := Try.sizeOf112
  v28 := Try.zeroValue112
  i26 := by kernel_rfl }
def Try.sort104_ren : Go.Shelf.Ren := ⟨fun | 6 => 104 | 8 => 122 | 9 => 121 | 19 => 133 | 20 => 134 | 21 => 124 | 22 => 125 | 23 => 126 | 24 => 127 | 25 => 128 | 26 => 129 | 27 => 130 | 28 => 131 | 29 => 132 | 36 => 135 | 31 => 136 | 32 => 137 | 37 => 138 | 38 => 139 | 39 => 140 | 41 => 141 | n => n, fun | 27 => 46 | 29 => 9 | 3 => 3 | 32 => 118 | 26 => 46 | 0 => 0 | 44 => 158 | 46 => 176 | 4 => 4 | 36 => 168 | 35 => 167 | 41 => 102 | 5 => 5 | 9 => 9 | 53 => 177 | 57 => 181 | 63 => 183 | 64 => 114 | n => n, fun | n => n⟩
theorem Try.sort104 : Go.Proofs.SlLaysM.n6 Try.prog Try.sort104_ren := {
  mixed := by kernel_rfl
  f6 := ⟨Try.f104.name, by decide, Try.func104.trans (congrArg some (by kernel_rfl))⟩
  f8 := Try.func122.trans (congrArg some (by kernel_rfl))
  f9 := ⟨Try.f121.name, by decide, Try.func121.trans (congrArg some (by kernel_rfl))⟩
  f19 := Try.func133.trans (congrArg some (by kernel_rfl))
  f20 := Try.func134.trans (congrArg some (by kernel_rfl))
  f21 := ⟨Try.f124.name, by decide, Try.func124.trans (congrArg some (by kernel_rfl))⟩
  f22 := ⟨Try.f125.name, by decide, Try.func125.trans (congrArg some (by kernel_rfl))⟩
  f23 := ⟨Try.f126.name, by decide, Try.func126.trans (congrArg some (by kernel_rfl))⟩
  f24 := ⟨Try.f127.name, by decide, Try.func127.trans (congrArg some (by kernel_rfl))⟩
  f25 := ⟨Try.f128.name, by decide, Try.func128.trans (congrArg some (by kernel_rfl))⟩
  f26 := ⟨Try.f129.name, by decide, Try.func129.trans (congrArg some (by kernel_rfl))⟩
  f27 := ⟨Try.f130.name, by decide, Try.func130.trans (congrArg some (by kernel_rfl))⟩
  f28 := ⟨Try.f131.name, by decide, Try.func131.trans (congrArg some (by kernel_rfl))⟩
  f29 := ⟨Try.f132.name, by decide, Try.func132.trans (congrArg some (by kernel_rfl))⟩
  f31 := Try.func136.trans (congrArg some (by kernel_rfl))
  f32 := Try.func137.trans (congrArg some (by kernel_rfl))
  f36 := ⟨Try.f135.name, by decide, Try.func135.trans (congrArg some (by kernel_rfl))⟩
  f37 := ⟨Try.f138.name, by decide, Try.func138.trans (congrArg some (by kernel_rfl))⟩
  f38 := ⟨Try.f139.name, by decide, Try.func139.trans (congrArg some (by kernel_rfl))⟩
  f39 := ⟨Try.f140.name, by decide, Try.func140.trans (congrArg some (by kernel_rfl))⟩
  f41 := ⟨Try.f141.name, by decide, Try.func141.trans (congrArg some (by kernel_rfl))⟩
  t0 := Try.underlying0
  a0 := Try.isAgg0
  z0 := Try.sizeOf0
  v0 := Try.zeroValue0
  t3 := Try.underlying3
  a3 := Try.isAgg3
  z3 := Try.sizeOf3
  v3 := Try.zeroValue3
  t4 := Try.underlying4
  a4 := Try.isAgg4
  z4 := Try.sizeOf4
  v4 := Try.zeroValue4
  t5 := Try.underlying5
  a5 := Try.isAgg5
  z5 := Try.sizeOf5
  v5 := Try.zeroValue5
  t9 := Try.underlying9
  a9 := Try.isAgg9
  z9 := Try.sizeOf9
  v9 := Try.zeroValue9
  t26 := Try.underlying46
  a26 := Try.isAgg46
  z26 := Try.sizeOf46
  v26 := Try.zeroValue46
  t27 := Try.underlying46
  a27 := Try.isAgg46
  z27 := Try.sizeOf46
  v27 := Try.zeroValue46
  t29 := Try.underlying9
  a29 := Try.isAgg9
  z29 := Try.sizeOf9
  v29 := Try.zeroValue9
  t32 := Try.underlying118
  a32 := Try.isAgg118
  z32 := Try.sizeOf118
  v32 := Try.zeroValue118
  t35 := Try.underlying167
  a35 := Try.isAgg167
  z35 := Try.sizeOf167
  v35 := Try.zeroValue167
  t36 := Try.underlying168
  a36 := Try.isAgg168
  z36 := Try.sizeOf168
  v36 := Try.zeroValue168
  t41 := Try.underlying102
  a41 := Try.isAgg102
  z41 := Try.sizeOf102
  v41 := Try.zeroValue102
  t44 := Try.underlying158
  a44 := Try.isAgg158
  z44 := Try.sizeOf158
  v44 := Try.zeroValue158
  t46 := Try.underlying176
  a46 := Try.isAgg176
  z46 := Try.sizeOf176
  v46 := Try.zeroValue176
  t53 := Try.underlying177
  a53 := Try.isAgg177
  z53 := Try.sizeOf177
  v53 := Try.zeroValue177
  t57 := Try.underlying181
  a57 := Try.isAgg181
  z57 := Try.sizeOf181
  v57 := Try.zeroValue181
  t63 := Try.underlying183
  a63 := Try.isAgg183
  z63 := Try.sizeOf183
  v63 := Try.zeroValue183
  t64 := Try.underlying114
  a64 := Try.isAgg114
  z64 := Try.sizeOf114
  v64 := Try.zeroValue114 }
def Try.keys99_ren : Go.Shelf.Ren := ⟨fun | 7 => 99 | 10 => 119 | n => n, fun | 23 => 142 | 26 => 9 | 3 => 9 | 28 => 112 | 0 => 0 | 27 => 111 | 33 => 38 | 4 => 4 | n => n, fun | n => n⟩
theorem Try.keys99 : Go.Proofs.SlLaysZ.n7 Try.prog Try.keys99_ren := {
  mixed := by kernel_rfl
  f7 := ⟨Try.f99.name, by decide, Try.func99.trans (congrArg some (by kernel_rfl))⟩
  f10 := ⟨Try.f119.name, by decide, Try.func119.trans (congrArg some (by kernel_rfl))⟩
  t0 := Try.underlying0
  a0 := Try.isAgg0
  z0 := Try.sizeOf0
  v0 := Try.zeroValue0
  t4 := Try.underlying4
  a4 := Try.isAgg4
  z4 := Try.sizeOf4
  v4 := Try.zeroValue4
  t23 := Try.underlying142
  a23 := Try.isAgg142
  z23 := Try.sizeOf142
  v23 := Try.zeroValue142
  t26 := Try.underlying9
  a26 := Try.isAgg9
  z26 := Try.sizeOf9
  v26 := Try.zeroValue9
  t27 := Try.underlying111
  a27 := Try.isAgg111
  z27 := Try.sizeOf111
  v27 := Try.zeroValue111
  t28 := Try.underlying112
  a28 := Try.isAgg112
  z28 := Try.sizeOf112
  v28 := Try.zeroValue112
  t33 := Try.underlying38
  a33 := Try.isAgg38
  z33 := Try.sizeOf38
  v33 := Try.zeroValue38 }
open Go.RowKit Go.Maps Go.Sort in
theorem Try.sorts69 (m : Nat) : AnyZ.SortsIn Try.prog Try.sorted69_ren Fence.wide m :=
  ⟨fun blk off cap ss W hH hblk hsz => callsIn_wide.2 (AnyM.slices_Sort_string Try.sort104 blk off cap ss W hH hblk hsz),
   fun p cap W => callsIn_wide.2 (AnyM.slices_Sort_string_none Try.sort104 p cap W)⟩
open Go.RowKit Go.Maps Go.Sort in
theorem Try.maps_Keys_70 (mb : Option Nat) (W : World) : CallsIn Fence.wide 5 Try.prog 70 #[.map mb] W fun e w' => e = .returned (.func (.func 105) #[] #[.pointer (some ⟨W.heap.size, 0, none⟩)]) ∧ w' = W.alloc (.cells #[.map mb] 58) :=
  AnyZ.keys_in Try.keys70 Fence.wide 5 trivial rfl mb W
open Go.RowKit Go.Maps Go.Sort in
theorem Try.slices_Sorted_keys_69_70 {H : Type} (b nn : Nat) (D0 : DataW H) (R : Value → Option (DataW H × List MemPlace)) (w : World) (hown : w.ownsMap Try.prog 9 R b nn D0) (hmax : Maps.size D0 ≤ maxLen) (hbytes : Maps.size D0 * 16 ≤ 140737488355328) :
    CallsIn Fence.wide 5 Try.prog 69 #[.func (.func 105) #[] #[.pointer (some ⟨w.heap.size, 0, none⟩)]] (w.alloc (.cells #[.map (some b)] 58)) fun e w' => ∃ (v : Value) (ss : List (List UInt8)), e = .returned v ∧ ss.Perm (strKeys D0) ∧
      w'.ownsRow (w.alloc (.cells #[.map (some b)] 58)).heap.size 9 1 v ss.length ((ss.mergeSort (fun x y => decide (x ≤ y))).map encStr) ∧ (v = .slice none 0 0 ↔ ss = []) ∧ Below (w.alloc (.cells #[.map (some b)] 58)).heap.size (w.alloc (.cells #[.map (some b)] 58)) w' := by
  have hbl := hown.lt
  have hseq : SeqGives Fence.wide 2 Try.prog 105 #[.pointer (some ⟨w.heap.size, 0, none⟩)] encStr (fun ss => ss.Perm (strKeys D0)) (Maps.size D0) (w.alloc (.cells #[.map (some b)] 58)) :=
    AnyZ.keys_gives (ρ := Try.keys70_ren) { Try.keys70 with } Fence.wide _ trivial rfl (by omega) w.heap.size b nn D0 _ (by simp) (by simp) (by
      obtain ⟨es, clock, hb, Ft, hs, hD⟩ := hown
      exact ⟨es, clock, (Below.heap_alloc _ _ b hbl).trans hb, Ft, hs, hD⟩)
  exact AnyZ.sorted_in Try.sorted69 Fence.wide 5 trivial trivial trivial trivial rfl (by omega) (Try.sorts69 _) (enters_of Try.func104 (by kernel_rfl) rfl) 105 #[.pointer (some ⟨w.heap.size, 0, none⟩)] trivial (enters_of Try.func105 (by kernel_rfl) rfl) _ _ hmax hbytes _ hseq
open Go.RowKit Go.Maps Go.Sort in
theorem Try.slices_Sorted_keys_nil_69_70 (w : World) :
    CallsIn Fence.wide 5 Try.prog 69 #[.func (.func 105) #[] #[.pointer (some ⟨w.heap.size, 0, none⟩)]] (w.alloc (.cells #[.map none] 58)) fun e w' => ∃ (v : Value) (ss : List (List UInt8)), e = .returned v ∧ ss = [] ∧
      w'.ownsRow (w.alloc (.cells #[.map none] 58)).heap.size 9 1 v ss.length ((ss.mergeSort (fun x y => decide (x ≤ y))).map encStr) ∧ (v = .slice none 0 0 ↔ ss = []) ∧ Below (w.alloc (.cells #[.map none] 58)).heap.size (w.alloc (.cells #[.map none] 58)) w' := by
  have hseq : SeqGives Fence.wide 2 Try.prog 105 #[.pointer (some ⟨w.heap.size, 0, none⟩)] encStr (fun ss : List (List UInt8) => ss = []) 0 (w.alloc (.cells #[.map none] 58)) :=
    AnyZ.keys_gives_nil (ρ := Try.keys70_ren) { Try.keys70 with } Fence.wide _ trivial rfl w.heap.size _ (by simp) (by simp)
  exact AnyZ.sorted_in Try.sorted69 Fence.wide 5 trivial trivial trivial trivial rfl (by omega) (Try.sorts69 _) (enters_of Try.func104 (by kernel_rfl) rfl) 105 #[.pointer (some ⟨w.heap.size, 0, none⟩)] trivial (enters_of Try.func105 (by kernel_rfl) rfl) _ 0 (Nat.zero_le _) (by omega) _ hseq
open Go.RowKit Go.Maps Go.Sort in
theorem Try.maps_Keys_99 (mb : Option Nat) (W : World) : CallsIn Fence.wide 5 Try.prog 99 #[.map mb] W fun e w' => e = .returned (.func (.func 119) #[] #[.pointer (some ⟨W.heap.size, 0, none⟩)]) ∧ w' = W.alloc (.cells #[.map mb] 142) :=
  AnyZ.keys_in Try.keys99 Fence.wide 5 trivial rfl mb W
open Go.RowKit Go.Maps Go.Sort in
theorem Try.slices_Sorted_keys_69_99 {H : Type} (b nn : Nat) (D0 : DataW H) (R : Value → Option (DataW H × List MemPlace)) (w : World) (hown : w.ownsMap Try.prog 9 R b nn D0) (hmax : Maps.size D0 ≤ maxLen) (hbytes : Maps.size D0 * 16 ≤ 140737488355328) :
    CallsIn Fence.wide 5 Try.prog 69 #[.func (.func 119) #[] #[.pointer (some ⟨w.heap.size, 0, none⟩)]] (w.alloc (.cells #[.map (some b)] 142)) fun e w' => ∃ (v : Value) (ss : List (List UInt8)), e = .returned v ∧ ss.Perm (strKeys D0) ∧
      w'.ownsRow (w.alloc (.cells #[.map (some b)] 142)).heap.size 9 1 v ss.length ((ss.mergeSort (fun x y => decide (x ≤ y))).map encStr) ∧ (v = .slice none 0 0 ↔ ss = []) ∧ Below (w.alloc (.cells #[.map (some b)] 142)).heap.size (w.alloc (.cells #[.map (some b)] 142)) w' := by
  have hbl := hown.lt
  have hseq : SeqGives Fence.wide 2 Try.prog 119 #[.pointer (some ⟨w.heap.size, 0, none⟩)] encStr (fun ss => ss.Perm (strKeys D0)) (Maps.size D0) (w.alloc (.cells #[.map (some b)] 142)) :=
    AnyZ.keys_gives (ρ := Try.keys99_ren) { Try.keys99 with } Fence.wide _ trivial rfl (by omega) w.heap.size b nn D0 _ (by simp) (by simp) (by
      obtain ⟨es, clock, hb, Ft, hs, hD⟩ := hown
      exact ⟨es, clock, (Below.heap_alloc _ _ b hbl).trans hb, Ft, hs, hD⟩)
  exact AnyZ.sorted_in Try.sorted69 Fence.wide 5 trivial trivial trivial trivial rfl (by omega) (Try.sorts69 _) (enters_of Try.func104 (by kernel_rfl) rfl) 119 #[.pointer (some ⟨w.heap.size, 0, none⟩)] trivial (enters_of Try.func119 (by kernel_rfl) rfl) _ _ hmax hbytes _ hseq
open Go.RowKit Go.Maps Go.Sort in
theorem Try.slices_Sorted_keys_nil_69_99 (w : World) :
    CallsIn Fence.wide 5 Try.prog 69 #[.func (.func 119) #[] #[.pointer (some ⟨w.heap.size, 0, none⟩)]] (w.alloc (.cells #[.map none] 142)) fun e w' => ∃ (v : Value) (ss : List (List UInt8)), e = .returned v ∧ ss = [] ∧
      w'.ownsRow (w.alloc (.cells #[.map none] 142)).heap.size 9 1 v ss.length ((ss.mergeSort (fun x y => decide (x ≤ y))).map encStr) ∧ (v = .slice none 0 0 ↔ ss = []) ∧ Below (w.alloc (.cells #[.map none] 142)).heap.size (w.alloc (.cells #[.map none] 142)) w' := by
  have hseq : SeqGives Fence.wide 2 Try.prog 119 #[.pointer (some ⟨w.heap.size, 0, none⟩)] encStr (fun ss : List (List UInt8) => ss = []) 0 (w.alloc (.cells #[.map none] 142)) :=
    AnyZ.keys_gives_nil (ρ := Try.keys99_ren) { Try.keys99 with } Fence.wide _ trivial rfl w.heap.size _ (by simp) (by simp)
  exact AnyZ.sorted_in Try.sorted69 Fence.wide 5 trivial trivial trivial trivial rfl (by omega) (Try.sorts69 _) (enters_of Try.func104 (by kernel_rfl) rfl) 119 #[.pointer (some ⟨w.heap.size, 0, none⟩)] trivial (enters_of Try.func119 (by kernel_rfl) rfl) _ 0 (Nat.zero_le _) (by omega) _ hseq
end Go.Proofs
