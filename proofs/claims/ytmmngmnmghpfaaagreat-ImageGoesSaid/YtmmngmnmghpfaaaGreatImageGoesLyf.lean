/- ImageGoes: abstract runs. -/
import Derived.Test.YtmmngmnmghpfaaaGreatImageGoesLy27
set_option linter.unusedVariables false
set_option linter.unusedSimpArgs false
namespace Go.Ab
open Go.RowKit
theorem f64_read {n : Nat} (h : n < 4503599627370496) : ∃ m p, Ieee.double.read (Ieee.double.nearest false n 0) = .number false m p ∧ ∃ e : Nat, p = -(e : Int) ∧ m = n * 2 ^ e := by
  by_cases h0 : n = 0
  · subst h0
    have key : ∀ e : Nat, Ieee.double.leastPlace = -(e : Int) → ∃ m p, Ieee.double.read (Ieee.double.nearest false 0 0) = .number false m p ∧ ∃ e : Nat, p = -(e : Int) ∧ m = 0 * 2 ^ e := fun e he => ⟨0, Ieee.double.leastPlace, ?_, e, he, (Nat.zero_mul _).symm⟩
    refine key 1074 ?_
    rotate_left
    · simp [Ieee.Format.nearest, Ieee.Format.word, Ieee.Format.read, Ieee.Format.signWeight, Ieee.double, Ieee.Format.binade]
    · simp [Ieee.Format.leastPlace, Ieee.double]
  · have hl : n.log2 < 52 := (Nat.log2_lt h0).2 h
    have hlow : 2 ^ n.log2 ≤ n := Nat.log2_self_le h0
    have hup : n < 2 ^ (n.log2 + 1) := Nat.lt_log2_self
    obtain ⟨l, hle⟩ : ∃ l, n.log2 = l := ⟨_, rfl⟩
    rw [hle] at hl hlow hup
    obtain ⟨e, he⟩ : ∃ e, e + l = 52 := ⟨52 - l, by omega⟩
    have hlp : Ieee.double.leastPlace = -1074 := by simp [Ieee.Format.leastPlace, Ieee.double]
    have hlast : max ((0 : Int) + l - Ieee.double.fractionBits) Ieee.double.leastPlace = -(e : Int) := by
      rw [hlp]; show max ((0 : Int) + l - 52) (-1074) = _; omega
    rw [hlp] at hlast
    obtain ⟨B, hB⟩ : ∃ B : Nat, B = 2 ^ 52 := ⟨_, rfl⟩
    have hB0 : 0 < B := by rw [hB]; exact Nat.two_pow_pos 52
    have hm1 : B ≤ n * 2 ^ e := by
      calc B = 2 ^ l * 2 ^ e := by rw [hB, ← Nat.pow_add, Nat.add_comm, he]
        _ ≤ n * 2 ^ e := Nat.mul_le_mul_right _ hlow
    have hm2 : n * 2 ^ e < B * 2 := by
      calc n * 2 ^ e < 2 ^ (l + 1) * 2 ^ e := Nat.mul_lt_mul_of_pos_right hup (Nat.two_pow_pos e)
        _ = B * 2 := by rw [hB, ← Nat.pow_add, ← Nat.pow_succ]; congr 1; omega
    have hb : Ieee.double.binade = B := by rw [hB]; rfl
    have hi : Ieee.double.infRung = 2047 * B := by unfold Ieee.Format.infRung; rw [hb]; rfl
    have hsw : Ieee.double.signWeight = 2048 * B := by
      rw [hB]
      show 2 ^ (11 + 52) = 2048 * 2 ^ 52
      rw [Nat.pow_add]
    obtain ⟨r, hr⟩ : ∃ r, n * 2 ^ e = B + r := ⟨n * 2 ^ e - B, by omega⟩
    have hrB : r < B := by omega
    obtain ⟨q, hq⟩ : ∃ q, 1074 - e = q := ⟨_, rfl⟩
    have hnear : Ieee.double.nearest false n 0 = (q + 1) * B + r := by
      unfold Ieee.Format.nearest
      rw [if_neg h0, hle]
      simp only [hlp, hlast]
      have e1 : ((0 : Int) - -(e : Int)).toNat = e := by omega
      have e2 : (-(e : Int) - 0).toNat = 0 := by omega
      have e3 : (-(e : Int) - -1074).toNat = q := by omega
      rw [e1, e2, e3]
      have hcut : Ieee.Toward.even.cut false (n <<< e) 0 = n * 2 ^ e := by
        simp [Ieee.Toward.cut, Nat.shiftLeft_eq, Nat.mod_one]
      rw [hcut, hi, hb, hr]
      unfold Ieee.Format.word
      rw [if_neg (by decide)]
      have h1 := Nat.mul_le_mul_right B (show q + 2 ≤ 2047 by omega)
      have h2 : (q + 2) * B = q * B + 2 * B := Nat.add_mul ..
      have h3 : (q + 1) * B = q * B + 1 * B := Nat.add_mul ..
      rw [Nat.min_eq_left (by omega)]
      omega
    refine ⟨n * 2 ^ e, -(e : Int), ?_, e, rfl, rfl⟩
    rw [hnear, hr]
    unfold Ieee.Format.read
    simp only [hsw, hb, hi, hlp]
    have h1 := Nat.mul_le_mul_right B (show q + 2 ≤ 1076 by omega)
    have h2 : (q + 2) * B = (q + 1) * B + 1 * B := Nat.add_mul (q + 1) 1 B
    have h4 : (q + 1) * B = q * B + 1 * B := Nat.add_mul ..
    have hlt : (q + 1) * B + r < 1076 * B := by omega
    rw [Nat.div_eq_of_lt (by omega), Nat.mod_eq_of_lt (a := (q + 1) * B + r) (b := 2048 * B) (by omega), if_neg (by omega), if_pos (by omega)]
    have r3 : ((q + 1) * B + r) % B = r := by rw [Nat.mul_comm, Nat.mul_add_mod, Nat.mod_eq_of_lt hrB]
    have r4 : ((q + 1) * B + r) / B = q + 1 := by rw [Nat.mul_comm, Nat.mul_add_div hB0, Nat.div_eq_of_lt hrB]
    rw [r3, r4]
    have r6 : (-1074 : Int) + ((q + 1 - 1 : Nat) : Int) = -(e : Int) := by omega
    rw [r6]
    rfl
theorem f64_near {n : Int} (h : 0 ≤ n) : fnear .f64 n = Ieee.double.nearest false n.toNat 0 := by
  unfold fnear FloatKind.nearest FloatKind.encode FloatKind.format Ieee.Format.write
  rw [decide_eq_false (by omega), show n.natAbs = n.toNat by omega]
theorem f64_order {a b : Int} (ha : 0 ≤ a ∧ a < 4503599627370496) (hb : 0 ≤ b ∧ b < 4503599627370496) : FloatKind.f64.format.order (fnear .f64 a) (fnear .f64 b) = some (compare a b) := by
  obtain ⟨m, p, h1, e, rfl, hm⟩ := f64_read (n := a.toNat) (by omega)
  obtain ⟨m', p', h2, e', rfl, hm'⟩ := f64_read (n := b.toNat) (by omega)
  show Ieee.double.order _ _ = _
  unfold Ieee.Format.order
  rw [f64_near ha.1, f64_near hb.1, h1, h2]
  simp only [Ieee.Datum.order]
  obtain ⟨t, ht⟩ : ∃ t, max e e' = t := ⟨_, rfl⟩
  have hmin : min (-(e : Int)) (-(e' : Int)) = -(t : Int) := by omega
  rw [hmin]
  have t1 : (-(e : Int) - -(t : Int)).toNat = t - e := by omega
  have t2 : (-(e' : Int) - -(t : Int)).toNat = t - e' := by omega
  have s1 : Ieee.signed false m (t - e) = a * 2 ^ t := by
    have : m <<< (t - e) = a.toNat * 2 ^ t := by
      rw [Nat.shiftLeft_eq, hm, Nat.mul_assoc, ← Nat.pow_add]; congr 2; omega
    unfold Ieee.signed
    rw [if_neg (by decide), this]
    have : (a.toNat : Int) = a := by omega
    rw [Int.natCast_mul, this]
    norm_cast
  have s2 : Ieee.signed false m' (t - e') = b * 2 ^ t := by
    have : m' <<< (t - e') = b.toNat * 2 ^ t := by
      rw [Nat.shiftLeft_eq, hm', Nat.mul_assoc, ← Nat.pow_add]; congr 2; omega
    unfold Ieee.signed
    rw [if_neg (by decide), this]
    have : (b.toNat : Int) = b := by omega
    rw [Int.natCast_mul, this]
    norm_cast
  rw [t1, t2, s1, s2]
  congr 1
  have hp : (0 : Int) < 2 ^ t := Int.pow_pos (by decide)
  rcases Int.lt_trichotomy a b with h | h | h
  · rw [Int.compare_eq_lt.2 h, Int.compare_eq_lt.2 (Int.mul_lt_mul_of_pos_right h hp)]
  · subst h; simp
  · rw [Int.compare_eq_gt.2 h, Int.compare_eq_gt.2 (Int.mul_lt_mul_of_pos_right h hp)]
def isF (n : Int) : Prop := 0 ≤ n ∧ n < 4503599627370496
theorem flt_lss {a b : Int} (ha : isF a) (hb : isF b) : fltB .lss .f64 (fnear .f64 a) (fnear .f64 b) = decide (a < b) := by
  unfold fltB
  simp only [f64_order ha hb]
  rcases Int.lt_trichotomy a b with h | h | h
  · rw [Int.compare_eq_lt.2 h, decide_eq_true h]; rfl
  · subst h; simp
  · rw [Int.compare_eq_gt.2 h, decide_eq_false (by omega)]; rfl
theorem flt_gtr {a b : Int} (ha : isF a) (hb : isF b) : fltB .gtr .f64 (fnear .f64 a) (fnear .f64 b) = decide (a > b) := by
  unfold fltB
  simp only [f64_order ha hb]
  rcases Int.lt_trichotomy a b with h | h | h
  · rw [Int.compare_eq_lt.2 h, decide_eq_false (by omega)]; rfl
  · subst h; simp
  · rw [Int.compare_eq_gt.2 h, decide_eq_true h]; rfl
theorem flt_eql {a b : Int} (ha : isF a) (hb : isF b) : fltB .eql .f64 (fnear .f64 a) (fnear .f64 b) = decide (a = b) := by
  unfold fltB
  simp only [f64_order ha hb]
  rcases Int.lt_trichotomy a b with h | h | h
  · rw [Int.compare_eq_lt.2 h, decide_eq_false (by omega)]; rfl
  · subst h; simp
  · rw [Int.compare_eq_gt.2 h, decide_eq_false (by omega)]; rfl
theorem flt_neq {a b : Int} (ha : isF a) (hb : isF b) : fltB .neq .f64 (fnear .f64 a) (fnear .f64 b) = decide (a ≠ b) := by
  unfold fltB
  simp only [f64_order ha hb]
  rcases Int.lt_trichotomy a b with h | h | h
  · rw [Int.compare_eq_lt.2 h, decide_eq_true (by omega)]; rfl
  · subst h; simp
  · rw [Int.compare_eq_gt.2 h, decide_eq_true (by omega)]; rfl
theorem fnear_0 : fnear .f64 0 = 0 := by decide +kernel
theorem fnear_17 : fnear .f64 17 = 4625478292286210048 := by decide +kernel
end Go.Ab
