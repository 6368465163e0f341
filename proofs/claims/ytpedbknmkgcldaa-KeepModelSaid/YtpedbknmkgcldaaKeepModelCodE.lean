/- Part of the proof of KeepModel: the contracts of the functions. -/
import Derived.Test.YtpedbknmkgcldaaKeepModelCodD

set_option linter.unusedVariables false
set_option linter.unusedSimpArgs false
namespace Go.Proofs.Ytpedbknmkgcldaa
open Go.Ab Go.RowKit Go.MapKept
attribute [local irreducible] ACalls AW ADraw Into
set_option maxRecDepth 100000
def num4 (b : List UInt8) : Int := match b with | a :: b :: c :: d :: _ => numL a b c d | _ => 0
def scan1 (b : List UInt8) : Option ByteArray :=
  if b.length < 9 then none else
  if num4 b > 4096 ∨ num4 b > (b.length : Int) - 9 ∨ b[(num4 b).toNat + 8]? ≠ some 1 then none else
  if num4 (b.drop (4 + (num4 b).toNat)) ≠ chk ((b.drop 4).take (num4 b).toNat) then none else some ⟨((b.drop 4).take (num4 b).toNat).toArray⟩
theorem scan1_len {b : List UInt8} {s : ByteArray} (h : scan1 b = some s) : 9 ≤ b.length := by
  unfold scan1 at h
  split at h
  · cases h
  · omega
def scanL (b : List UInt8) : List ByteArray :=
  match h : scan1 b with
  | none => []
  | some s => s :: scanL (b.drop (s.size + 9))
termination_by b.length
decreasing_by
  have := scan1_len h
  simp only [List.length_drop]
  omega
theorem scanL_none {b : List UInt8} (h : scan1 b = none) : scanL b = [] := by
  rw [scanL]
  split
  · rfl
  · rename_i s hs; rw [h] at hs; cases hs
theorem scanL_some {b : List UInt8} {s : ByteArray} (h : scan1 b = some s) : scanL b = s :: scanL (b.drop (s.size + 9)) := by
  rw [scanL]
  split
  · rename_i hs; rw [h] at hs; cases hs
  · rename_i s' hs; rw [h] at hs; cases hs; rfl
theorem num4_range (b : List UInt8) : 0 ≤ num4 b ∧ num4 b < 4294967296 := by
  unfold num4
  split
  · rename_i a b c d _
    rw [numL_eq]
    have ha := a.toNat_lt
    have hb := b.toNat_lt
    have hc := c.toNat_lt
    have hd := d.toNat_lt
    omega
  · omega
theorem number4 (xs : List UInt8) (h : 4 ≤ xs.length) : ACalls Try.prog 123 [.d (.sl 1 (u8s xs))] [] (fun av L => av = .d (.int .u32 (num4 xs)) ∧ L = []) := by
  match xs, h with
  | a :: b :: c :: d :: r, _ => exact number_ok _ a b c d rfl rfl rfl rfl
theorem u8s_cut (b : List UInt8) (hi lo : Nat) : ((u8s b).take hi).drop lo = u8s ((b.take hi).drop lo) := by simp [u8s]
theorem lay_recs (l : List ByteArray) : l.length ≤ (layL l).length := by
  induction l with
  | nil => simp
  | cons x r ih =>
    have h := frame_len x
    simp only [layL, List.map_cons, List.flatten_cons, List.length_append, List.length_cons] at ih ⊢
    omega
theorem wsum_lay (l : List ByteArray) : wsum l ≤ 2 * ((layL l).length : Int) := by
  induction l with
  | nil => simp [wsum, layL]
  | cons x r ih =>
    have h := frame_len x
    simp only [layL, List.map_cons, List.flatten_cons, List.length_append, wsum] at ih ⊢
    omega
def Lg.ext (l : Lg) (rs : List ByteArray) : Lg := { l with recs := l.recs ++ rs, size := l.size + wsum rs }
def scanB (l : Lg) : List ByteArray → List AB
  | [] => l.L
  | x :: r => (l.ext (x :: r)).L1
set_option maxHeartbeats 4000000 in
theorem scan_ok (l : Lg) (b : List UInt8) (hb : b.length ≤ 1048576) (hz : 0 ≤ l.size ∧ l.size ≤ 1073741824) (hl : l.recs.length ≤ 100000) : ACalls Try.prog 115 [.ptr 0 0, .d (.sl 1 (u8s b))] l.L (fun av L => av = .d (.int .i64 (layL (scanL b)).length) ∧ L = scanB l (scanL b)) := by
  refine acalls_go ttOk zOk foOk Try.func115 rfl Try.ntmps115 rfl false rfl ?_
  conv => whnf
  refine scope_go ttOk zOk foOk (σ := List ByteArray) (fun rs => ([(0, .ptr 0 0), (1, .d (.sl 1 (u8s b))), (6, .d (.int .i64 (layL rs).length))], scanB l rs))
    (fun k rs => (k = 1 ∧ (layL rs).length ≤ b.length ∧ rs ++ scanL (b.drop (layL rs).length) = scanL b) ∨ (k = 0 ∧ rs = scanL b)) (fun k rs => if k = 1 then b.length - (layL rs).length + 1 else 0) ?_ ?_
  · rintro k rest hrest rs hi
    rcases hi with ⟨rfl, hat, hsc⟩ | ⟨rfl, hrs⟩
    · have e := Option.some.inj (show some _ = some rest from hrest)
      subst e
      clear hrest
      have hub : (u8s b).length = b.length := u8s_length _
      obtain ⟨ofs, hofs⟩ : ∃ n, n = (layL rs).length := ⟨_, rfl⟩
      rw [← hofs] at hat hsc ⊢
      rcases hrs : rs with _ | ⟨x, r⟩
      · conv => whnf
        repeat' (first | ((with_reducible apply z_wrap); (focus omega); (conv => whnf)) | ((with_reducible refine mt_dec (fun _ => ?_) (fun _ => ?_)) <;> (conv => whnf)) | ((with_reducible refine mt_eq (fun _ => ?_) (fun _ => ?_)) <;> (conv => whnf)) | ((with_reducible refine mt_ne (fun _ => ?_) (fun _ => ?_)) <;> (conv => whnf)) | ((with_reducible refine mt_not (fun _ => ?_) (fun _ => ?_)) <;> (conv => whnf)) | ((with_reducible refine mt_any (fun _ => ?_) (fun _ => ?_)) <;> (conv => whnf)))
        · rename_i h
          have hno : scan1 (b.drop ofs) = none := by unfold scan1; rw [if_pos (by rw [List.length_drop]; omega)]
          refine into_of [0, 1, 6] ?_
          conv => whnf
          exact ⟨rs, by rw [← hofs], by rw [hrs]; rfl, .inr ⟨rfl, by rw [← hsc, scanL_none hno, List.append_nil]⟩, by simp⟩
        rename_i h9
        have hlen : (b.drop ofs).length = b.length - ofs := List.length_drop
        have h9' : ¬ (b.drop ofs).length < 9 := by omega
        refine ⟨by omega, by omega, by omega, ?_⟩
        rw [show ((u8s b).take (((u8s b).length : Nat) : Int).toNat).drop ((ofs : Int)).toNat = u8s (b.drop ofs) by rw [Int.toNat_natCast, Int.toNat_natCast, u8s_cut, hub, List.take_length]]
        conv => whnf
        repeat' (first | ((with_reducible apply z_wrap); (focus omega); (conv => whnf)) | ((with_reducible refine mt_dec (fun _ => ?_) (fun _ => ?_)) <;> (conv => whnf)) | ((with_reducible refine mt_eq (fun _ => ?_) (fun _ => ?_)) <;> (conv => whnf)) | ((with_reducible refine mt_ne (fun _ => ?_) (fun _ => ?_)) <;> (conv => whnf)) | ((with_reducible refine mt_not (fun _ => ?_) (fun _ => ?_)) <;> (conv => whnf)) | ((with_reducible refine mt_any (fun _ => ?_) (fun _ => ?_)) <;> (conv => whnf)))
        refine (number4 (b.drop ofs) (by rw [List.length_drop]; omega)).mono ?_
        rintro _ _ ⟨rfl, rfl⟩
        have hr4 := num4_range (b.drop ofs)
        obtain ⟨n, hn⟩ : ∃ n : Nat, num4 (b.drop ofs) = n := ⟨(num4 (b.drop ofs)).toNat, by omega⟩
        rw [hn] at hr4 ⊢
        conv => whnf
        repeat' (first | ((with_reducible apply z_wrap); (focus omega); (conv => whnf)) | ((with_reducible refine mt_dec (fun _ => ?_) (fun _ => ?_)) <;> (conv => whnf)) | ((with_reducible refine mt_eq (fun _ => ?_) (fun _ => ?_)) <;> (conv => whnf)) | ((with_reducible refine mt_ne (fun _ => ?_) (fun _ => ?_)) <;> (conv => whnf)) | ((with_reducible refine mt_not (fun _ => ?_) (fun _ => ?_)) <;> (conv => whnf)) | ((with_reducible refine mt_any (fun _ => ?_) (fun _ => ?_)) <;> (conv => whnf)))
        · have hno : scan1 (b.drop ofs) = none := by unfold scan1; rw [if_neg h9', if_pos (by rw [hn]; left; omega)]
          refine into_of [0, 1, 6] ?_
          conv => whnf
          exact ⟨rs, by rw [← hofs], by rw [hrs]; rfl, .inr ⟨rfl, by rw [← hsc, scanL_none hno, List.append_nil]⟩, by simp⟩
        · have hno : scan1 (b.drop ofs) = none := by unfold scan1; rw [if_neg h9', if_pos (by rw [hn, hlen]; right; left; omega)]
          refine into_of [0, 1, 6] ?_
          conv => whnf
          exact ⟨rs, by rw [← hofs], by rw [hrs]; rfl, .inr ⟨rfl, by rw [← hsc, scanL_none hno, List.append_nil]⟩, by simp⟩
        obtain ⟨c, hc⟩ : ∃ c, b[ofs + n + 8]? = some c := ⟨_, List.getElem?_eq_getElem (by omega)⟩
        have hc' : (b.drop ofs)[n + 8]? = some c := by rw [List.getElem?_drop, ← hc]; congr 1
        ((with_reducible refine ix_u8 hc ?_ ?_); (focus (first | rfl | omega)); (conv => whnf))
        repeat' (first | ((with_reducible apply z_wrap); (focus omega); (conv => whnf)) | ((with_reducible refine mt_dec (fun _ => ?_) (fun _ => ?_)) <;> (conv => whnf)) | ((with_reducible refine mt_eq (fun _ => ?_) (fun _ => ?_)) <;> (conv => whnf)) | ((with_reducible refine mt_ne (fun _ => ?_) (fun _ => ?_)) <;> (conv => whnf)) | ((with_reducible refine mt_not (fun _ => ?_) (fun _ => ?_)) <;> (conv => whnf)) | ((with_reducible refine mt_any (fun _ => ?_) (fun _ => ?_)) <;> (conv => whnf)))
        · rename_i h1
          have hno : scan1 (b.drop ofs) = none := by
            unfold scan1
            rw [if_neg h9', if_pos (by rw [hn, Int.toNat_natCast, hc']; right; right; intro e; cases e; exact h1 rfl)]
          refine into_of [0, 1, 6] ?_
          conv => whnf
          exact ⟨rs, by rw [← hofs], by rw [hrs]; rfl, .inr ⟨rfl, by rw [← hsc, scanL_none hno, List.append_nil]⟩, by simp⟩
        rename_i h4096 hroom h1
        have hc1 : c = 1 := UInt8.toNat_inj.1 (show c.toNat = 1 by omega)
        obtain ⟨w, hw⟩ : ∃ w, ((b.drop ofs).drop 4).take n = w := ⟨_, rfl⟩
        have hwl : w.length = n := by rw [← hw, List.length_take, List.length_drop, hlen]; omega
        refine ⟨by omega, by omega, by omega, ?_⟩
        rw [show ((u8s b).take ((ofs : Int) + 4 + n).toNat).drop ((ofs : Int) + 4).toNat = u8s w by rw [show ((ofs : Int) + 4 + n).toNat = ofs + 4 + n by omega, show ((ofs : Int) + 4).toNat = ofs + 4 by omega, u8s_cut, ← hw, List.drop_take, List.drop_drop, show ofs + 4 + n - (ofs + 4) = n by omega]]
        conv => whnf
        repeat' (first | ((with_reducible apply z_wrap); (focus omega); (conv => whnf)) | ((with_reducible refine mt_dec (fun _ => ?_) (fun _ => ?_)) <;> (conv => whnf)) | ((with_reducible refine mt_eq (fun _ => ?_) (fun _ => ?_)) <;> (conv => whnf)) | ((with_reducible refine mt_ne (fun _ => ?_) (fun _ => ?_)) <;> (conv => whnf)) | ((with_reducible refine mt_not (fun _ => ?_) (fun _ => ?_)) <;> (conv => whnf)) | ((with_reducible refine mt_any (fun _ => ?_) (fun _ => ?_)) <;> (conv => whnf)))
        refine ⟨w, rfl, ?_⟩
        obtain ⟨s, hs⟩ : ∃ s : ByteArray, ByteArray.mk w.toArray = s := ⟨_, rfl⟩
        have hsl : s.data.toList = w := by rw [← hs]
        have hss : s.size = n := by rw [← hwl, ← hsl]; simp
        conv => whnf
        rw [hs]
        repeat' (first | ((with_reducible apply z_wrap); (focus omega); (conv => whnf)) | ((with_reducible refine mt_dec (fun _ => ?_) (fun _ => ?_)) <;> (conv => whnf)) | ((with_reducible refine mt_eq (fun _ => ?_) (fun _ => ?_)) <;> (conv => whnf)) | ((with_reducible refine mt_ne (fun _ => ?_) (fun _ => ?_)) <;> (conv => whnf)) | ((with_reducible refine mt_not (fun _ => ?_) (fun _ => ?_)) <;> (conv => whnf)) | ((with_reducible refine mt_any (fun _ => ?_) (fun _ => ?_)) <;> (conv => whnf)))
        refine ⟨by omega, by omega, by omega, ?_⟩
        rw [show ((u8s b).take (((u8s b).length : Nat) : Int).toNat).drop ((ofs : Int) + 4 + n).toNat = u8s ((b.drop ofs).drop (4 + n)) by rw [Int.toNat_natCast, show ((ofs : Int) + 4 + n).toNat = ofs + (4 + n) by omega, u8s_cut, hub, List.take_length, List.drop_drop]]
        conv => whnf
        repeat' (first | ((with_reducible apply z_wrap); (focus omega); (conv => whnf)) | ((with_reducible refine mt_dec (fun _ => ?_) (fun _ => ?_)) <;> (conv => whnf)) | ((with_reducible refine mt_eq (fun _ => ?_) (fun _ => ?_)) <;> (conv => whnf)) | ((with_reducible refine mt_ne (fun _ => ?_) (fun _ => ?_)) <;> (conv => whnf)) | ((with_reducible refine mt_not (fun _ => ?_) (fun _ => ?_)) <;> (conv => whnf)) | ((with_reducible refine mt_any (fun _ => ?_) (fun _ => ?_)) <;> (conv => whnf)))
        refine (number4 ((b.drop ofs).drop (4 + n)) (by rw [List.length_drop]; omega)).mono ?_
        rintro _ _ ⟨rfl, rfl⟩
        conv => whnf
        repeat' (first | ((with_reducible apply z_wrap); (focus omega); (conv => whnf)) | ((with_reducible refine mt_dec (fun _ => ?_) (fun _ => ?_)) <;> (conv => whnf)) | ((with_reducible refine mt_eq (fun _ => ?_) (fun _ => ?_)) <;> (conv => whnf)) | ((with_reducible refine mt_ne (fun _ => ?_) (fun _ => ?_)) <;> (conv => whnf)) | ((with_reducible refine mt_not (fun _ => ?_) (fun _ => ?_)) <;> (conv => whnf)) | ((with_reducible refine mt_any (fun _ => ?_) (fun _ => ?_)) <;> (conv => whnf)))
        refine (check_ok s (by omega)).mono ?_
        rintro _ _ ⟨rfl, rfl⟩
        rw [hsl]
        conv => whnf
        repeat' (first | ((with_reducible apply z_wrap); (focus omega); (conv => whnf)) | ((with_reducible refine mt_dec (fun _ => ?_) (fun _ => ?_)) <;> (conv => whnf)) | ((with_reducible refine mt_eq (fun _ => ?_) (fun _ => ?_)) <;> (conv => whnf)) | ((with_reducible refine mt_ne (fun _ => ?_) (fun _ => ?_)) <;> (conv => whnf)) | ((with_reducible refine mt_not (fun _ => ?_) (fun _ => ?_)) <;> (conv => whnf)) | ((with_reducible refine mt_any (fun _ => ?_) (fun _ => ?_)) <;> (conv => whnf)))
        · rename_i h2
          have hno : scan1 (b.drop ofs) = none := by
            unfold scan1
            rw [if_neg h9', if_neg (by rw [hn, hlen, Int.toNat_natCast, hc', hc1]; rintro (h | h | h) <;> first | omega | exact h rfl), if_pos (by rw [hn, Int.toNat_natCast, hw]; exact h2)]
          refine into_of [0, 1, 6] ?_
          conv => whnf
          exact ⟨rs, by rw [← hofs], by rw [hrs]; rfl, .inr ⟨rfl, by rw [← hsc, scanL_none hno, List.append_nil]⟩, by simp⟩
        rename_i h2
        have hsome : scan1 (b.drop ofs) = some s := by
          unfold scan1
          rw [if_neg h9', if_neg (by rw [hn, hlen, Int.toNat_natCast, hc', hc1]; rintro (h | h | h) <;> first | omega | exact h rfl), if_neg (by rw [hn, Int.toNat_natCast, hw]; intro h; exact h (by simpa using h2)), hn, Int.toNat_natCast, hw, hs]
        have hnew : (layL (rs ++ [s])).length = ofs + (n + 9) := by rw [lay_app, List.length_append, frame_len, hss, ← hofs]
        have hfit : ofs + (n + 9) ≤ b.length := by omega
        have hrl : (l.ext rs).recs.length = l.recs.length + rs.length := by simp [Lg.ext]
        have hrz : (l.ext rs).size = l.size + wsum rs := rfl
        have hrn := lay_recs rs
        have hrw := wsum_lay rs
        have hr0 := wsum_nonneg rs
        rw [← hofs] at hrn hrw
        rw [hrs] at hrl hrn hrz hrw hr0
        refine ⟨by rw [strs_length]; (show (_ + 1) * 16 ≤ _); omega, ?_⟩
        conv => whnf
        repeat' (first | ((with_reducible apply z_wrap); (focus omega); (conv => whnf)) | ((with_reducible refine mt_dec (fun _ => ?_) (fun _ => ?_)) <;> (conv => whnf)) | ((with_reducible refine mt_eq (fun _ => ?_) (fun _ => ?_)) <;> (conv => whnf)) | ((with_reducible refine mt_ne (fun _ => ?_) (fun _ => ?_)) <;> (conv => whnf)) | ((with_reducible refine mt_not (fun _ => ?_) (fun _ => ?_)) <;> (conv => whnf)) | ((with_reducible refine mt_any (fun _ => ?_) (fun _ => ?_)) <;> (conv => whnf)))
        refine into_of [0, 1, 6] ?_
        conv => whnf
        refine ⟨rs ++ [s], by rw [hnew, show ((ofs + (n + 9) : Nat) : Int) = (ofs : Int) + (4 + n + 5) by omega], ?_, .inl ⟨rfl, by rw [hnew]; exact hfit, ?_⟩, by rw [hnew]; simp; omega⟩
        · rw [hrs, strs_app]
          simp [scanB, Lg.L1, Lg.ext, Lg.tail, wsum, hss]
        · rw [hnew, ← hsc, scanL_some hsome, hss, List.drop_drop, List.append_assoc]
          rfl
      · conv => whnf
        repeat' (first | ((with_reducible apply z_wrap); (focus omega); (conv => whnf)) | ((with_reducible refine mt_dec (fun _ => ?_) (fun _ => ?_)) <;> (conv => whnf)) | ((with_reducible refine mt_eq (fun _ => ?_) (fun _ => ?_)) <;> (conv => whnf)) | ((with_reducible refine mt_ne (fun _ => ?_) (fun _ => ?_)) <;> (conv => whnf)) | ((with_reducible refine mt_not (fun _ => ?_) (fun _ => ?_)) <;> (conv => whnf)) | ((with_reducible refine mt_any (fun _ => ?_) (fun _ => ?_)) <;> (conv => whnf)))
        · rename_i h
          have hno : scan1 (b.drop ofs) = none := by unfold scan1; rw [if_pos (by rw [List.length_drop]; omega)]
          refine into_of [0, 1, 6] ?_
          conv => whnf
          exact ⟨rs, by rw [← hofs], by rw [hrs]; rfl, .inr ⟨rfl, by rw [← hsc, scanL_none hno, List.append_nil]⟩, by simp⟩
        rename_i h9
        have hlen : (b.drop ofs).length = b.length - ofs := List.length_drop
        have h9' : ¬ (b.drop ofs).length < 9 := by omega
        refine ⟨by omega, by omega, by omega, ?_⟩
        rw [show ((u8s b).take (((u8s b).length : Nat) : Int).toNat).drop ((ofs : Int)).toNat = u8s (b.drop ofs) by rw [Int.toNat_natCast, Int.toNat_natCast, u8s_cut, hub, List.take_length]]
        conv => whnf
        repeat' (first | ((with_reducible apply z_wrap); (focus omega); (conv => whnf)) | ((with_reducible refine mt_dec (fun _ => ?_) (fun _ => ?_)) <;> (conv => whnf)) | ((with_reducible refine mt_eq (fun _ => ?_) (fun _ => ?_)) <;> (conv => whnf)) | ((with_reducible refine mt_ne (fun _ => ?_) (fun _ => ?_)) <;> (conv => whnf)) | ((with_reducible refine mt_not (fun _ => ?_) (fun _ => ?_)) <;> (conv => whnf)) | ((with_reducible refine mt_any (fun _ => ?_) (fun _ => ?_)) <;> (conv => whnf)))
        refine (number4 (b.drop ofs) (by rw [List.length_drop]; omega)).mono ?_
        rintro _ _ ⟨rfl, rfl⟩
        have hr4 := num4_range (b.drop ofs)
        obtain ⟨n, hn⟩ : ∃ n : Nat, num4 (b.drop ofs) = n := ⟨(num4 (b.drop ofs)).toNat, by omega⟩
        rw [hn] at hr4 ⊢
        conv => whnf
        repeat' (first | ((with_reducible apply z_wrap); (focus omega); (conv => whnf)) | ((with_reducible refine mt_dec (fun _ => ?_) (fun _ => ?_)) <;> (conv => whnf)) | ((with_reducible refine mt_eq (fun _ => ?_) (fun _ => ?_)) <;> (conv => whnf)) | ((with_reducible refine mt_ne (fun _ => ?_) (fun _ => ?_)) <;> (conv => whnf)) | ((with_reducible refine mt_not (fun _ => ?_) (fun _ => ?_)) <;> (conv => whnf)) | ((with_reducible refine mt_any (fun _ => ?_) (fun _ => ?_)) <;> (conv => whnf)))
        · have hno : scan1 (b.drop ofs) = none := by unfold scan1; rw [if_neg h9', if_pos (by rw [hn]; left; omega)]
          refine into_of [0, 1, 6] ?_
          conv => whnf
          exact ⟨rs, by rw [← hofs], by rw [hrs]; rfl, .inr ⟨rfl, by rw [← hsc, scanL_none hno, List.append_nil]⟩, by simp⟩
        · have hno : scan1 (b.drop ofs) = none := by unfold scan1; rw [if_neg h9', if_pos (by rw [hn, hlen]; right; left; omega)]
          refine into_of [0, 1, 6] ?_
          conv => whnf
          exact ⟨rs, by rw [← hofs], by rw [hrs]; rfl, .inr ⟨rfl, by rw [← hsc, scanL_none hno, List.append_nil]⟩, by simp⟩
        obtain ⟨c, hc⟩ : ∃ c, b[ofs + n + 8]? = some c := ⟨_, List.getElem?_eq_getElem (by omega)⟩
        have hc' : (b.drop ofs)[n + 8]? = some c := by rw [List.getElem?_drop, ← hc]; congr 1
        ((with_reducible refine ix_u8 hc ?_ ?_); (focus (first | rfl | omega)); (conv => whnf))
        repeat' (first | ((with_reducible apply z_wrap); (focus omega); (conv => whnf)) | ((with_reducible refine mt_dec (fun _ => ?_) (fun _ => ?_)) <;> (conv => whnf)) | ((with_reducible refine mt_eq (fun _ => ?_) (fun _ => ?_)) <;> (conv => whnf)) | ((with_reducible refine mt_ne (fun _ => ?_) (fun _ => ?_)) <;> (conv => whnf)) | ((with_reducible refine mt_not (fun _ => ?_) (fun _ => ?_)) <;> (conv => whnf)) | ((with_reducible refine mt_any (fun _ => ?_) (fun _ => ?_)) <;> (conv => whnf)))
        · rename_i h1
          have hno : scan1 (b.drop ofs) = none := by
            unfold scan1
            rw [if_neg h9', if_pos (by rw [hn, Int.toNat_natCast, hc']; right; right; intro e; cases e; exact h1 rfl)]
          refine into_of [0, 1, 6] ?_
          conv => whnf
          exact ⟨rs, by rw [← hofs], by rw [hrs]; rfl, .inr ⟨rfl, by rw [← hsc, scanL_none hno, List.append_nil]⟩, by simp⟩
        rename_i h4096 hroom h1
        have hc1 : c = 1 := UInt8.toNat_inj.1 (show c.toNat = 1 by omega)
        obtain ⟨w, hw⟩ : ∃ w, ((b.drop ofs).drop 4).take n = w := ⟨_, rfl⟩
        have hwl : w.length = n := by rw [← hw, List.length_take, List.length_drop, hlen]; omega
        refine ⟨by omega, by omega, by omega, ?_⟩
        rw [show ((u8s b).take ((ofs : Int) + 4 + n).toNat).drop ((ofs : Int) + 4).toNat = u8s w by rw [show ((ofs : Int) + 4 + n).toNat = ofs + 4 + n by omega, show ((ofs : Int) + 4).toNat = ofs + 4 by omega, u8s_cut, ← hw, List.drop_take, List.drop_drop, show ofs + 4 + n - (ofs + 4) = n by omega]]
        conv => whnf
        repeat' (first | ((with_reducible apply z_wrap); (focus omega); (conv => whnf)) | ((with_reducible refine mt_dec (fun _ => ?_) (fun _ => ?_)) <;> (conv => whnf)) | ((with_reducible refine mt_eq (fun _ => ?_) (fun _ => ?_)) <;> (conv => whnf)) | ((with_reducible refine mt_ne (fun _ => ?_) (fun _ => ?_)) <;> (conv => whnf)) | ((with_reducible refine mt_not (fun _ => ?_) (fun _ => ?_)) <;> (conv => whnf)) | ((with_reducible refine mt_any (fun _ => ?_) (fun _ => ?_)) <;> (conv => whnf)))
        refine ⟨w, rfl, ?_⟩
        obtain ⟨s, hs⟩ : ∃ s : ByteArray, ByteArray.mk w.toArray = s := ⟨_, rfl⟩
        have hsl : s.data.toList = w := by rw [← hs]
        have hss : s.size = n := by rw [← hwl, ← hsl]; simp
        conv => whnf
        rw [hs]
        repeat' (first | ((with_reducible apply z_wrap); (focus omega); (conv => whnf)) | ((with_reducible refine mt_dec (fun _ => ?_) (fun _ => ?_)) <;> (conv => whnf)) | ((with_reducible refine mt_eq (fun _ => ?_) (fun _ => ?_)) <;> (conv => whnf)) | ((with_reducible refine mt_ne (fun _ => ?_) (fun _ => ?_)) <;> (conv => whnf)) | ((with_reducible refine mt_not (fun _ => ?_) (fun _ => ?_)) <;> (conv => whnf)) | ((with_reducible refine mt_any (fun _ => ?_) (fun _ => ?_)) <;> (conv => whnf)))
        refine ⟨by omega, by omega, by omega, ?_⟩
        rw [show ((u8s b).take (((u8s b).length : Nat) : Int).toNat).drop ((ofs : Int) + 4 + n).toNat = u8s ((b.drop ofs).drop (4 + n)) by rw [Int.toNat_natCast, show ((ofs : Int) + 4 + n).toNat = ofs + (4 + n) by omega, u8s_cut, hub, List.take_length, List.drop_drop]]
        conv => whnf
        repeat' (first | ((with_reducible apply z_wrap); (focus omega); (conv => whnf)) | ((with_reducible refine mt_dec (fun _ => ?_) (fun _ => ?_)) <;> (conv => whnf)) | ((with_reducible refine mt_eq (fun _ => ?_) (fun _ => ?_)) <;> (conv => whnf)) | ((with_reducible refine mt_ne (fun _ => ?_) (fun _ => ?_)) <;> (conv => whnf)) | ((with_reducible refine mt_not (fun _ => ?_) (fun _ => ?_)) <;> (conv => whnf)) | ((with_reducible refine mt_any (fun _ => ?_) (fun _ => ?_)) <;> (conv => whnf)))
        refine (number4 ((b.drop ofs).drop (4 + n)) (by rw [List.length_drop]; omega)).mono ?_
        rintro _ _ ⟨rfl, rfl⟩
        conv => whnf
        repeat' (first | ((with_reducible apply z_wrap); (focus omega); (conv => whnf)) | ((with_reducible refine mt_dec (fun _ => ?_) (fun _ => ?_)) <;> (conv => whnf)) | ((with_reducible refine mt_eq (fun _ => ?_) (fun _ => ?_)) <;> (conv => whnf)) | ((with_reducible refine mt_ne (fun _ => ?_) (fun _ => ?_)) <;> (conv => whnf)) | ((with_reducible refine mt_not (fun _ => ?_) (fun _ => ?_)) <;> (conv => whnf)) | ((with_reducible refine mt_any (fun _ => ?_) (fun _ => ?_)) <;> (conv => whnf)))
        refine (check_ok s (by omega)).mono ?_
        rintro _ _ ⟨rfl, rfl⟩
        rw [hsl]
        conv => whnf
        repeat' (first | ((with_reducible apply z_wrap); (focus omega); (conv => whnf)) | ((with_reducible refine mt_dec (fun _ => ?_) (fun _ => ?_)) <;> (conv => whnf)) | ((with_reducible refine mt_eq (fun _ => ?_) (fun _ => ?_)) <;> (conv => whnf)) | ((with_reducible refine mt_ne (fun _ => ?_) (fun _ => ?_)) <;> (conv => whnf)) | ((with_reducible refine mt_not (fun _ => ?_) (fun _ => ?_)) <;> (conv => whnf)) | ((with_reducible refine mt_any (fun _ => ?_) (fun _ => ?_)) <;> (conv => whnf)))
        · rename_i h2
          have hno : scan1 (b.drop ofs) = none := by
            unfold scan1
            rw [if_neg h9', if_neg (by rw [hn, hlen, Int.toNat_natCast, hc', hc1]; rintro (h | h | h) <;> first | omega | exact h rfl), if_pos (by rw [hn, Int.toNat_natCast, hw]; exact h2)]
          refine into_of [0, 1, 6] ?_
          conv => whnf
          exact ⟨rs, by rw [← hofs], by rw [hrs]; rfl, .inr ⟨rfl, by rw [← hsc, scanL_none hno, List.append_nil]⟩, by simp⟩
        rename_i h2
        have hsome : scan1 (b.drop ofs) = some s := by
          unfold scan1
          rw [if_neg h9', if_neg (by rw [hn, hlen, Int.toNat_natCast, hc', hc1]; rintro (h | h | h) <;> first | omega | exact h rfl), if_neg (by rw [hn, Int.toNat_natCast, hw]; intro h; exact h (by simpa using h2)), hn, Int.toNat_natCast, hw, hs]
        have hnew : (layL (rs ++ [s])).length = ofs + (n + 9) := by rw [lay_app, List.length_append, frame_len, hss, ← hofs]
        have hfit : ofs + (n + 9) ≤ b.length := by omega
        have hrl : (l.ext rs).recs.length = l.recs.length + rs.length := by simp [Lg.ext]
        have hrz : (l.ext rs).size = l.size + wsum rs := rfl
        have hrn := lay_recs rs
        have hrw := wsum_lay rs
        have hr0 := wsum_nonneg rs
        rw [← hofs] at hrn hrw
        rw [hrs] at hrl hrn hrz hrw hr0
        refine ⟨by rw [strs_length]; (show (_ + 1) * 16 ≤ _); omega, ?_⟩
        conv => whnf
        repeat' (first | ((with_reducible apply z_wrap); (focus omega); (conv => whnf)) | ((with_reducible refine mt_dec (fun _ => ?_) (fun _ => ?_)) <;> (conv => whnf)) | ((with_reducible refine mt_eq (fun _ => ?_) (fun _ => ?_)) <;> (conv => whnf)) | ((with_reducible refine mt_ne (fun _ => ?_) (fun _ => ?_)) <;> (conv => whnf)) | ((with_reducible refine mt_not (fun _ => ?_) (fun _ => ?_)) <;> (conv => whnf)) | ((with_reducible refine mt_any (fun _ => ?_) (fun _ => ?_)) <;> (conv => whnf)))
        refine into_of [0, 1, 6] ?_
        conv => whnf
        refine ⟨rs ++ [s], by rw [hnew, show ((ofs + (n + 9) : Nat) : Int) = (ofs : Int) + (4 + n + 5) by omega], ?_, .inl ⟨rfl, by rw [hnew]; exact hfit, ?_⟩, by rw [hnew]; simp; omega⟩
        · rw [hrs, strs_app]
          have e : wsum (x :: (r ++ [s])) = wsum (x :: r) + s.size + 16 := wsum_app (x :: r) s
          simp [scanB, Lg.L1, Lg.ext, Lg.tail, e, hss]
          omega
        · rw [hnew, ← hsc, scanL_some hsome, hss, List.drop_drop, List.append_assoc]
          rfl
    · have e := Option.some.inj (show some _ = some rest from hrest)
      subst e
      clear hrest
      subst hrs
      rcases h : scanL b with _ | ⟨x, r⟩
      · conv => whnf
        exact ⟨rfl, rfl⟩
      · conv => whnf
        exact ⟨rfl, rfl⟩
  · intro pass
    conv => whnf
    refine aw_at (σ := Unit) (fun _ => ([(0, .ptr 0 0), (1, .d (.sl 1 (u8s b))), (6, .d (.int .i64 (0 : Nat)))], scanB l [])) (fun _ => True) [0, 1, 6] ?_ ?_
    · conv => whnf
      exact ⟨(), rfl, rfl, trivial⟩
    · intro _ _
      exact pass 1 _ rfl [] (.inl ⟨rfl, Nat.zero_le _, rfl⟩)
end Go.Proofs.Ytpedbknmkgcldaa

namespace Go.Proofs.Ytpedbknmkgcldaa
open Go.Ab Go.RowKit Go.MapKept
attribute [local irreducible] ACalls AW ADraw Into
set_option maxRecDepth 100000
theorem cut_ok (d : Dk) (hd : d.dat.ok) (n : ByteArray) (k : Int) : ACalls Try.prog 29 [.ptr 0 0, .d (.str n), .d (.int .i64 k)] d.L (fun av L => ∃ d' : Dk, av = .d (.int .i64 (d.dat.cut n k).1) ∧ L = d'.L ∧ d'.dat = (d.dat.cut n k).2) := by
  refine acalls_go ttOk zOk foOk Try.func29 rfl Try.ntmps29 rfl false rfl ?_
  conv => whnf
  refine (call_by d _ n true).mono ?_
  rintro _ _ (⟨rfl, rfl, h⟩ | ⟨rfl, rfl, hk, hg, ho⟩ | ⟨rfl, rfl, hk, hg, ho, hf⟩ | ⟨i, f, rfl, rfl, hk, hg, ho, hf⟩)
  · conv => whnf
    repeat' (first | ((with_reducible apply z_wrap); (focus omega); (conv => whnf)) | ((with_reducible refine mt_dec (fun _ => ?_) (fun _ => ?_)) <;> (conv => whnf)) | ((with_reducible refine mt_eq (fun _ => ?_) (fun _ => ?_)) <;> (conv => whnf)) | ((with_reducible refine mt_ne (fun _ => ?_) (fun _ => ?_)) <;> (conv => whnf)) | ((with_reducible refine mt_not (fun _ => ?_) (fun _ => ?_)) <;> (conv => whnf)) | ((with_reducible refine mt_any (fun _ => ?_) (fun _ => ?_)) <;> (conv => whnf)))
    rw [cut_bad (by simpa using h)]
    exact ⟨d, rfl, rfl, rfl⟩
  · conv => whnf
    repeat' (first | ((with_reducible apply z_wrap); (focus omega); (conv => whnf)) | ((with_reducible refine mt_dec (fun _ => ?_) (fun _ => ?_)) <;> (conv => whnf)) | ((with_reducible refine mt_eq (fun _ => ?_) (fun _ => ?_)) <;> (conv => whnf)) | ((with_reducible refine mt_ne (fun _ => ?_) (fun _ => ?_)) <;> (conv => whnf)) | ((with_reducible refine mt_not (fun _ => ?_) (fun _ => ?_)) <;> (conv => whnf)) | ((with_reducible refine mt_any (fun _ => ?_) (fun _ => ?_)) <;> (conv => whnf)))
    rw [cut_off (by simpa using hk) hg ho]
    exact ⟨d.spend, rfl, rfl, rfl⟩
  · conv => whnf
    repeat' (first | ((with_reducible apply z_wrap); (focus omega); (conv => whnf)) | ((with_reducible refine mt_dec (fun _ => ?_) (fun _ => ?_)) <;> (conv => whnf)) | ((with_reducible refine mt_eq (fun _ => ?_) (fun _ => ?_)) <;> (conv => whnf)) | ((with_reducible refine mt_ne (fun _ => ?_) (fun _ => ?_)) <;> (conv => whnf)) | ((with_reducible refine mt_not (fun _ => ?_) (fun _ => ?_)) <;> (conv => whnf)) | ((with_reducible refine mt_any (fun _ => ?_) (fun _ => ?_)) <;> (conv => whnf)))
    rw [cut_none (by simpa using hk) hg ho (getN_none hf)]
    exact ⟨d.spend, rfl, rfl, rfl⟩
  · have hk' : ¬ k < 0 := by simpa using hk
    have hs : f.seen.length ≤ 1048576 := (hd.len f.dat (mem_getN (getN_some hf))).1
    conv => whnf
    repeat' (first | ((with_reducible apply z_wrap); (focus omega); (conv => whnf)) | ((with_reducible refine mt_dec (fun _ => ?_) (fun _ => ?_)) <;> (conv => whnf)) | ((with_reducible refine mt_eq (fun _ => ?_) (fun _ => ?_)) <;> (conv => whnf)) | ((with_reducible refine mt_ne (fun _ => ?_) (fun _ => ?_)) <;> (conv => whnf)) | ((with_reducible refine mt_not (fun _ => ?_) (fun _ => ?_)) <;> (conv => whnf)) | ((with_reducible refine mt_any (fun _ => ?_) (fun _ => ?_)) <;> (conv => whnf)))
    refine ⟨f.cs, box_at (findF_mem hf), ?_⟩
    conv => whnf
    repeat' (first | ((with_reducible apply z_wrap); (focus omega); (conv => whnf)) | ((with_reducible refine mt_dec (fun _ => ?_) (fun _ => ?_)) <;> (conv => whnf)) | ((with_reducible refine mt_eq (fun _ => ?_) (fun _ => ?_)) <;> (conv => whnf)) | ((with_reducible refine mt_ne (fun _ => ?_) (fun _ => ?_)) <;> (conv => whnf)) | ((with_reducible refine mt_not (fun _ => ?_) (fun _ => ?_)) <;> (conv => whnf)) | ((with_reducible refine mt_any (fun _ => ?_) (fun _ => ?_)) <;> (conv => whnf)))
    · rename_i hl
      simp only [u8s_length] at hl
      rw [cut_long hk' hg ho (getN_some hf) (by show (f.seen.length : Int) < k; omega)]
      exact ⟨d.spend, rfl, rfl, rfl⟩
    · rename_i hl
      simp only [u8s_length] at hl
      rw [cut_some hk' hg ho (getN_some hf) (by show ¬ (f.seen.length : Int) < k; omega)]
      refine ⟨f.cs, box_at (findF_mem hf), ?_⟩
      conv => whnf
      repeat' (first | ((with_reducible apply z_wrap); (focus omega); (conv => whnf)) | ((with_reducible refine mt_dec (fun _ => ?_) (fun _ => ?_)) <;> (conv => whnf)) | ((with_reducible refine mt_eq (fun _ => ?_) (fun _ => ?_)) <;> (conv => whnf)) | ((with_reducible refine mt_ne (fun _ => ?_) (fun _ => ?_)) <;> (conv => whnf)) | ((with_reducible refine mt_not (fun _ => ?_) (fun _ => ?_)) <;> (conv => whnf)) | ((with_reducible refine mt_any (fun _ => ?_) (fun _ => ?_)) <;> (conv => whnf)))
      refine ⟨by omega, by omega, by rw [u8s_length]; omega, ?_⟩
      conv => whnf
      repeat' (first | ((with_reducible apply z_wrap); (focus omega); (conv => whnf)) | ((with_reducible refine mt_dec (fun _ => ?_) (fun _ => ?_)) <;> (conv => whnf)) | ((with_reducible refine mt_eq (fun _ => ?_) (fun _ => ?_)) <;> (conv => whnf)) | ((with_reducible refine mt_ne (fun _ => ?_) (fun _ => ?_)) <;> (conv => whnf)) | ((with_reducible refine mt_not (fun _ => ?_) (fun _ => ?_)) <;> (conv => whnf)) | ((with_reducible refine mt_any (fun _ => ?_) (fun _ => ?_)) <;> (conv => whnf)))
      have e : ((u8s f.seen).take k.toNat).drop (Int.toNat 0) = u8s (f.seen.take k.toNat) := by simp [u8s, List.map_take]
      rw [e]
      refine (clone_row (f.seen.take k.toNat) (by simp; omega)).mono ?_
      rintro _ _ ⟨rfl, rfl⟩
      conv => whnf
      repeat' (first | ((with_reducible apply z_wrap); (focus omega); (conv => whnf)) | ((with_reducible refine mt_dec (fun _ => ?_) (fun _ => ?_)) <;> (conv => whnf)) | ((with_reducible refine mt_eq (fun _ => ?_) (fun _ => ?_)) <;> (conv => whnf)) | ((with_reducible refine mt_ne (fun _ => ?_) (fun _ => ?_)) <;> (conv => whnf)) | ((with_reducible refine mt_not (fun _ => ?_) (fun _ => ?_)) <;> (conv => whnf)) | ((with_reducible refine mt_any (fun _ => ?_) (fun _ => ?_)) <;> (conv => whnf)))
      refine .inl ⟨1, _, i, _, _, rfl, ent_at hf, by simp [Fl.cs], ?_⟩
      intro L' hL
      obtain rfl : L' = [.cells [.d (.int .i64 d.spend.calls), .d (.bool d.spend.off), .d (.int .i64 d.spend.upto), .map 1], .map ((d.spend.put i ⟨f.name, f.b, f.safe, f.seen.take k.toNat⟩).fs.map Fl.ent), .row 5 1 (u8s (f.seen.take k.toNat)) true] := by rw [hL]; simp [Dk.put, List.map_set, Fl.ent, Fl.cs, overD, norm1]
      clear hL
      conv => whnf
      exact ⟨d.spend.put i ⟨f.name, f.b, f.safe, f.seen.take k.toNat⟩, rfl, rfl, put_dat (d := d.spend) hf (fun f => { f with seen := f.seen.take k.toNat }) _ rfl⟩
end Go.Proofs.Ytpedbknmkgcldaa

namespace Go.Proofs.Ytpedbknmkgcldaa
open Go.Ab Go.RowKit Go.MapKept
attribute [local irreducible] ACalls AW ADraw Into
set_option maxRecDepth 100000
def LD.got (l : LD) (rs : List ByteArray) : LD := { l with file := true, recs := l.recs ++ rs, size := l.size + wsum rs }
def LD.load (l : LD) : Int × LD :=
  if (l.d.read logN).2 = 3 then (0, l) else
  if (l.d.read logN).2 ≠ 0 then ((l.d.read logN).2, l) else
  if ((layL (scanL (l.d.read logN).1)).length : Int) = (l.d.read logN).1.length then ((l.d.sync logN).1, { l.got (scanL (l.d.read logN).1) with d := (l.d.sync logN).2 }) else
  if (l.d.cut logN (layL (scanL (l.d.read logN).1)).length).1 ≠ 0 then ((l.d.cut logN (layL (scanL (l.d.read logN).1)).length).1, { l.got (scanL (l.d.read logN).1) with d := (l.d.cut logN (layL (scanL (l.d.read logN).1)).length).2 }) else
  (((l.d.cut logN (layL (scanL (l.d.read logN).1)).length).2.sync logN).1, { l.got (scanL (l.d.read logN).1) with d := ((l.d.cut logN (layL (scanL (l.d.read logN).1)).length).2.sync logN).2 })
set_option maxHeartbeats 4000000 in
theorem load_ok (l : Lg) (hd : l.d.dat.fine) (hz : 0 ≤ l.size ∧ l.size ≤ 1073741824) (hl : l.recs.length ≤ 100000) : ACalls Try.prog 87 [.ptr 0 0] l.L (fun av L => ∃ l' : Lg, av = .d (.int .i64 (l.dat.load).1) ∧ (L = l'.L ∨ L = l'.L1) ∧ l'.dat = (l.dat.load).2) := by
  refine acalls_go ttOk zOk foOk Try.func87 rfl Try.ntmps87 rfl false rfl ?_
  conv => whnf
  repeat' (first | ((with_reducible apply z_wrap); (focus omega); (conv => whnf)) | ((with_reducible refine mt_dec (fun _ => ?_) (fun _ => ?_)) <;> (conv => whnf)) | ((with_reducible refine mt_eq (fun _ => ?_) (fun _ => ?_)) <;> (conv => whnf)) | ((with_reducible refine mt_ne (fun _ => ?_) (fun _ => ?_)) <;> (conv => whnf)) | ((with_reducible refine mt_not (fun _ => ?_) (fun _ => ?_)) <;> (conv => whnf)) | ((with_reducible refine mt_any (fun _ => ?_) (fun _ => ?_)) <;> (conv => whnf)))
  refine (read_ok l.d hd.ok logN).mono ?_
  rintro _ _ ⟨rfl, rfl⟩
  conv => whnf
  repeat' (first | ((with_reducible apply z_wrap); (focus omega); (conv => whnf)) | ((with_reducible refine mt_dec (fun _ => ?_) (fun _ => ?_)) <;> (conv => whnf)) | ((with_reducible refine mt_eq (fun _ => ?_) (fun _ => ?_)) <;> (conv => whnf)) | ((with_reducible refine mt_ne (fun _ => ?_) (fun _ => ?_)) <;> (conv => whnf)) | ((with_reducible refine mt_not (fun _ => ?_) (fun _ => ?_)) <;> (conv => whnf)) | ((with_reducible refine mt_any (fun _ => ?_) (fun _ => ?_)) <;> (conv => whnf)))
  · rename_i h3
    have h3' : (l.dat.d.read logN).2 = 3 := h3
    rw [show l.dat.load = (0, l.dat) by simp only [LD.load, if_pos h3']]
    exact ⟨l, rfl, .inl rfl, rfl⟩
  · rename_i h3 h0
    have h3' : ¬ (l.dat.d.read logN).2 = 3 := h3
    have h0' : (l.dat.d.read logN).2 ≠ 0 := h0
    rw [show l.dat.load = ((l.dat.d.read logN).2, l.dat) by simp only [LD.load, if_neg h3', if_pos h0']]
    exact ⟨l, rfl, .inl rfl, rfl⟩
  rename_i h3 h0
  have h3' : ¬ (l.dat.d.read logN).2 = 3 := h3
  have h0'' : ¬ (l.dat.d.read logN).2 ≠ 0 := fun h => h (by simpa using h0 : (l.d.dat.read logN).2 = 0)
  obtain ⟨b, hrd⟩ : ∃ b, (l.d.dat.read logN).1 = b := ⟨_, rfl⟩
  have hrd' : (l.dat.d.read logN).1 = b := hrd
  have hub : (u8s b).length = b.length := u8s_length b
  have hb : b.length ≤ 1048576 := by
    rw [← hrd]
    unfold DD.read
    split
    · simp
    · split
      · simp
      · split
        · simp
        · rename_i f hf
          exact (hd.ok.len f (mem_getN hf)).1
  rw [hrd]
  conv => whnf
  refine (scan_ok { l with file := true } b hb hz hl).mono ?_
  rintro _ _ ⟨rfl, rfl⟩
  rcases hsc : scanL b with _ | ⟨x, r⟩
  · conv => whnf
    repeat' (first | ((with_reducible apply z_wrap); (focus omega); (conv => whnf)) | ((with_reducible refine mt_dec (fun _ => ?_) (fun _ => ?_)) <;> (conv => whnf)) | ((with_reducible refine mt_eq (fun _ => ?_) (fun _ => ?_)) <;> (conv => whnf)) | ((with_reducible refine mt_ne (fun _ => ?_) (fun _ => ?_)) <;> (conv => whnf)) | ((with_reducible refine mt_not (fun _ => ?_) (fun _ => ?_)) <;> (conv => whnf)) | ((with_reducible refine mt_any (fun _ => ?_) (fun _ => ?_)) <;> (conv => whnf)))
    · rename_i hn
      rw [hub] at hn
      have hn' : ((layL []).length : Int) = b.length := hn
      rw [show l.dat.load = ((l.dat.d.sync logN).1, { l.dat.got [] with d := (l.dat.d.sync logN).2 }) by simp only [LD.load, if_neg h3', if_neg h0'', hrd', hsc, if_pos hn']]
      refine (sync_ok l.d logN).mono ?_
      rintro _ _ ⟨d', rfl, rfl, hd'⟩
      conv => whnf
      exact ⟨{ { l with file := true } with d := d' }, rfl, .inl rfl, by simp only [Lg.dat, hd', LD.got, Lg.ext, List.append_nil, wsum, Int.add_zero]⟩
    rename_i hn
    rw [hub] at hn
    have hn' : ¬ ((layL []).length : Int) = b.length := hn
    refine (cut_ok l.d hd.ok logN (layL []).length).mono ?_
    rintro _ _ ⟨d1, rfl, rfl, hd1⟩
    conv => whnf
    repeat' (first | ((with_reducible apply z_wrap); (focus omega); (conv => whnf)) | ((with_reducible refine mt_dec (fun _ => ?_) (fun _ => ?_)) <;> (conv => whnf)) | ((with_reducible refine mt_eq (fun _ => ?_) (fun _ => ?_)) <;> (conv => whnf)) | ((with_reducible refine mt_ne (fun _ => ?_) (fun _ => ?_)) <;> (conv => whnf)) | ((with_reducible refine mt_not (fun _ => ?_) (fun _ => ?_)) <;> (conv => whnf)) | ((with_reducible refine mt_any (fun _ => ?_) (fun _ => ?_)) <;> (conv => whnf)))
    · rename_i hc
      have hc' : (l.dat.d.cut logN (layL []).length).1 ≠ 0 := hc
      rw [show l.dat.load = ((l.dat.d.cut logN (layL []).length).1, { l.dat.got [] with d := (l.dat.d.cut logN (layL []).length).2 }) by simp only [LD.load, if_neg h3', if_neg h0'', hrd', hsc, if_neg hn', if_pos hc']]
      exact ⟨{ { l with file := true } with d := d1 }, rfl, .inl rfl, by simp only [Lg.dat, hd1, LD.got, Lg.ext, List.append_nil, wsum, Int.add_zero]⟩
    rename_i hc
    have hc' : ¬ (l.dat.d.cut logN (layL []).length).1 ≠ 0 := fun h => h (by simpa using hc : (l.d.dat.cut logN (layL []).length).1 = 0)
    rw [show l.dat.load = (((l.dat.d.cut logN (layL []).length).2.sync logN).1, { l.dat.got [] with d := ((l.dat.d.cut logN (layL []).length).2.sync logN).2 }) by simp only [LD.load, if_neg h3', if_neg h0'', hrd', hsc, if_neg hn', if_neg hc']]
    refine (sync_ok d1 logN).mono ?_
    rintro _ _ ⟨d', rfl, rfl, hd'⟩
    rw [hd1] at hd' ⊢
    conv => whnf
    exact ⟨{ { l with file := true } with d := d' }, rfl, .inl rfl, by simp only [Lg.dat, hd', LD.got, Lg.ext, List.append_nil, wsum, Int.add_zero]⟩
  · conv => whnf
    repeat' (first | ((with_reducible apply z_wrap); (focus omega); (conv => whnf)) | ((with_reducible refine mt_dec (fun _ => ?_) (fun _ => ?_)) <;> (conv => whnf)) | ((with_reducible refine mt_eq (fun _ => ?_) (fun _ => ?_)) <;> (conv => whnf)) | ((with_reducible refine mt_ne (fun _ => ?_) (fun _ => ?_)) <;> (conv => whnf)) | ((with_reducible refine mt_not (fun _ => ?_) (fun _ => ?_)) <;> (conv => whnf)) | ((with_reducible refine mt_any (fun _ => ?_) (fun _ => ?_)) <;> (conv => whnf)))
    · rename_i hn
      rw [hub] at hn
      have hn' : ((layL (x :: r)).length : Int) = b.length := hn
      rw [show l.dat.load = ((l.dat.d.sync logN).1, { l.dat.got (x :: r) with d := (l.dat.d.sync logN).2 }) by simp only [LD.load, if_neg h3', if_neg h0'', hrd', hsc, if_pos hn']]
      refine (sync_ok l.d logN).mono ?_
      rintro _ _ ⟨d', rfl, rfl, hd'⟩
      conv => whnf
      exact ⟨{ ({ l with file := true } : Lg).ext (x :: r) with d := d' }, rfl, .inr rfl, by simp only [Lg.dat, hd', LD.got, Lg.ext, List.append_nil, wsum, Int.add_zero]⟩
    rename_i hn
    rw [hub] at hn
    have hn' : ¬ ((layL (x :: r)).length : Int) = b.length := hn
    refine (cut_ok l.d hd.ok logN (layL (x :: r)).length).mono ?_
    rintro _ _ ⟨d1, rfl, rfl, hd1⟩
    conv => whnf
    repeat' (first | ((with_reducible apply z_wrap); (focus omega); (conv => whnf)) | ((with_reducible refine mt_dec (fun _ => ?_) (fun _ => ?_)) <;> (conv => whnf)) | ((with_reducible refine mt_eq (fun _ => ?_) (fun _ => ?_)) <;> (conv => whnf)) | ((with_reducible refine mt_ne (fun _ => ?_) (fun _ => ?_)) <;> (conv => whnf)) | ((with_reducible refine mt_not (fun _ => ?_) (fun _ => ?_)) <;> (conv => whnf)) | ((with_reducible refine mt_any (fun _ => ?_) (fun _ => ?_)) <;> (conv => whnf)))
    · rename_i hc
      have hc' : (l.dat.d.cut logN (layL (x :: r)).length).1 ≠ 0 := hc
      rw [show l.dat.load = ((l.dat.d.cut logN (layL (x :: r)).length).1, { l.dat.got (x :: r) with d := (l.dat.d.cut logN (layL (x :: r)).length).2 }) by simp only [LD.load, if_neg h3', if_neg h0'', hrd', hsc, if_neg hn', if_pos hc']]
      exact ⟨{ ({ l with file := true } : Lg).ext (x :: r) with d := d1 }, rfl, .inr rfl, by simp only [Lg.dat, hd1, LD.got, Lg.ext, List.append_nil, wsum, Int.add_zero]⟩
    rename_i hc
    have hc' : ¬ (l.dat.d.cut logN (layL (x :: r)).length).1 ≠ 0 := fun h => h (by simpa using hc : (l.d.dat.cut logN (layL (x :: r)).length).1 = 0)
    rw [show l.dat.load = (((l.dat.d.cut logN (layL (x :: r)).length).2.sync logN).1, { l.dat.got (x :: r) with d := ((l.dat.d.cut logN (layL (x :: r)).length).2.sync logN).2 }) by simp only [LD.load, if_neg h3', if_neg h0'', hrd', hsc, if_neg hn', if_neg hc']]
    refine (sync_ok d1 logN).mono ?_
    rintro _ _ ⟨d', rfl, rfl, hd'⟩
    rw [hd1] at hd' ⊢
    conv => whnf
    exact ⟨{ ({ l with file := true } : Lg).ext (x :: r) with d := d' }, rfl, .inr rfl, by simp only [Lg.dat, hd', LD.got, Lg.ext, List.append_nil, wsum, Int.add_zero]⟩
end Go.Proofs.Ytpedbknmkgcldaa

namespace Go.Proofs.Ytpedbknmkgcldaa
open Go.Ab Go.RowKit Go.MapKept
attribute [local irreducible] ACalls AW ADraw Into
set_option maxRecDepth 100000
def LD.opn (d : DD) : Int × LD :=
  if (LD.mk d [] 0 false false).sweep.1 ≠ 0 then (LD.mk d [] 0 false false).sweep else (LD.mk d [] 0 false false).sweep.2.load
theorem load_end (l : LD) : l.load.1 = 0 ∨ l.load.1 ≠ 0 := by omega
set_option maxHeartbeats 4000000 in
theorem open_ok (d : Dk) (hd : d.dat.fine) : ACalls Try.prog 39 [.ptr 0 0] d.L (fun av L => ∃ l : Lg, l.dat = (LD.opn d.dat).2 ∧ (((LD.opn d.dat).1 = 0 ∧ av = .tup [.ptr 2 0, .d (.int .i64 0)] ∧ L = l.O) ∨ ((LD.opn d.dat).1 ≠ 0 ∧ av = .tup [.d .nilp, .d (.int .i64 (LD.opn d.dat).1)] ∧ L = l.d.L))) := by
  refine acalls_go ttOk zOk foOk Try.func39 rfl Try.ntmps39 rfl true rfl ?_
  conv => whnf
  repeat' (first | ((with_reducible apply z_wrap); (focus omega); (conv => whnf)) | ((with_reducible refine mt_dec (fun _ => ?_) (fun _ => ?_)) <;> (conv => whnf)) | ((with_reducible refine mt_eq (fun _ => ?_) (fun _ => ?_)) <;> (conv => whnf)) | ((with_reducible refine mt_ne (fun _ => ?_) (fun _ => ?_)) <;> (conv => whnf)) | ((with_reducible refine mt_not (fun _ => ?_) (fun _ => ?_)) <;> (conv => whnf)) | ((with_reducible refine mt_any (fun _ => ?_) (fun _ => ?_)) <;> (conv => whnf)))
  refine (sweep_ok (newLg d) hd.ok).mono ?_
  rintro _ _ ⟨l1, rfl, rfl, hl1, hsh⟩
  have e0 : (newLg d).dat = LD.mk d.dat [] 0 false false := rfl
  rw [e0] at hl1 ⊢
  conv => whnf
  repeat' (first | ((with_reducible apply z_wrap); (focus omega); (conv => whnf)) | ((with_reducible refine mt_dec (fun _ => ?_) (fun _ => ?_)) <;> (conv => whnf)) | ((with_reducible refine mt_eq (fun _ => ?_) (fun _ => ?_)) <;> (conv => whnf)) | ((with_reducible refine mt_ne (fun _ => ?_) (fun _ => ?_)) <;> (conv => whnf)) | ((with_reducible refine mt_not (fun _ => ?_) (fun _ => ?_)) <;> (conv => whnf)) | ((with_reducible refine mt_any (fun _ => ?_) (fun _ => ?_)) <;> (conv => whnf)))
  · rename_i h
    have e : LD.opn d.dat = (LD.mk d.dat [] 0 false false).sweep := by unfold LD.opn; rw [if_pos h]
    rw [e]
    exact ⟨l1, hl1, .inr ⟨h, rfl, rfl⟩⟩
  · rename_i h
    have e : LD.opn d.dat = (LD.mk d.dat [] 0 false false).sweep.2.load := by unfold LD.opn; rw [if_neg (fun h2 => h2 (by simpa using h))]
    have hf1 : l1.d.dat.fine := by
      have : l1.d.dat = l1.dat.d := rfl
      rw [this, hl1]
      exact sweep_fine (l := LD.mk d.dat [] 0 false false) hd
    have hr1 : l1.recs = [] := by
      have : l1.recs = l1.dat.recs := rfl
      rw [this, hl1, sweep_recs]
    have hz1 : l1.size = 0 := by
      have : l1.size = l1.dat.size := rfl
      rw [this, hl1]
      unfold LD.sweep
      split
      · rfl
      · split <;> rfl
    refine (load_ok l1 hf1 (by rw [hz1]; decide) (by rw [hr1]; decide)).mono ?_
    rintro _ _ ⟨l2, rfl, rfl | rfl, hl2⟩
    · rw [hl1] at hl2 ⊢
      rw [← e] at hl2 ⊢
      conv => whnf
      repeat' (first | ((with_reducible apply z_wrap); (focus omega); (conv => whnf)) | ((with_reducible refine mt_dec (fun _ => ?_) (fun _ => ?_)) <;> (conv => whnf)) | ((with_reducible refine mt_eq (fun _ => ?_) (fun _ => ?_)) <;> (conv => whnf)) | ((with_reducible refine mt_ne (fun _ => ?_) (fun _ => ?_)) <;> (conv => whnf)) | ((with_reducible refine mt_not (fun _ => ?_) (fun _ => ?_)) <;> (conv => whnf)) | ((with_reducible refine mt_any (fun _ => ?_) (fun _ => ?_)) <;> (conv => whnf)))
      · rename_i h2
        exact ⟨l2, hl2, .inr ⟨h2, rfl, rfl⟩⟩
      · rename_i h2
        exact ⟨l2, hl2, .inl ⟨by simpa using h2, rfl, rfl⟩⟩
    · rw [hl1] at hl2 ⊢
      rw [← e] at hl2 ⊢
      conv => whnf
      repeat' (first | ((with_reducible apply z_wrap); (focus omega); (conv => whnf)) | ((with_reducible refine mt_dec (fun _ => ?_) (fun _ => ?_)) <;> (conv => whnf)) | ((with_reducible refine mt_eq (fun _ => ?_) (fun _ => ?_)) <;> (conv => whnf)) | ((with_reducible refine mt_ne (fun _ => ?_) (fun _ => ?_)) <;> (conv => whnf)) | ((with_reducible refine mt_not (fun _ => ?_) (fun _ => ?_)) <;> (conv => whnf)) | ((with_reducible refine mt_any (fun _ => ?_) (fun _ => ?_)) <;> (conv => whnf)))
      · rename_i h2
        exact ⟨l2, hl2, .inr ⟨h2, rfl, rfl⟩⟩
      · rename_i h2
        exact ⟨l2, hl2, .inl ⟨by simpa using h2, rfl, rfl⟩⟩
theorem open_nil : ACalls Try.prog 39 [.d .nilp] [] (fun av L => av = .tup [.d .nilp, .d (.int .i64 1)] ∧ L = []) := by
  refine acalls_go ttOk zOk foOk Try.func39 rfl Try.ntmps39 rfl false rfl ?_
  conv => whnf
  exact ⟨rfl, rfl⟩
end Go.Proofs.Ytpedbknmkgcldaa

namespace Go.Proofs.Ytpedbknmkgcldaa
open Go.Ab Go.RowKit Go.MapKept
attribute [local irreducible] ACalls AW ADraw Into
set_option maxRecDepth 100000
def foldO (os : List Op11) : List (ByteArray × ByteArray) := os.foldl Op11.app []
theorem fold_take {os : List Op11} {k : Nat} {o : Op11} (h : os[k]? = some o) : foldO (os.take (k + 1)) = o.app (foldO (os.take k)) := by
  unfold foldO
  rw [List.take_add_one, h, List.foldl_append]
  rfl
theorem fold_nodup (os : List Op11) : ((foldO os).map (·.1)).Nodup := by
  have : ∀ (l : List Op11) (ps : List (ByteArray × ByteArray)), (ps.map (·.1)).Nodup → ((l.foldl Op11.app ps).map (·.1)).Nodup := by
    intro l
    induction l with
    | nil => intro ps h; exact h
    | cons o r ih => intro ps h; exact ih _ (app_nodup h o)
  exact this os [] (by simp)
theorem fold_psum (os : List Op11) : psum (foldO os) ≤ 4 * wsum (os.map Op11.enc) := by
  have : ∀ (l : List Op11) (ps : List (ByteArray × ByteArray)), psum (l.foldl Op11.app ps) ≤ psum ps + 4 * wsum (l.map Op11.enc) := by
    intro l
    induction l with
    | nil => intro ps; simp [wsum]
    | cons o r ih =>
      intro ps
      have h1 := ih (o.app ps)
      have h2 := app_psum ps o
      simp only [List.foldl_cons, List.map_cons, wsum]
      omega
  have := this os []
  simpa [psum, foldO] using this
theorem wsum_take2 (os : List Op11) (k : Nat) : wsum ((os.take k).map Op11.enc) ≤ wsum (os.map Op11.enc) := by
  have : ∀ a b : List ByteArray, wsum (a ++ b) = wsum a + wsum b := by
    intro a b
    induction a with
    | nil => simp [wsum]
    | cons x r ih => simp only [List.cons_append, wsum, ih]; omega
  have h := this ((os.take k).map Op11.enc) ((os.drop k).map Op11.enc)
  rw [← List.map_append, List.take_append_drop] at h
  have := wsum_nonneg ((os.drop k).map Op11.enc)
  omega
theorem readO_ok (l : Lg) (ps : List (ByteArray × ByteArray)) (hp : psum ps ≤ 1000000000) (hn : (ps.map (·.1)).Nodup) (o : Op11) (ho : o.ok) : ACalls Try.prog 95 [.ptr 0 0, .d (.str o.enc)] (Kc l ps false) (fun av L => av = .d (.bool true) ∧ L = Kc l (o.app ps) false) := by
  cases o with
  | put k v => exact readP_ok ⟨l, ps, false⟩ hp hn k v ho.1 (by have := ho.2; omega)
  | del k => exact readD_ok ⟨l, ps, false⟩ hp k ⟨#[]⟩ ho (by decide)
set_option maxHeartbeats 4000000 in
theorem kopen_ok (d : Dk) (hd : d.dat.fine) {x : LS} (hx : x.ok) (ho : LD.opn d.dat = (0, x.l)) (os : List Op11) (hos : ∀ o ∈ os, o.ok) (hr : x.recs = os.map Op11.enc) : ACalls Try.prog 53 [.ptr 0 0] d.L (fun av L => av = .tup [.ptr 2 0, .d (.int .i64 0)] ∧ ∃ l : Lg, L = Ko l (foldO os) ∧ l.dat = x.l) := by
  have hsum := hx.sum
  rw [hr] at hsum
  have hol : 16 * (os.length : Int) ≤ wsum (os.map Op11.enc) := by have := wsum_len (os.map Op11.enc); simpa using this
  refine acalls_go ttOk zOk foOk Try.func53 rfl Try.ntmps53 rfl true rfl ?_
  conv => whnf
  repeat' (first | ((with_reducible apply z_wrap); (focus omega); (conv => whnf)) | ((with_reducible refine mt_dec (fun _ => ?_) (fun _ => ?_)) <;> (conv => whnf)) | ((with_reducible refine mt_eq (fun _ => ?_) (fun _ => ?_)) <;> (conv => whnf)) | ((with_reducible refine mt_ne (fun _ => ?_) (fun _ => ?_)) <;> (conv => whnf)) | ((with_reducible refine mt_not (fun _ => ?_) (fun _ => ?_)) <;> (conv => whnf)) | ((with_reducible refine mt_any (fun _ => ?_) (fun _ => ?_)) <;> (conv => whnf)))
  refine (open_ok d hd).mono ?_
  rw [ho]
  rintro _ _ ⟨l, hl, ⟨_, rfl, rfl⟩ | ⟨h, _⟩⟩
  rotate_left
  · exact absurd rfl h
  replace hl : l.dat = x.l := hl
  conv => whnf
  repeat' (first | ((with_reducible apply z_wrap); (focus omega); (conv => whnf)) | ((with_reducible refine mt_dec (fun _ => ?_) (fun _ => ?_)) <;> (conv => whnf)) | ((with_reducible refine mt_eq (fun _ => ?_) (fun _ => ?_)) <;> (conv => whnf)) | ((with_reducible refine mt_ne (fun _ => ?_) (fun _ => ?_)) <;> (conv => whnf)) | ((with_reducible refine mt_not (fun _ => ?_) (fun _ => ?_)) <;> (conv => whnf)) | ((with_reducible refine mt_any (fun _ => ?_) (fun _ => ?_)) <;> (conv => whnf)))
  obtain ⟨_, _, p3, p4⟩ := LS.pre hx hl
  refine (all_ok l p3).mono ?_
  rintro _ _ ⟨rfl, rfl⟩
  have hrl : l.recs = os.map Op11.enc := by rw [p4, hr]
  have hlen : (strs l.recs).length = os.length := by rw [hrl]; simp [strs]
  conv => whnf
  repeat' (first | ((with_reducible apply z_wrap); (focus omega); (conv => whnf)) | ((with_reducible refine mt_dec (fun _ => ?_) (fun _ => ?_)) <;> (conv => whnf)) | ((with_reducible refine mt_eq (fun _ => ?_) (fun _ => ?_)) <;> (conv => whnf)) | ((with_reducible refine mt_ne (fun _ => ?_) (fun _ => ?_)) <;> (conv => whnf)) | ((with_reducible refine mt_not (fun _ => ?_) (fun _ => ?_)) <;> (conv => whnf)) | ((with_reducible refine mt_any (fun _ => ?_) (fun _ => ?_)) <;> (conv => whnf)))
  refine loop_go ttOk zOk foOk (σ := Nat) (fun k => ([(6, .ptr 2 0), (22, .arr 3), (23, .d (.int .i64 (strs l.recs).length)), (24, .d (.int .i64 k))], [.cells [.d (.int .i64 l.d.calls), .d (.bool l.d.off), .d (.int .i64 l.d.upto), .map 1], .map (l.d.fs.map Fl.ent), .cells [.ptr 4 0, .map 5, .d (.int .i64 (psum (foldO (os.take k)))), .d (.bool false)], .row 9 1 (strs l.recs) false, .cells (.ptr 0 0 :: .arr 6 :: l.tail), .map ((foldO (os.take k)).map pe), .row 9 1 (strs l.recs) l.sh])) (fun k => k ≤ os.length) (fun k => os.length - k) [6, 22, 23, 24] ?_ ?_
  · conv => whnf
    exact ⟨0, rfl, rfl, Nat.zero_le _⟩
  · intro k hk
    have h1 := fold_psum (os.take k)
    have h2 := wsum_take2 os k
    have hnd := fold_nodup (os.take k)
    conv => whnf
    repeat' (first | ((with_reducible apply z_wrap); (focus omega); (conv => whnf)) | ((with_reducible refine mt_dec (fun _ => ?_) (fun _ => ?_)) <;> (conv => whnf)) | ((with_reducible refine mt_eq (fun _ => ?_) (fun _ => ?_)) <;> (conv => whnf)) | ((with_reducible refine mt_ne (fun _ => ?_) (fun _ => ?_)) <;> (conv => whnf)) | ((with_reducible refine mt_not (fun _ => ?_) (fun _ => ?_)) <;> (conv => whnf)) | ((with_reducible refine mt_any (fun _ => ?_) (fun _ => ?_)) <;> (conv => whnf)))
    · rename_i h
      obtain ⟨o, hoo⟩ : ∃ o, os[k]? = some o := ⟨_, List.getElem?_eq_getElem (by omega)⟩
      refine ⟨by omega, by rw [hlen]; show k < os.length; omega, [.str o.enc], by rw [hrl, Int.toNat_natCast, strs, List.getElem?_map, List.getElem?_map, hoo]; rfl, ?_⟩
      conv => whnf
      repeat' (first | ((with_reducible apply z_wrap); (focus omega); (conv => whnf)) | ((with_reducible refine mt_dec (fun _ => ?_) (fun _ => ?_)) <;> (conv => whnf)) | ((with_reducible refine mt_eq (fun _ => ?_) (fun _ => ?_)) <;> (conv => whnf)) | ((with_reducible refine mt_ne (fun _ => ?_) (fun _ => ?_)) <;> (conv => whnf)) | ((with_reducible refine mt_not (fun _ => ?_) (fun _ => ?_)) <;> (conv => whnf)) | ((with_reducible refine mt_any (fun _ => ?_) (fun _ => ?_)) <;> (conv => whnf)))
      refine (readO_ok l (foldO (os.take k)) (by omega) hnd o (hos o (List.mem_of_getElem? hoo))).mono ?_
      rintro _ _ ⟨rfl, rfl⟩
      conv => whnf
      repeat' (first | ((with_reducible apply z_wrap); (focus omega); (conv => whnf)) | ((with_reducible refine mt_dec (fun _ => ?_) (fun _ => ?_)) <;> (conv => whnf)) | ((with_reducible refine mt_eq (fun _ => ?_) (fun _ => ?_)) <;> (conv => whnf)) | ((with_reducible refine mt_ne (fun _ => ?_) (fun _ => ?_)) <;> (conv => whnf)) | ((with_reducible refine mt_not (fun _ => ?_) (fun _ => ?_)) <;> (conv => whnf)) | ((with_reducible refine mt_any (fun _ => ?_) (fun _ => ?_)) <;> (conv => whnf)))
      refine ⟨k + 1, rfl, ?_, by omega, by omega⟩
      rw [fold_take hoo]
      rfl
    · rename_i h
      obtain rfl : k = os.length := by omega
      rw [List.take_length]
      exact ⟨rfl, l, rfl, hl⟩
end Go.Proofs.Ytpedbknmkgcldaa

namespace Go.Proofs.Ytpedbknmkgcldaa
open Go.Ab Go.RowKit
/-! ## what is read of frames -/
theorem scan1_frame (s : ByteArray) (rest : List UInt8) (hs : s.size ≤ 4096) : scan1 (frameL s ++ rest) = some s := by
  have hds : s.data.toList.length = s.size := by simp
  have hc := chk_range s.data.toList
  have e : frameL s ++ rest = fourL s.size ++ (s.data.toList ++ (fourL (chk s.data.toList) ++ ([1] ++ rest))) := by simp [frameL]
  have hlen : (frameL s ++ rest).length = s.size + 9 + rest.length := by rw [List.length_append, frame_len]
  have hn : num4 (frameL s ++ rest) = (s.size : Int) := by
    rw [e]
    show numL _ _ _ _ = _
    exact num_four _ (by omega)
  have hd4 : (frameL s ++ rest).drop 4 = s.data.toList ++ (fourL (chk s.data.toList) ++ ([1] ++ rest)) := by rw [e]; rfl
  have hw : ((frameL s ++ rest).drop 4).take s.size = s.data.toList := by rw [hd4, ← hds, List.take_left]
  have hd2 : (frameL s ++ rest).drop (4 + s.size) = fourL (chk s.data.toList) ++ ([1] ++ rest) := by
    rw [← List.drop_drop, hd4, ← hds, List.drop_left]
  have h1 : (frameL s ++ rest)[s.size + 8]? = some 1 := by
    have : (frameL s ++ rest)[4 + s.size + 4]? = ((frameL s ++ rest).drop (4 + s.size))[4]? := by rw [List.getElem?_drop]
    rw [show s.size + 8 = 4 + s.size + 4 by omega, this, hd2]
    rfl
  have hn2 : num4 ((frameL s ++ rest).drop (4 + s.size)) = chk s.data.toList := by
    rw [hd2]
    show numL _ _ _ _ = _
    exact num_four _ hc
  unfold scan1
  rw [hn, Int.toNat_natCast, hw, hn2, h1, hlen, if_neg (by omega), if_neg (by rintro (h | h | h) <;> first | omega | exact h rfl), if_neg (by simp)]
theorem scan_lay (l : List ByteArray) (rest : List UInt8) (hs : ∀ s ∈ l, s.size ≤ 4096) : scanL (layL l ++ rest) = l ++ scanL rest := by
  induction l with
  | nil => rfl
  | cons x r ih =>
    have e : layL (x :: r) ++ rest = frameL x ++ (layL r ++ rest) := by simp [layL]
    rw [e, scanL_some (scan1_frame x _ (hs x (by simp))), ← frame_len x, List.drop_left, ih fun s h => hs s (by simp [h])]
    rfl
theorem scanL_nil : scanL [] = [] := scanL_none (by simp [scan1])
theorem scan_all (l : List ByteArray) (hs : ∀ s ∈ l, s.size ≤ 4096) : scanL (layL l) = l := by
  have := scan_lay l [] hs
  rw [List.append_nil, scanL_nil, List.append_nil] at this
  exact this
/-- a disk of a crash where all was safe -/
def LS.crashed (x : LS) : LS := ⟨0, x.recs, x.file, if x.file = true then layL x.recs else []⟩
def LS.opened (x : LS) : LS := ⟨if x.file = true then IntKind.i64.wrap (x.calls + 1) else x.calls, x.recs, x.file, if x.file = true then layL x.recs else []⟩
theorem LS.crashed_ok {x : LS} (h : x.ok) : x.crashed.ok := by
  refine ⟨fun hf => ?_, h.sum, h.small, ?_⟩
  · have hf' : x.file = false := hf
    exact ⟨(h.new hf').1, by simp [LS.crashed, hf']⟩
  · show (if x.file = true then layL x.recs else []).length ≤ _
    have := h.len
    split <;> simp <;> omega
theorem LS.opened_ok {x : LS} (h : x.ok) : x.opened.ok := by
  have := LS.crashed_ok h
  exact ⟨this.new, this.sum, this.small, this.safe⟩
theorem LS.opn {x : LS} (h : x.ok) : LD.opn x.l.d = (0, x.opened.l) := by
  have hfr : getN freshN x.fs = none := by
    unfold LS.fs
    split
    · simp [getN, fresh_log]
    · rfl
  have hrd : x.l.d.read freshN = ([], 3) := read_none fresh_good rfl hfr
  have hsw : (LD.mk x.l.d [] 0 false false).sweep = (0, LD.mk x.l.d [] 0 false false) := by simp [LD.sweep, hrd]
  unfold LD.opn
  rw [hsw, if_neg (by simp)]
  cases hx : x.file with
  | false =>
    have e : x.fs = [] := by simp [LS.fs, hx]
    have hn : x.l.d.read logN = ([], 3) := read_none log_good rfl (show getN logN x.fs = none by rw [e]; rfl)
    have hr := (h.new hx).1
    unfold LD.load
    rw [if_pos (by rw [hn])]
    simp only [LS.l, LS.opened, hx, hr]
    simp [LS.fs, hx, wsum]
  | true =>
    have e : x.fs = [⟨logN, x.safe, layL x.recs⟩] := by simp [LS.fs, hx]
    have hn : x.l.d.read logN = (layL x.recs, 0) := read_some (f := ⟨logN, x.safe, layL x.recs⟩) log_good rfl (show getN logN x.fs = _ by rw [e]; simp [getN])
    have hs : x.l.d.sync logN = (0, x.synced.l.d) := by
      rw [sync_some log_good (by rw [LS.spend_eq]) (f := ⟨logN, x.safe, layL x.recs⟩) (show getN logN x.fs = _ by rw [e]; simp [getN]), LS.spend_eq]
      show (0, DD.mk _ _ _ (updN logN _ x.fs)) = (0, DD.mk _ _ _ (LS.fs _))
      simp [hx, LS.fs, LS.synced, updN]
    have hsc := scan_all x.recs h.small
    unfold LD.load
    simp only [hn, hsc, hs]
    simp [LD.got, LS.l, LS.opened, LS.synced, hx, LS.spend, LS.fs]
end Go.Proofs.Ytpedbknmkgcldaa

namespace Go.Proofs.Ytpedbknmkgcldaa
open Go.Ab Go.RowKit
theorem dw_head {α : Type} {P : α → Bool} {p : α} {s : List α} : ∀ {r : List α}, r.dropWhile P = p :: s → P p = false
  | [], h => by simp at h
  | x :: r, h => by
    rw [List.dropWhile_cons] at h
    split at h
    · exact dw_head h
    · rename_i hx
      cases h
      simpa using hx
theorem tw_all {α : Type} {P : α → Bool} : ∀ {r : List α}, ∀ p ∈ r.takeWhile P, P p = true
  | [], p, h => by simp at h
  | x :: r, p, h => by
    rw [List.takeWhile_cons] at h
    split at h
    · rename_i hx
      rcases List.mem_cons.1 h with rfl | h
      · exact hx
      · exact tw_all p h
    · cases h
theorem lessS_total {a b : ByteArray} (h1 : lessS a b = false) (h2 : lessS b a = false) : a = b := by
  have := bl_total a.toList b.toList h1 h2
  rw [ByteArray.toList_eq, ByteArray.toList_eq] at this
  rcases a with ⟨⟨a⟩⟩; rcases b with ⟨⟨b⟩⟩
  simpa using this
theorem dec {r : List (ByteArray × ByteArray)} (hr : risingS (r.map (·.1))) (key : ByteArray) : ∃ tw s, (∀ p ∈ tw, lessS p.1 key = true) ∧ (∀ p ∈ s, lessS key p.1 = true) ∧ r.take (fi r key) = tw ∧ risingS (tw.map (·.1)) ∧ risingS (s.map (·.1)) ∧
    ((ft r key = true ∧ (∃ v, r = tw ++ (key, v) :: s) ∧ r.drop (fi r key + 1) = s) ∨ (ft r key = false ∧ r = tw ++ s ∧ r.drop (fi r key) = s)) := by
  obtain ⟨tw, htw⟩ : ∃ tw, r.takeWhile (fun p : ByteArray × ByteArray => lessS p.1 key) = tw := ⟨_, rfl⟩
  obtain ⟨d, hd⟩ : ∃ d, r.dropWhile (fun p : ByteArray × ByteArray => lessS p.1 key) = d := ⟨_, rfl⟩
  have hrd : r = tw ++ d := by rw [← htw, ← hd, List.takeWhile_append_dropWhile]
  have hfi : fi r key = tw.length := by unfold fi; rw [htw]
  have hta : ∀ p ∈ tw, lessS p.1 key = true := fun p hp => tw_all (P := fun p : ByteArray × ByteArray => lessS p.1 key) (r := r) p (by rw [htw]; exact hp)
  have hpw : risingS ((tw ++ d).map (·.1)) := by rw [← hrd]; exact hr
  rw [List.map_append] at hpw
  obtain ⟨w1, w2, w3⟩ := List.pairwise_append.1 hpw
  have htake : r.take (fi r key) = tw := by rw [hfi, hrd, List.take_left]
  have hdrop : r.drop (fi r key) = d := by rw [hfi, hrd, List.drop_left]
  have hat : r[fi r key]? = d[0]? := by rw [hfi, hrd, List.getElem?_append_right (Nat.le_refl _), Nat.sub_self]
  cases d with
  | nil =>
    refine ⟨tw, [], hta, by simp, htake, w1, by simp [risingS], .inr ⟨?_, by simpa using hrd, hdrop⟩⟩
    unfold ft; rw [hat]; rfl
  | cons p s =>
    have hpf : lessS p.1 key = false := dw_head (P := fun p : ByteArray × ByteArray => lessS p.1 key) hd
    have w2' := List.pairwise_cons.1 w2
    have hps : ∀ q ∈ s, lessS p.1 q.1 = true := fun q hq => w2'.1 q.1 (List.mem_map.2 ⟨q, hq, rfl⟩)
    have hft : ft r key = decide (p.1 = key) := by unfold ft; rw [hat]; rfl
    by_cases e : p.1 = key
    · refine ⟨tw, s, hta, fun q hq => by rw [← e]; exact hps q hq, htake, w1, w2'.2, .inl ⟨by rw [hft, decide_eq_true e], ⟨p.2, by rw [← e]; exact hrd⟩, ?_⟩⟩
      rw [← List.drop_drop, hdrop]; rfl
    · have hkp : lessS key p.1 = true := by
        cases h : lessS key p.1 with
        | true => rfl
        | false => exact absurd (lessS_total hpf h) e
      refine ⟨tw, p :: s, hta, fun q hq => ?_, htake, w1, w2, .inr ⟨by rw [hft, decide_eq_false e], hrd, hdrop⟩⟩
      rcases List.mem_cons.1 hq with rfl | hq
      · exact hkp
      · exact lessS_trans hkp (hps q hq)
theorem less_ne {a b : ByteArray} (h : lessS a b = true) : a ≠ b := fun e => by rw [e, lessS_irr] at h; cases h
theorem del_filter {key : ByteArray} : ∀ {ps : List (ByteArray × ByteArray)}, (ps.map (·.1)).Nodup → delP key ps = ps.filter fun p => decide (p.1 ≠ key)
  | [], _ => rfl
  | p :: r, hn => by
    simp only [List.map_cons, List.nodup_cons] at hn
    simp only [delP]
    by_cases e : key = p.1
    · rw [if_pos e, List.filter_cons_of_neg (by simp [e])]
      symm
      rw [List.filter_eq_self]
      intro q hq
      have : q.1 ≠ key := fun e2 => hn.1 (by rw [← e, ← e2]; exact List.mem_map.2 ⟨q, hq, rfl⟩)
      simpa using this
    · rw [if_neg e, List.filter_cons_of_pos (by simpa using fun e2 => e e2.symm), del_filter hn.2]
theorem rest_perm {r ps tw s : List (ByteArray × ByteArray)} {key : ByteArray} (hp : r.Perm ps) (hn : (ps.map (·.1)).Nodup) (h1 : ∀ p ∈ tw, lessS p.1 key = true) (h2 : ∀ p ∈ s, lessS key p.1 = true) (h : (∃ v, r = tw ++ (key, v) :: s) ∨ r = tw ++ s) : (tw ++ s).Perm (delP key ps) := by
  rw [del_filter hn]
  refine List.Perm.trans ?_ (hp.filter _)
  have e1 : tw.filter (fun p => decide (p.1 ≠ key)) = tw := List.filter_eq_self.2 fun p hp => by simpa using less_ne (h1 p hp)
  have e2 : s.filter (fun p => decide (p.1 ≠ key)) = s := List.filter_eq_self.2 fun p hp => by simpa using fun e : p.1 = key => less_ne (h2 p hp) e.symm
  rcases h with ⟨v, rfl⟩ | rfl
  · rw [List.filter_append, List.filter_cons_of_neg (by simp), e1, e2]
  · rw [List.filter_append, e1, e2]
theorem getP_none {key : ByteArray} : ∀ {ps : List (ByteArray × ByteArray)}, getP key ps = none ↔ key ∉ ps.map (·.1)
  | [] => by simp [getP]
  | p :: r => by
    simp only [getP, List.map_cons, List.mem_cons, not_or]
    by_cases e : key = p.1
    · simp [e]
    · rw [if_neg e]
      have := getP_none (key := key) (ps := r)
      constructor
      · intro h; exact ⟨e, this.1 h⟩
      · intro h; exact this.2 h.2
theorem ft_get {r ps : List (ByteArray × ByteArray)} (hr : risingS (r.map (·.1))) (hp : r.Perm ps) (key : ByteArray) : ft r key = true ↔ getP key ps ≠ none := by
  obtain ⟨tw, s, h1, h2, _, _, _, h⟩ := dec hr key
  have hm : key ∈ ps.map (·.1) ↔ key ∈ r.map (·.1) := (hp.map (·.1)).mem_iff.symm
  rw [Ne, getP_none, Classical.not_not, hm]
  rcases h with ⟨h3, ⟨v, h4⟩, _⟩ | ⟨h3, h4, _⟩
  · rw [h3, h4]; simp
  · rw [h3, h4]
    constructor
    · intro h; cases h
    · intro h
      exfalso
      obtain ⟨p, hp', e⟩ := List.mem_map.1 h
      rcases List.mem_append.1 hp' with hq | hq
      · exact less_ne (h1 p hq) e
      · exact less_ne (h2 p hq) e.symm
theorem rising_join {tw s : List (ByteArray × ByteArray)} {key val : ByteArray} (h1 : ∀ p ∈ tw, lessS p.1 key = true) (h2 : ∀ p ∈ s, lessS key p.1 = true) (w1 : risingS (tw.map (·.1))) (w2 : risingS (s.map (·.1))) : risingS ((tw ++ s).map (·.1)) ∧ risingS ((tw ++ [(key, val)] ++ s).map (·.1)) := by
  have c1 : ∀ a ∈ tw.map (·.1), ∀ b ∈ s.map (·.1), lessS a b = true := by
    intro a ha b hb
    obtain ⟨p, hp, rfl⟩ := List.mem_map.1 ha
    obtain ⟨q, hq, rfl⟩ := List.mem_map.1 hb
    exact lessS_trans (h1 p hp) (h2 q hq)
  constructor
  · rw [List.map_append]
    exact List.pairwise_append.2 ⟨w1, w2, c1⟩
  · rw [List.append_assoc, List.map_append]
    refine List.pairwise_append.2 ⟨w1, ?_, ?_⟩
    · simp only [List.singleton_append, List.map_cons]
      refine List.pairwise_cons.2 ⟨?_, w2⟩
      intro b hb
      obtain ⟨q, hq, rfl⟩ := List.mem_map.1 hb
      exact h2 q hq
    · intro a ha b hb
      simp only [List.singleton_append, List.map_cons, List.mem_cons] at hb
      rcases hb with rfl | hb
      · obtain ⟨p, hp, rfl⟩ := List.mem_map.1 ha
        exact h1 p hp
      · exact c1 a ha b hb
/-- what is played on the page's list is what is played on the store -/
theorem next_del {r ps : List (ByteArray × ByteArray)} {a : Act11} (hr : risingS (r.map (·.1))) (hp : r.Perm ps) (hn : (ps.map (·.1)).Nodup) (h4 : a.w = 4) (hg : goodK a.key = true) (hf : getP a.key ps ≠ none) :
    (nextP r a).2 = 0 ∧ (nextP r a).1.Perm (delP a.key ps) ∧ risingS ((nextP r a).1.map (·.1)) := by
  have hft := (ft_get hr hp a.key).2 hf
  obtain ⟨tw, s, h1, h2, h3, w1, w2, h⟩ := dec hr a.key
  rw [show nextP r a = (r.take (fi r a.key) ++ r.drop (fi r a.key + 1), 0) by simp only [nextP, if_pos h4, hg, hft]; rfl]
  rcases h with ⟨_, h5, h6⟩ | ⟨h5, _⟩
  · simp only [h3, h6]
    exact ⟨trivial, rest_perm hp hn h1 h2 (.inl h5), (rising_join (val := ⟨#[]⟩) h1 h2 w1 w2).1⟩
  · rw [hft] at h5; cases h5
theorem next_set {r ps : List (ByteArray × ByteArray)} {a : Act11} (hr : risingS (r.map (·.1))) (hp : r.Perm ps) (hn : (ps.map (·.1)).Nodup) (h4 : ¬ a.w = 4) (h5 : ¬ (a.w = 5 ∨ a.w = 6 ∨ a.w = 7)) (hb : badK a.key a.val = false) :
    (nextP r a).2 = 0 ∧ (nextP r a).1.Perm (setP a.key a.val ps) ∧ risingS ((nextP r a).1.map (·.1)) := by
  obtain ⟨tw, s, h1, h2, h3, w1, w2, h⟩ := dec hr a.key
  rw [show nextP r a = (r.take (fi r a.key) ++ [(a.key, a.val)] ++ r.drop (if ft r a.key = true then fi r a.key + 1 else fi r a.key), 0) by simp only [nextP, if_neg h4, if_neg h5, if_neg (show ¬ badK a.key a.val = true by rw [hb]; decide)]]
  have hd : r.drop (if ft r a.key = true then fi r a.key + 1 else fi r a.key) = s := by
    rcases h with ⟨h5, _, h6⟩ | ⟨h5, _, h6⟩
    · rw [if_pos h5, h6]
    · rw [if_neg (by rw [h5]; decide), h6]
  have hrp : (tw ++ s).Perm (delP a.key ps) := rest_perm hp hn h1 h2 (by
    rcases h with ⟨_, h5, _⟩ | ⟨_, h5, _⟩
    · exact .inl h5
    · exact .inr h5)
  simp only [h3, hd]
  refine ⟨trivial, ?_, (rising_join h1 h2 w1 w2).2⟩
  unfold setP
  refine List.Perm.trans ?_ (hrp.append_right _)
  rw [List.append_assoc, List.append_assoc]
  exact (List.perm_append_comm).append_left tw
end Go.Proofs.Ytpedbknmkgcldaa

namespace Go.Proofs.Ytpedbknmkgcldaa
open Go.Ab Go.RowKit Go.MapKept
attribute [local irreducible] ACalls AW ADraw Into
set_option maxRecDepth 100000
set_option maxHeartbeats 4000000 in
theorem ksync_ok (l : Lg) (ps : List (ByteArray × ByteArray)) {x : LS} (hx : x.ok) (hl : l.dat = x.l) : ACalls Try.prog 60 [.ptr 0 0] (Kc l ps false) (fun av L => av = .d (.int .i64 0) ∧ ∃ l' : Lg, L = Kc l' ps false ∧ l'.dat = if x.file = true then x.synced.l else x.l) := by
  refine acalls_go ttOk zOk foOk Try.func60 rfl Try.ntmps60 rfl false rfl ?_
  conv => whnf
  repeat' (first | ((with_reducible apply z_wrap); (focus omega); (conv => whnf)) | ((with_reducible refine mt_dec (fun _ => ?_) (fun _ => ?_)) <;> (conv => whnf)) | ((with_reducible refine mt_eq (fun _ => ?_) (fun _ => ?_)) <;> (conv => whnf)) | ((with_reducible refine mt_ne (fun _ => ?_) (fun _ => ?_)) <;> (conv => whnf)) | ((with_reducible refine mt_not (fun _ => ?_) (fun _ => ?_)) <;> (conv => whnf)) | ((with_reducible refine mt_any (fun _ => ?_) (fun _ => ?_)) <;> (conv => whnf)))
  refine (sync_good l hx hl).mono ?_
  rintro _ _ ⟨l', rfl, rfl, hl'⟩
  conv => whnf
  repeat' (first | ((with_reducible apply z_wrap); (focus omega); (conv => whnf)) | ((with_reducible refine mt_dec (fun _ => ?_) (fun _ => ?_)) <;> (conv => whnf)) | ((with_reducible refine mt_eq (fun _ => ?_) (fun _ => ?_)) <;> (conv => whnf)) | ((with_reducible refine mt_ne (fun _ => ?_) (fun _ => ?_)) <;> (conv => whnf)) | ((with_reducible refine mt_not (fun _ => ?_) (fun _ => ?_)) <;> (conv => whnf)) | ((with_reducible refine mt_any (fun _ => ?_) (fun _ => ?_)) <;> (conv => whnf)))
  exact ⟨rfl, l', rfl, hl'⟩
end Go.Proofs.Ytpedbknmkgcldaa

namespace Go.Proofs.Ytpedbknmkgcldaa
open Go.Ab Go.RowKit Go.MapKept
attribute [local irreducible] ACalls AW ADraw Into
set_option maxRecDepth 100000
set_option maxHeartbeats 4000000 in
theorem does11_ok (l : Lg) (ps : List (ByteArray × ByteArray)) {x : LS} (hx : x.ok) (hl : l.dat = x.l) (hn : (ps.map (·.1)).Nodup) (a : Act11) (ha : a.ok) (hk : a.key.size ≤ 40000) (hv : a.val.size ≤ 40000) (hps : psum ps ≤ 180000) (hw : wsum x.recs ≤ 400000)
    (Q : AV → List AB → Prop)
    (q0 : a.w = 5 → Q (.d (.int .i64 0)) (Kc l ps false))
    (qs : a.w = 6 ∨ a.w = 7 → ∀ l' : Lg, l'.dat = (if x.file = true then x.synced.l else x.l) → Q (.d (.int .i64 0)) (Kc l' ps false))
    (qd1 : a.w = 4 → goodK a.key = false → Q (.d (.int .i64 1)) (Kc l ps false))
    (qd2 : a.w = 4 → goodK a.key = true → getP a.key ps = none → Q (.d (.int .i64 3)) (Kc l ps false))
    (qd3 : a.w = 4 → goodK a.key = true → getP a.key ps ≠ none → ∀ l' : Lg, l'.dat = (x.put (recK kD a.key ⟨#[]⟩)).l → Q (.d (.int .i64 0)) (Kc1 l' (delP a.key ps) false))
    (qp1 : ¬ a.w = 4 → ¬ (a.w = 5 ∨ a.w = 6 ∨ a.w = 7) → badK a.key a.val = true → Q (.d (.int .i64 1)) (Kc l ps false))
    (qp2 : ¬ a.w = 4 → ¬ (a.w = 5 ∨ a.w = 6 ∨ a.w = 7) → badK a.key a.val = false → ∀ l' : Lg, l'.dat = (x.put (recK kP a.key a.val)).l → Q (.d (.int .i64 0)) (Kc1 l' (setP a.key a.val ps) false)) :
    ACalls Try.prog 63 [.ptr 0 0, a.av] (Kc l ps false) Q := by
  have rD := rec_size kD a.key ⟨#[]⟩
  have rP := rec_size kP a.key a.val
  have kp1 : kP.size = 1 := rfl
  have kd1 : kD.size = 1 := rfl
  have e0 : (⟨#[]⟩ : ByteArray).size = 0 := rfl
  refine acalls_go ttOk zOk foOk Try.func63 rfl Try.ntmps63 rfl false rfl ?_
  conv => whnf
  refine (within_ok a.act 8 (by decide) (by decide) ha.act).mono ?_
  rintro _ _ ⟨rfl, rfl⟩
  conv => whnf
  rw [show (a.act % 18446744073709551616) % 8 = a.w from rfl]
  repeat' (first | ((with_reducible apply z_wrap); (focus omega); (conv => whnf)) | ((with_reducible refine mt_dec (fun _ => ?_) (fun _ => ?_)) <;> (conv => whnf)) | ((with_reducible refine mt_eq (fun _ => ?_) (fun _ => ?_)) <;> (conv => whnf)) | ((with_reducible refine mt_ne (fun _ => ?_) (fun _ => ?_)) <;> (conv => whnf)) | ((with_reducible refine mt_not (fun _ => ?_) (fun _ => ?_)) <;> (conv => whnf)) | ((with_reducible refine mt_any (fun _ => ?_) (fun _ => ?_)) <;> (conv => whnf)))
  · rename_i h4
    refine drop_ok l ps hx hl (by omega) a.key (fun _ => by omega) _ ?_ ?_ ?_
    · intro h
      conv => whnf
      refine (num11_ok 1).mono ?_
      rintro _ _ ⟨rfl, rfl⟩
      conv => whnf
      repeat' (first | ((with_reducible apply z_wrap); (focus omega); (conv => whnf)) | ((with_reducible refine mt_dec (fun _ => ?_) (fun _ => ?_)) <;> (conv => whnf)) | ((with_reducible refine mt_eq (fun _ => ?_) (fun _ => ?_)) <;> (conv => whnf)) | ((with_reducible refine mt_ne (fun _ => ?_) (fun _ => ?_)) <;> (conv => whnf)) | ((with_reducible refine mt_not (fun _ => ?_) (fun _ => ?_)) <;> (conv => whnf)) | ((with_reducible refine mt_any (fun _ => ?_) (fun _ => ?_)) <;> (conv => whnf)))
      exact qd1 h4 h
    · intro h h2
      conv => whnf
      refine (num11_ok 3).mono ?_
      rintro _ _ ⟨rfl, rfl⟩
      conv => whnf
      repeat' (first | ((with_reducible apply z_wrap); (focus omega); (conv => whnf)) | ((with_reducible refine mt_dec (fun _ => ?_) (fun _ => ?_)) <;> (conv => whnf)) | ((with_reducible refine mt_eq (fun _ => ?_) (fun _ => ?_)) <;> (conv => whnf)) | ((with_reducible refine mt_ne (fun _ => ?_) (fun _ => ?_)) <;> (conv => whnf)) | ((with_reducible refine mt_not (fun _ => ?_) (fun _ => ?_)) <;> (conv => whnf)) | ((with_reducible refine mt_any (fun _ => ?_) (fun _ => ?_)) <;> (conv => whnf)))
      exact qd2 h4 h h2
    · intro h h2 l' hl'
      conv => whnf
      refine (num11_ok 0).mono ?_
      rintro _ _ ⟨rfl, rfl⟩
      conv => whnf
      repeat' (first | ((with_reducible apply z_wrap); (focus omega); (conv => whnf)) | ((with_reducible refine mt_dec (fun _ => ?_) (fun _ => ?_)) <;> (conv => whnf)) | ((with_reducible refine mt_eq (fun _ => ?_) (fun _ => ?_)) <;> (conv => whnf)) | ((with_reducible refine mt_ne (fun _ => ?_) (fun _ => ?_)) <;> (conv => whnf)) | ((with_reducible refine mt_not (fun _ => ?_) (fun _ => ?_)) <;> (conv => whnf)) | ((with_reducible refine mt_any (fun _ => ?_) (fun _ => ?_)) <;> (conv => whnf)))
      exact qd3 h4 h h2 l' hl'
  · rename_i h4 h5
    exact q0 h5
  · rename_i h4 h5 h6
    refine (ksync_ok l ps hx hl).mono ?_
    rintro _ _ ⟨rfl, l', rfl, hl'⟩
    conv => whnf
    refine (num11_ok 0).mono ?_
    rintro _ _ ⟨rfl, rfl⟩
    conv => whnf
    repeat' (first | ((with_reducible apply z_wrap); (focus omega); (conv => whnf)) | ((with_reducible refine mt_dec (fun _ => ?_) (fun _ => ?_)) <;> (conv => whnf)) | ((with_reducible refine mt_eq (fun _ => ?_) (fun _ => ?_)) <;> (conv => whnf)) | ((with_reducible refine mt_ne (fun _ => ?_) (fun _ => ?_)) <;> (conv => whnf)) | ((with_reducible refine mt_not (fun _ => ?_) (fun _ => ?_)) <;> (conv => whnf)) | ((with_reducible refine mt_any (fun _ => ?_) (fun _ => ?_)) <;> (conv => whnf)))
    exact qs (.inl h6) l' hl'
  · rename_i h4 h5 h6 h7
    refine (ksync_ok l ps hx hl).mono ?_
    rintro _ _ ⟨rfl, l', rfl, hl'⟩
    conv => whnf
    refine (num11_ok 0).mono ?_
    rintro _ _ ⟨rfl, rfl⟩
    conv => whnf
    repeat' (first | ((with_reducible apply z_wrap); (focus omega); (conv => whnf)) | ((with_reducible refine mt_dec (fun _ => ?_) (fun _ => ?_)) <;> (conv => whnf)) | ((with_reducible refine mt_eq (fun _ => ?_) (fun _ => ?_)) <;> (conv => whnf)) | ((with_reducible refine mt_ne (fun _ => ?_) (fun _ => ?_)) <;> (conv => whnf)) | ((with_reducible refine mt_not (fun _ => ?_) (fun _ => ?_)) <;> (conv => whnf)) | ((with_reducible refine mt_any (fun _ => ?_) (fun _ => ?_)) <;> (conv => whnf)))
    exact qs (.inr h7) l' hl'
  · rename_i h4 h5 h6 h7
    have hn' : ¬ (a.w = 5 ∨ a.w = 6 ∨ a.w = 7) := by rintro (h | h | h); exact h5 h; exact h6 h; exact h7 h
    refine put_ok l ps hx hl hn a.key a.val (by omega) (fun _ => by omega) _ ?_ ?_
    · intro h
      conv => whnf
      refine (num11_ok 1).mono ?_
      rintro _ _ ⟨rfl, rfl⟩
      conv => whnf
      repeat' (first | ((with_reducible apply z_wrap); (focus omega); (conv => whnf)) | ((with_reducible refine mt_dec (fun _ => ?_) (fun _ => ?_)) <;> (conv => whnf)) | ((with_reducible refine mt_eq (fun _ => ?_) (fun _ => ?_)) <;> (conv => whnf)) | ((with_reducible refine mt_ne (fun _ => ?_) (fun _ => ?_)) <;> (conv => whnf)) | ((with_reducible refine mt_not (fun _ => ?_) (fun _ => ?_)) <;> (conv => whnf)) | ((with_reducible refine mt_any (fun _ => ?_) (fun _ => ?_)) <;> (conv => whnf)))
      exact qp1 h4 hn' h
    · intro h l' hl'
      conv => whnf
      refine (num11_ok 0).mono ?_
      rintro _ _ ⟨rfl, rfl⟩
      conv => whnf
      repeat' (first | ((with_reducible apply z_wrap); (focus omega); (conv => whnf)) | ((with_reducible refine mt_dec (fun _ => ?_) (fun _ => ?_)) <;> (conv => whnf)) | ((with_reducible refine mt_eq (fun _ => ?_) (fun _ => ?_)) <;> (conv => whnf)) | ((with_reducible refine mt_ne (fun _ => ?_) (fun _ => ?_)) <;> (conv => whnf)) | ((with_reducible refine mt_not (fun _ => ?_) (fun _ => ?_)) <;> (conv => whnf)) | ((with_reducible refine mt_any (fun _ => ?_) (fun _ => ?_)) <;> (conv => whnf)))
      exact qp2 h4 hn' h l' hl'
end Go.Proofs.Ytpedbknmkgcldaa

namespace Go.Proofs.Ytpedbknmkgcldaa
open Go.Ab Go.RowKit Go.MapKept
attribute [local irreducible] ACalls AW ADraw Into
set_option maxRecDepth 100000
structure KInv (p : Scr11) (k : Nat) (l : Lg) (ps r : List (ByteArray × ByteArray)) (x : LS) (os : List Op11) : Prop where
  ok : x.ok
  l : l.dat = x.l
  recs : x.recs = os.map Op11.enc
  good : ∀ o ∈ os, o.ok
  pse : ps = foldO os
  sum : wsum x.recs ≤ sw11 (p.acts.take k) + 18 * k
  perm : r.Perm ps
  rise : risingS (r.map (·.1))
theorem foldO_app (os : List Op11) (o : Op11) : foldO (os ++ [o]) = o.app (foldO os) := by simp [foldO]
theorem KInv.same {p : Scr11} {k : Nat} {l l' : Lg} {ps r : List (ByteArray × ByteArray)} {x x' : LS} {os : List Op11} (h : KInv p k l ps r x os) {a : Act11} (ha : p.acts[k]? = some a) (h1 : x'.ok) (h2 : l'.dat = x'.l) (h3 : x'.recs = x.recs) : KInv p (k + 1) l' ps r x' os := by
  have hw := wt11_nonneg a
  have hs := sw11_take ha
  have := h.sum
  exact ⟨h1, h2, by rw [h3]; exact h.recs, h.good, h.pse, by rw [h3, hs]; omega, h.perm, h.rise⟩
theorem KInv.step {p : Scr11} {k : Nat} {l l' : Lg} {ps r r' : List (ByteArray × ByteArray)} {x : LS} {os : List Op11} (h : KInv p k l ps r x os) {a : Act11} (ha : p.acts[k]? = some a) {o : Op11} (ho : o.ok) (hsz : (o.enc.size : Int) ≤ a.wt + 2) (h1 : (x.put o.enc).ok) (h2 : l'.dat = (x.put o.enc).l) (h3 : r'.Perm (o.app ps)) (h4 : risingS (r'.map (·.1))) : KInv p (k + 1) l' (o.app ps) r' (x.put o.enc) (os ++ [o]) := by
  have hs := sw11_take ha
  have hsum := h.sum
  refine ⟨h1, h2, ?_, ?_, ?_, ?_, h3, h4⟩
  · show x.recs ++ [o.enc] = _
    rw [h.recs]; simp
  · intro o' ho'
    rcases List.mem_append.1 ho' with h' | h'
    · exact h.good o' h'
    · rw [List.mem_singleton.1 h']; exact ho
  · rw [foldO_app, h.pse]
  · show wsum (x.recs ++ [o.enc]) ≤ _
    rw [wsum_app, hs]; omega
theorem KInv.sizes {p : Scr11} {k : Nat} {l : Lg} {ps r : List (ByteArray × ByteArray)} {x : LS} {os : List Op11} (h : KInv p k l ps r x os) (hlight : sw11 p.acts ≤ 40000) (hk : k ≤ 24) : wsum x.recs ≤ 41000 ∧ psum ps ≤ 164000 ∧ (ps.map (·.1)).Nodup ∧ ps.length ≤ 3000 ∧ r.length ≤ 3000 := by
  have h1 := sw11_le p.acts k
  have h2 := h.sum
  have h3 := fold_psum os
  rw [← h.recs, ← h.pse] at h3
  have h4 := psum_len ps
  have h5 := h.perm.length_eq
  refine ⟨by omega, by omega, by rw [h.pse]; exact fold_nodup os, by omega, by omega⟩
theorem psum_mem {p : ByteArray × ByteArray} : ∀ {ps : List (ByteArray × ByteArray)}, p ∈ ps → (p.1.size : Int) ≤ psum ps
  | [], h => by cases h
  | q :: r, h => by
    have := psum_nonneg r
    simp only [psum]
    rcases List.mem_cons.1 h with rfl | h
    · omega
    · have := psum_mem h; omega
theorem does11_inv {p : Scr11} {k : Nat} {l : Lg} {ps r : List (ByteArray × ByteArray)} {x : LS} {os : List Op11} (h : KInv p k l ps r x os) (hlight : sw11 p.acts ≤ 40000) (hk : k < 24) {a : Act11} (ha : p.acts[k]? = some a) (hok : a.ok) :
    ACalls Try.prog 63 [.ptr 0 0, a.av] (Kc l ps false) (fun av L => ∃ (l' : Lg) (ps' : List (ByteArray × ByteArray)) (x' : LS) (os' : List Op11), av = .d (.int .i64 (nextP r a).2) ∧ (L = Kc l' ps' false ∨ L = Kc1 l' ps' false) ∧ KInv p (k + 1) l' ps' (nextP r a).1 x' os' ∧ (a.w = 7 → x'.file = true → x'.safe = layL x'.recs)) := by
  obtain ⟨s1, s2, s3, s4, s5⟩ := h.sizes hlight (by omega)
  have hsa := sw11_take ha
  have hsl := sw11_le p.acts (k + 1)
  have hsn := sw11_nonneg (p.acts.take k)
  have hwt : a.wt ≤ 40000 := by omega
  have hwd : a.wt = a.key.size + a.val.size + a.picks.length := rfl
  have rD := rec_size kD a.key ⟨#[]⟩
  have rP := rec_size kP a.key a.val
  have kp1 : kP.size = 1 := rfl
  have kd1 : kD.size = 1 := rfl
  have e0 : (⟨#[]⟩ : ByteArray).size = 0 := rfl
  refine does11_ok l ps h.ok h.l s3 a hok (by omega) (by omega) (by omega) (by omega) _ ?_ ?_ ?_ ?_ ?_ ?_ ?_
  · intro h5
    have en : nextP r a = (r, 0) := by simp only [nextP, if_neg (show ¬ a.w = 4 by omega), if_pos (Or.inl h5 : a.w = 5 ∨ a.w = 6 ∨ a.w = 7)]
    rw [en]
    exact ⟨l, ps, x, os, rfl, .inl rfl, h.same ha h.ok h.l rfl, fun h7 => by omega⟩
  · intro h67 l' hl'
    have en : nextP r a = (r, 0) := by simp only [nextP, if_neg (show ¬ a.w = 4 by omega), if_pos (Or.inr h67 : a.w = 5 ∨ a.w = 6 ∨ a.w = 7)]
    rw [en]
    cases hf : x.file with
    | false =>
      rw [hf] at hl'
      exact ⟨l', ps, x, os, rfl, .inl rfl, h.same ha h.ok hl' rfl, fun _ h7 => by rw [hf] at h7; cases h7⟩
    | true =>
      rw [hf] at hl'
      exact ⟨l', ps, x.synced, os, rfl, .inl rfl, h.same ha (LS.synced_ok h.ok) hl' rfl, fun _ _ => rfl⟩
  · intro h4 hg
    have en : nextP r a = (r, 1) := by simp only [nextP, if_pos h4, if_pos hg]
    rw [en]
    exact ⟨l, ps, x, os, rfl, .inl rfl, h.same ha h.ok h.l rfl, fun h7 => by omega⟩
  · intro h4 hg hn
    have hf : ft r a.key = false := by
      cases e : ft r a.key with
      | false => rfl
      | true => exact absurd hn ((ft_get h.rise h.perm a.key).1 e)
    have en : nextP r a = (r, 3) := by simp only [nextP, if_pos h4, hg, hf]; rfl
    rw [en]
    exact ⟨l, ps, x, os, rfl, .inl rfl, h.same ha h.ok h.l rfl, fun h7 => by omega⟩
  · intro h4 hg hn l' hl'
    obtain ⟨n1, n2, n3⟩ := next_del h.rise h.perm s3 h4 hg hn
    have hk32 : a.key.size ≤ 32 := by simp [goodK] at hg; omega
    rw [n1]
    exact ⟨l', delP a.key ps, _, _, rfl, .inr rfl, h.step ha (o := .del a.key) hk32 (by show ((recK kD a.key ⟨#[]⟩).size : Int) ≤ _; omega) (LS.put_ok h.ok (by show (recK kD a.key ⟨#[]⟩).size ≤ _; omega) (by show ((recK kD a.key ⟨#[]⟩).size : Int) + 16 ≤ _; omega)) hl' n2 n3, fun h7 => by omega⟩
  · intro h4 h5 hb
    have en : nextP r a = (r, 1) := by simp only [nextP, if_neg h4, if_neg h5, if_pos hb]
    rw [en]
    exact ⟨l, ps, x, os, rfl, .inl rfl, h.same ha h.ok h.l rfl, fun h7 => absurd (.inr (.inr h7)) h5⟩
  · intro h4 h5 hb l' hl'
    obtain ⟨n1, n2, n3⟩ := next_set h.rise h.perm s3 h4 h5 hb
    have hgb : goodK a.key = true ∧ ¬ (a.val.size : Int) > 4032 - a.key.size := by simpa [badK] using hb
    have hk32 : a.key.size ≤ 32 := by have := hgb.1; simp [goodK] at this; omega
    rw [n1]
    exact ⟨l', setP a.key a.val ps, _, _, rfl, .inr rfl, h.step ha (o := .put a.key a.val) ⟨hk32, by omega⟩ (by show ((recK kP a.key a.val).size : Int) ≤ _; omega) (LS.put_ok h.ok (by show (recK kP a.key a.val).size ≤ _; omega) (by show ((recK kP a.key a.val).size : Int) + 16 ≤ _; omega)) hl' n2 n3, fun h7 => absurd (.inr (.inr h7)) h5⟩
end Go.Proofs.Ytpedbknmkgcldaa

namespace Go.Proofs.Ytpedbknmkgcldaa
open Go.Ab Go.RowKit Go.MapKept
attribute [local irreducible] ACalls AW ADraw Into
set_option maxRecDepth 100000
theorem equal_ok (a b : List UInt8) : ACalls Try.prog 71 [.d (.sl 1 (u8s a)), .d (.sl 1 (u8s b))] [] (fun av L => av = .d (.bool (decide (a = b))) ∧ L = []) := by
  refine acalls_go ttOk zOk foOk Try.func71 rfl Try.ntmps71 rfl false rfl ?_
  conv => whnf
  refine ⟨a, rfl, ?_⟩
  conv => whnf
  refine ⟨b, rfl, ?_⟩
  conv => whnf
  have h : ∀ x : List UInt8, (⟨x.toArray⟩ : ByteArray).toList = x := fun x => by rw [ByteArray.toList_eq]
  rw [h, h]
  refine ⟨?_, rfl⟩
  congr 2
  rw [Bool.eq_iff_iff]
  simp
end Go.Proofs.Ytpedbknmkgcldaa

namespace Go.Proofs.Ytpedbknmkgcldaa
open Go.Ab Go.RowKit Go.MapKept
attribute [local irreducible] ACalls AW ADraw Into
set_option maxRecDepth 100000
theorem tdiv_in (p n : Int) (hn : 0 < n) (hp : -9223372036854775808 ≤ p ∧ p < 9223372036854775808) : -9223372036854775808 ≤ p.tdiv n ∧ p.tdiv n < 9223372036854775808 := by
  rcases Int.lt_or_le p 0 with h | h
  · have e : p.tdiv n = -((-p).tdiv n) := by rw [Int.neg_tdiv, Int.neg_neg]
    rw [e, Int.tdiv_eq_ediv_of_nonneg (by omega)]
    have h1 : (-p) / n ≤ -p := Int.ediv_le_self _ (by omega)
    have h2 : 0 ≤ (-p) / n := Int.ediv_nonneg (by omega) (by omega)
    omega
  · rw [Int.tdiv_eq_ediv_of_nonneg h]
    have h1 : p / n ≤ p := Int.ediv_le_self _ h
    have h2 : 0 ≤ p / n := Int.ediv_nonneg h (by omega)
    omega
theorem tmod_in (p n : Int) (hn : 0 < n) : (0 ≤ p.tmod n ∧ p.tmod n = p % n ∧ p.tdiv n = p / n ∧ p.tmod n < n) ∨ (-n < p.tmod n ∧ p.tmod n < 0 ∧ p.tmod n + n = p % n ∧ p.tdiv n - 1 = p / n) := by
  have hd := Int.mul_tdiv_add_tmod p n
  have h3 : p.tmod n < n := Int.tmod_lt_of_pos p hn
  have h4 : -n < p.tmod n := by
    have := Int.tmod_lt_of_pos (-p) hn
    rw [Int.neg_tmod] at this; omega
  rcases Int.lt_or_le (p.tmod n) 0 with h | h
  · right
    have := (Int.ediv_emod_unique (a := p) (b := n) (r := p.tmod n + n) (q := p.tdiv n - 1) hn).2 ⟨by rw [Int.mul_sub]; omega, by omega, by omega⟩
    exact ⟨h4, h, this.2.symm, this.1.symm⟩
  · left
    have := (Int.ediv_emod_unique (a := p) (b := n) (r := p.tmod n) (q := p.tdiv n) hn).2 ⟨by omega, h, h3⟩
    exact ⟨h, this.2.symm, this.1.symm, h3⟩
theorem modulo_ok (p n : Int) (hn : 0 < n) (hn2 : n ≤ 4611686018427387904) (hp : -9223372036854775808 ≤ p ∧ p < 9223372036854775808) : ACalls Try.prog 72 [.d (.int .i64 p), .d (.int .i64 n)] [] (fun av L => av = .tup [.d (.int .i64 (p % n)), .d (.int .i64 (p / n))] ∧ L = []) := by
  refine acalls_go ttOk zOk foOk Try.func72 rfl Try.ntmps72 rfl false rfl ?_
  conv => whnf
  ((with_reducible refine draw_pl ttOk zOk foOk mixedOk pl72x1 ?_ ?_); (focus kernel_rfl); (conv => whnf))
  repeat' (first | ((with_reducible apply rd_intro); (focus (intro K hK; (conv => whnf); first | exact hK | (intro z hz; rw [wrapI (by omega)] at hz; subst hz; exact hK))); (conv => whnf)) | ((with_reducible apply gd_and); (focus ((conv => whnf); first | rfl | (intro K hK; (conv => whnf); first | exact hK | (intro z hz; rw [wrapI (by omega)] at hz; subst hz; exact hK)))); (conv => whnf)) | ((with_reducible apply z_wrap); (focus omega); (conv => whnf)) | ((with_reducible refine mt_dec (fun _ => ?_) (fun _ => ?_)) <;> (conv => whnf)) | ((with_reducible refine mt_eq (fun _ => ?_) (fun _ => ?_)) <;> (conv => whnf)) | ((with_reducible refine mt_ne (fun _ => ?_) (fun _ => ?_)) <;> (conv => whnf)) | ((with_reducible refine mt_not (fun _ => ?_) (fun _ => ?_)) <;> (conv => whnf)) | ((with_reducible refine mt_any (fun _ => ?_) (fun _ => ?_)) <;> (conv => whnf)))
  ((with_reducible apply rd_intro); (focus (intro K hK; (conv => whnf); refine ⟨by omega, ?_⟩; intro z hz; subst hz; exact hK)); (conv => whnf))
  repeat' (first | ((with_reducible apply rd_intro); (focus (intro K hK; (conv => whnf); first | exact hK | (intro z hz; rw [wrapI (by omega)] at hz; subst hz; exact hK))); (conv => whnf)) | ((with_reducible apply gd_and); (focus ((conv => whnf); first | rfl | (intro K hK; (conv => whnf); first | exact hK | (intro z hz; rw [wrapI (by omega)] at hz; subst hz; exact hK)))); (conv => whnf)) | ((with_reducible apply z_wrap); (focus omega); (conv => whnf)) | ((with_reducible refine mt_dec (fun _ => ?_) (fun _ => ?_)) <;> (conv => whnf)) | ((with_reducible refine mt_eq (fun _ => ?_) (fun _ => ?_)) <;> (conv => whnf)) | ((with_reducible refine mt_ne (fun _ => ?_) (fun _ => ?_)) <;> (conv => whnf)) | ((with_reducible refine mt_not (fun _ => ?_) (fun _ => ?_)) <;> (conv => whnf)) | ((with_reducible refine mt_any (fun _ => ?_) (fun _ => ?_)) <;> (conv => whnf)))
  ((with_reducible apply rd_intro); (focus (intro K hK; (conv => whnf); refine ⟨by omega, ?_⟩; intro z hz; subst hz; exact hK)); (conv => whnf))
  have hq := tdiv_in p n hn hp
  rw [show IntKind.i64.wrap (p.tdiv n) = p.tdiv n from wrapI hq]
  have hl := tmod_in p n hn
  repeat' (first | ((with_reducible apply rd_intro); (focus (intro K hK; (conv => whnf); first | exact hK | (intro z hz; rw [wrapI (by omega)] at hz; subst hz; exact hK))); (conv => whnf)) | ((with_reducible apply gd_and); (focus ((conv => whnf); first | rfl | (intro K hK; (conv => whnf); first | exact hK | (intro z hz; rw [wrapI (by omega)] at hz; subst hz; exact hK)))); (conv => whnf)) | ((with_reducible apply z_wrap); (focus omega); (conv => whnf)) | ((with_reducible refine mt_dec (fun _ => ?_) (fun _ => ?_)) <;> (conv => whnf)) | ((with_reducible refine mt_eq (fun _ => ?_) (fun _ => ?_)) <;> (conv => whnf)) | ((with_reducible refine mt_ne (fun _ => ?_) (fun _ => ?_)) <;> (conv => whnf)) | ((with_reducible refine mt_not (fun _ => ?_) (fun _ => ?_)) <;> (conv => whnf)) | ((with_reducible refine mt_any (fun _ => ?_) (fun _ => ?_)) <;> (conv => whnf)))
  · intro z hz
    conv => whnf
    refine ⟨?_, rfl⟩
    subst hz
    rcases hl with hl | hl
    · omega
    · rw [show IntKind.i64.wrap (p.tdiv n - 1) = p.tdiv n - 1 from wrapI (by have := Int.le_ediv_of_mul_le (a := -9223372036854775808) (b := p) hn (by omega); omega)]
      rw [← hl.2.2.1, ← hl.2.2.2]
  · rcases hl with hl | hl
    · rw [← hl.2.1, ← hl.2.2.1]; exact ⟨rfl, rfl⟩
    · omega
end Go.Proofs.Ytpedbknmkgcldaa

namespace Go.Proofs.Ytpedbknmkgcldaa
open Go.Ab Go.RowKit
/-! crashes, as data -/
def padTo (n : Nat) (l : List UInt8) : List UInt8 := l ++ List.replicate (n - l.length) 0
def tornN (safe seen : List UInt8) (p : Int) : Nat := min ((p % (((max safe.length seen.length + 31) / 32 : Nat) + 1 : Int)).toNat * 32) (max safe.length seen.length)
def tornL (safe seen : List UInt8) (p : Int) : List UInt8 :=
  ((padTo (max safe.length seen.length) seen).take (tornN safe seen p) ++ (padTo (max safe.length seen.length) safe).drop (tornN safe seen p)).take seen.length
def headP : List Int → Int
  | [] => 0
  | p :: _ => p
def stepC (f : FD) (picks : List Int) : List UInt8 × List Int :=
  if f.safe = f.seen then (f.seen, picks) else
  (if headP picks % 3 = 0 then f.safe else if headP picks % 3 = 2 then tornL f.safe f.seen (headP picks / 3) else f.seen, picks.tail)
def crashAt (fs : List FD) (picks : List Int) : Nat → List FileS × List Int
  | 0 => ([], picks)
  | k + 1 => match fs[k]? with
    | none => crashAt fs picks k
    | some f => ((crashAt fs picks k).1 ++ [⟨f.name, (stepC f (crashAt fs picks k).2).1⟩], (stepC f (crashAt fs picks k).2).2)
theorem crashAt_succ {fs : List FD} {picks : List Int} {k : Nat} {f : FD} (h : fs[k]? = some f) : crashAt fs picks (k + 1) = ((crashAt fs picks k).1 ++ [⟨f.name, (stepC f (crashAt fs picks k).2).1⟩], (stepC f (crashAt fs picks k).2).2) := by
  simp only [crashAt, h]
theorem crash_length {fs : List FD} {picks : List Int} : ∀ {k : Nat}, k ≤ fs.length → (crashAt fs picks k).1.length = k
  | 0, _ => rfl
  | k + 1, h => by
    rw [crashAt_succ (List.getElem?_eq_getElem (show k < fs.length by omega))]
    simp [crash_length (show k ≤ fs.length by omega)]
theorem step_sub (f : FD) (picks : List Int) : (stepC f picks).2 = picks ∨ (stepC f picks).2 = picks.tail := by
  unfold stepC
  split
  · exact .inl rfl
  · exact .inr rfl
theorem crash_picks {fs : List FD} {picks : List Int} : ∀ {k : Nat}, ∀ x ∈ (crashAt fs picks k).2, x ∈ picks
  | 0, x, h => h
  | k + 1, x, h => by
    cases hf : fs[k]? with
    | none => simp only [crashAt, hf] at h; exact crash_picks x h
    | some f =>
      rw [crashAt_succ hf] at h
      rcases step_sub f (crashAt fs picks k).2 with e | e
      · simp only [e] at h; exact crash_picks x h
      · simp only [e] at h; exact crash_picks x (List.mem_of_mem_tail h)
theorem crash_plen {fs : List FD} {picks : List Int} : ∀ {k : Nat}, (crashAt fs picks k).2.length ≤ picks.length
  | 0 => Nat.le_refl _
  | k + 1 => by
    cases hf : fs[k]? with
    | none => simp only [crashAt, hf]; exact crash_plen
    | some f =>
      rw [crashAt_succ hf]
      rcases step_sub f (crashAt fs picks k).2 with e | e
      · simp only [e]; exact crash_plen
      · simp only [e, List.length_tail]; exact Nat.le_trans (Nat.sub_le _ _) crash_plen
/-- the files by the order of names -/
def pickFs (ss : List ByteArray) (fs : List FD) : List FD := ss.filterMap fun n => getN n fs
theorem pick_names {fs : List FD} : ∀ {ss : List ByteArray}, (∀ n ∈ ss, n ∈ fs.map FD.name) → (pickFs ss fs).map FD.name = ss
  | [], _ => rfl
  | n :: r, h => by
    cases hg : getN n fs with
    | none => exact absurd (h n (by simp)) (getN_not hg)
    | some f =>
      have := pick_names (fs := fs) (ss := r) fun m hm => h m (by simp [hm])
      simp only [pickFs] at this
      simp only [pickFs, List.filterMap_cons, hg, List.map_cons, getN_name hg, this]
theorem getN_mem : ∀ {fs : List FD}, (fs.map FD.name).Nodup → ∀ {f : FD}, f ∈ fs → getN f.name fs = some f
  | [], _, _, h => by simp at h
  | x :: r, hn, f, h => by
    simp only [getN]
    split
    · rename_i he
      exact congrArg some (inj_name hn (by simp) h he.symm)
    · rename_i he
      rcases List.mem_cons.1 h with rfl | h
      · exact absurd rfl he
      · exact getN_mem (List.nodup_cons.1 hn).2 h
theorem pick_self {fs : List FD} (hn : (fs.map FD.name).Nodup) : pickFs (fs.map FD.name) fs = fs := by
  have : ∀ l : List FD, (∀ f ∈ l, f ∈ fs) → pickFs (l.map FD.name) fs = l := by
    intro l
    induction l with
    | nil => intro _; rfl
    | cons x r ih =>
      intro h
      have := ih fun f hf => h f (by simp [hf])
      simp only [pickFs] at this
      simp only [pickFs, List.map_cons, List.filterMap_cons, getN_mem hn (h x (by simp)), this]
  exact this fs fun f hf => hf
theorem pick_perm {ss : List ByteArray} {fs : List FD} (hn : (fs.map FD.name).Nodup) (h : ss.Perm (fs.map FD.name)) : (pickFs ss fs).Perm fs := by
  have := h.filterMap (fun n => getN n fs)
  have e := pick_self hn
  unfold pickFs at e
  rw [e] at this
  exact this
theorem pick_get {ss : List ByteArray} {fs : List FD} (h : ∀ n ∈ ss, n ∈ fs.map FD.name) {k : Nat} {f : FD} (hk : (pickFs ss fs)[k]? = some f) : ss[k]? = some f.name ∧ getN f.name fs = some f := by
  constructor
  · have := congrArg (fun l => l[k]?) (pick_names h)
    simp only [List.getElem?_map, hk, Option.map_some] at this
    exact this.symm
  · have := List.mem_of_getElem? hk
    unfold pickFs at this
    obtain ⟨n, _, hg⟩ := List.mem_filterMap.1 this
    rw [getN_name hg]; exact hg
theorem findF_of_get {n : ByteArray} {d : Dk} {g : FD} (h : getN n d.dat.fs = some g) : ∃ i f, findF n d.fs 0 = some (i, f) ∧ f.dat = g := by
  have := findF_get (n := n) (fs := d.fs) (j := 0)
  rw [show getN n (d.fs.map Fl.dat) = some g from h] at this
  cases hf : findF n d.fs 0 with
  | none => rw [hf] at this; cases this
  | some p => rw [hf] at this; exact ⟨p.1, p.2, rfl, by simpa using this⟩
end Go.Proofs.Ytpedbknmkgcldaa

namespace Go.Proofs.Ytpedbknmkgcldaa
open Go.Ab Go.RowKit Go.MapKept
attribute [local irreducible] ACalls AW ADraw Into
set_option maxRecDepth 100000
abbrev rows2 (l : List (List UInt8)) : List (List DV) := l.map fun x => [.sl 1 (u8s x)]
def longestL (l : List (List UInt8)) : Nat := l.foldl (fun m x => max m x.length) 0
theorem longest_ok (l : List (List UInt8)) (hl : l.length ≤ 1000) : ACalls Try.prog 106 [.d (.sl 1 (rows2 l))] [] (fun av L => av = .d (.int .i64 (longestL l : Nat)) ∧ L = []) := by
  refine acalls_go ttOk zOk foOk Try.func106 rfl Try.ntmps106 rfl false rfl ?_
  conv => whnf
  refine loop_go ttOk zOk foOk (σ := Nat) (fun k => ([(2, .d (.int .i64 (longestL (l.take k) : Nat))), (5, .d (.sl 1 (rows2 l))), (6, .d (.int .i64 (rows2 l).length)), (7, .d (.int .i64 k))], [])) (fun k => k ≤ l.length) (fun k => l.length - k) [2, 5, 6, 7] ?_ ?_
  · conv => whnf
    exact ⟨0, rfl, rfl, by omega⟩
  · rintro k hk
    conv => whnf
    refine sp_dec (fun h => ?_) (fun h => ?_) <;> simp only [rows2, List.length_map] at h
    · conv => whnf
      obtain ⟨a, ha⟩ : ∃ a, l[k]? = some a := ⟨_, List.getElem?_eq_getElem (by omega)⟩
      ((with_reducible refine ix_map ha ?_ ?_); (focus (first | rfl | omega)); (conv => whnf))
      repeat' (first | ((with_reducible apply z_wrap); (focus omega); (conv => whnf)) | ((with_reducible refine mt_dec (fun _ => ?_) (fun _ => ?_)) <;> (conv => whnf)) | ((with_reducible refine mt_eq (fun _ => ?_) (fun _ => ?_)) <;> (conv => whnf)) | ((with_reducible refine mt_ne (fun _ => ?_) (fun _ => ?_)) <;> (conv => whnf)) | ((with_reducible refine mt_not (fun _ => ?_) (fun _ => ?_)) <;> (conv => whnf)) | ((with_reducible refine mt_any (fun _ => ?_) (fun _ => ?_)) <;> (conv => whnf)))
      refine ⟨k + 1, ?_, rfl, by omega, by omega⟩
      have : longestL (l.take (k + 1)) = max (longestL (l.take k)) a.length := by
        rw [List.take_add_one, ha]
        simp [longestL, List.foldl_append]
      rw [this]
      simp only [u8s_length]
      rw [show ((max (longestL (l.take k)) a.length : Nat) : Int) = max ((longestL (l.take k) : Nat) : Int) (a.length : Int) by omega]
      rfl
    · conv => whnf
      obtain rfl : k = l.length := by omega
      rw [List.take_length]
      exact ⟨rfl, rfl⟩
end Go.Proofs.Ytpedbknmkgcldaa

namespace Go.Proofs.Ytpedbknmkgcldaa
open Go.Ab Go.RowKit Go.MapKept
attribute [local irreducible] ACalls AW ADraw Into
set_option maxRecDepth 100000
theorem bclone_row (xs : List UInt8) (hm : xs.length ≤ 140737488355328) : ACalls Try.prog 107 [.d (.sl 1 (u8s xs))] [] (fun av L => av = .arr 0 ∧ L = [.row 5 1 (u8s xs) false]) := by
  refine acalls_go ttOk zOk foOk Try.func107 rfl Try.ntmps107 rfl true rfl ?_
  conv => whnf
  intro b hb
  conv => whnf
  refine sp_any (fun h => ?_) (fun h => ?_)
  · conv => whnf
    exact ⟨rfl, by rw [hb h]⟩
  · conv => whnf
    refine ⟨by simp [u8s]; omega, ?_⟩
    conv => whnf
    exact ⟨rfl, rfl⟩
end Go.Proofs.Ytpedbknmkgcldaa
