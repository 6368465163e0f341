/- PrimaryTrims: contracts. -/
import Derived.Test.YtolkmjfkkkiboaaGreatPrimaryTrimsCodP
set_option linter.unusedVariables false
set_option linter.unusedSimpArgs false
open Go Go.Claim Go.Proofs
namespace Go.Proofs.YtolkmjfkkkiboaaGreat
open Go.Ab Go.RowKit Go.MapKept
attribute [local irreducible] ACalls AW ADraw Into fltB fnear
set_option maxRecDepth 100000
theorem unfroz_at {w : World} {b o : Nat} {cur : Array Value} {e : TypeId} {mk : Nat × Nat} (h : w.heap[b]? = some (.cells cur e mk)) (hu : unfroz mk cur.size) (ho : o < cur.size) : w.frozen? ⟨b, o, none⟩ = false := by
  have hq6 := hu o ho
  unfold World.frozen?
  rw [h]
  show (decide (mk.1 ≤ o) && decide (o < mk.2)) = false
  by_cases hp : mk.1 ≤ o
  · rw [decide_eq_false (p := o < mk.2) fun h => hq6 ⟨hp, h⟩, Bool.and_false]
  · rw [decide_eq_false hp, Bool.false_and]
def TrivL (l : List Sh) (us : List Value) : Prop := ∀ (i : Nat) (u : Value) (sh : Sh), us[i]? = some u → l[i]? = some sh → Triv sh u
theorem tl_n : TrivL [] [] := fun i u sh h => by simp at h
theorem tl_c {sh : Sh} {u : Value} {l : List Sh} {us : List Value} (h : Triv sh u) (k : TrivL l us) : TrivL (sh :: l) (u :: us) := fun i v sv h1 h2 => by
  cases i with
  | zero => simp at h1 h2; subst h1; subst h2; exact h
  | succ i => exact k i v sv (by simpa using h1) (by simpa using h2)
theorem Spoil.elem {lo n : Nat} {w : World} {b off j m : Nat} {cur : Array Value} {e : TypeId} {mk : Nat × Nat} (q3 : lo ≤ b) (q4 : b < lo + n) (q5 : w.heap[b]? = some (.cells cur e mk)) (q7 : gsz e = m) (q8 : off % m = 0) (us : List Value) (hl : us.length ≤ m) (ht : TrivL (gsh m) us) :
    Spoil lo n w (w.setCells b (off + j * m) us) :=
  Spoil.cells q3 q4 us _ w cur q5 fun i u hi sh hs => ht i u sh hi (by
    have him : i < m := Nat.lt_of_lt_of_le (List.getElem?_eq_some_iff.1 hi).1 hl
    have : (off + j * m + i) % m = i := by
      rw [Nat.add_right_comm, Nat.add_mul_mod_self_right, Nat.add_mod, q8, Nat.zero_add, Nat.mod_mod, Nat.mod_eq_of_lt him]
    rwa [q7, this] at hs)
theorem alloc_row (w : World) (cur : Array Value) (e : TypeId) (j : Nat) : (w.alloc (.cells cur e)).cell? ((⟨w.heap.size, 0, none⟩ : Addr).add j) = cur[j]? := by
  rw [add_lit _ rfl, Nat.zero_add, cell_of_row _ _ _ _ _ _ (heap_alloc_new w _)]
theorem elem3 {lo n k : Nat} {w : World} {b off len cap j : Nat} (h : SL lo n w (k + 1) 3 (.slice (some ⟨b, off, none⟩) len cap)) (hj : j < len) :
    ∃ (z0 : Int) (z1 : Int) (z2 : Int) (cur : Array Value) (e : TypeId) (mk : Nat × Nat), w.cell? ⟨b, off + j * 3, none⟩ = some (.int .i64 z0) ∧ w.cell? ⟨b, off + j * 3 + 1, none⟩ = some (.int .i64 z1) ∧ w.cell? ⟨b, off + j * 3 + 2, none⟩ = some (.int .i64 z2) ∧ w.frozen? ⟨b, off + j * 3, none⟩ = false ∧ w.frozen? ⟨b, off + j * 3 + 1, none⟩ = false ∧ w.frozen? ⟨b, off + j * 3 + 2, none⟩ = false ∧ lo ≤ b ∧ b < lo + n ∧ w.heap[b]? = some (.cells cur e mk) ∧ gsz e = 3 ∧ off % 3 = 0 := by
  obtain ⟨p', len', cap', e1, k1, _, k5⟩ := h
  cases e1
  rcases k5 with h0 | ⟨q, e2, _, q3, q4, ⟨cur, e', mk, q5, q6, q7, q8, q9⟩, q10⟩
  · omega
  cases e2
  have hlt : off + j * 3 + 2 < cur.size := by
    have : (j + 1) * 3 ≤ cap * 3 := Nat.mul_le_mul_right _ (by omega)
    simp only at q9
    omega
  obtain ⟨u0, c0, z0, rfl⟩ := q10 j 0 .int hj rfl
  obtain ⟨u1, c1, z1, rfl⟩ := q10 j 1 .int hj rfl
  obtain ⟨u2, c2, z2, rfl⟩ := q10 j 2 .int hj rfl
  exact ⟨z0, z1, z2, cur, e', mk, c0, c1, c2, unfroz_at q5 q6 (by omega), unfroz_at q5 q6 (by omega), unfroz_at q5 q6 (by omega), q3, q4, q5, q7, q8⟩
theorem elem6 {lo n k : Nat} {w : World} {b off len cap j : Nat} (h : SL lo n w (k + 1) 6 (.slice (some ⟨b, off, none⟩) len cap)) (hj : j < len) :
    ∃ (z0 : Int) (z1 : Int) (u2 : Value) (u3 : Value) (z4 : Int) (u5 : Value) (cur : Array Value) (e : TypeId) (mk : Nat × Nat), w.cell? ⟨b, off + j * 6, none⟩ = some (.int .i64 z0) ∧ w.cell? ⟨b, off + j * 6 + 1, none⟩ = some (.int .i64 z1) ∧ w.cell? ⟨b, off + j * 6 + 2, none⟩ = some (u2) ∧ w.cell? ⟨b, off + j * 6 + 3, none⟩ = some (u3) ∧ w.cell? ⟨b, off + j * 6 + 4, none⟩ = some (.int .i64 z4) ∧ w.cell? ⟨b, off + j * 6 + 5, none⟩ = some (u5) ∧ w.frozen? ⟨b, off + j * 6, none⟩ = false ∧ w.frozen? ⟨b, off + j * 6 + 1, none⟩ = false ∧ w.frozen? ⟨b, off + j * 6 + 2, none⟩ = false ∧ w.frozen? ⟨b, off + j * 6 + 3, none⟩ = false ∧ w.frozen? ⟨b, off + j * 6 + 4, none⟩ = false ∧ w.frozen? ⟨b, off + j * 6 + 5, none⟩ = false ∧ SL lo n w k 1 u2 ∧ SL lo n w k 1 u3 ∧ SL lo n w k 1 u5 ∧ lo ≤ b ∧ b < lo + n ∧ w.heap[b]? = some (.cells cur e mk) ∧ gsz e = 6 ∧ off % 6 = 0 := by
  obtain ⟨p', len', cap', e1, k1, _, k5⟩ := h
  cases e1
  rcases k5 with h0 | ⟨q, e2, _, q3, q4, ⟨cur, e', mk, q5, q6, q7, q8, q9⟩, q10⟩
  · omega
  cases e2
  have hlt : off + j * 6 + 5 < cur.size := by
    have : (j + 1) * 6 ≤ cap * 6 := Nat.mul_le_mul_right _ (by omega)
    simp only at q9
    omega
  obtain ⟨u0, c0, z0, rfl⟩ := q10 j 0 .int hj rfl
  obtain ⟨u1, c1, z1, rfl⟩ := q10 j 1 .int hj rfl
  obtain ⟨u2, c2, s2⟩ := q10 j 2 (.sl 1) hj rfl
  obtain ⟨u3, c3, s3⟩ := q10 j 3 (.sl 1) hj rfl
  obtain ⟨u4, c4, z4, rfl⟩ := q10 j 4 .int hj rfl
  obtain ⟨u5, c5, s5⟩ := q10 j 5 (.sl 1) hj rfl
  exact ⟨z0, z1, u2, u3, z4, u5, cur, e', mk, c0, c1, c2, c3, c4, c5, unfroz_at q5 q6 (by omega), unfroz_at q5 q6 (by omega), unfroz_at q5 q6 (by omega), unfroz_at q5 q6 (by omega), unfroz_at q5 q6 (by omega), unfroz_at q5 q6 (by omega), s2, s3, s5, q3, q4, q5, q7, q8⟩
theorem info3 : (Tryz.prog.info? 106).map (fun i => (i.zero, i.size, i.bytes)) = some (some (.agg #[.int .i64 0, .int .i64 0, .int .i64 0]), 3, 24) := by kernel_rfl
set_option maxHeartbeats 2000000 in
set_option maxRecDepth 100000 in
theorem votes_sp (lo n k : Nat) (w : World) (v : Value) (hv : SL lo n w (k + 1) 3 v) (hbl : ∀ b, lo ≤ b → b < lo + n → b < w.heap.size) :
    Calls Tryz.prog 122 #[v] w fun e w' => e = .returned (.tuple #[]) ∧ Spoil lo n w w' := by
  obtain ⟨p, len, cap, rfl, k1, ⟨k2, k3⟩, k4⟩ := id hv
  go_enter Tryz.func122, Tryz.ntmps122
  go_wp2
  go_loopw [2] (fun i wr => ∃ j : Nat, j ≤ len ∧ i = .int .i64 j ∧ Spoil lo n w wr)
    (fun i _ => len - (intOf i).toNat)
  case atStart => exact ⟨0, Nat.zero_le _, rfl, Spoil.refl _ _ _⟩
  case round =>
    obtain ⟨j, hj, rfl, hS⟩ := hrel
    have hv2 := hS.sl _ _ _ hv
    have hbl2 : ∀ b, lo ≤ b → b < lo + n → b < wr.heap.size := fun b h1 h2 => Nat.lt_of_lt_of_le (hbl b h1 h2) hS.size
    by_cases hj2 : j < len
    · rcases k4 with rfl | ⟨⟨b, off, sp⟩, rfl, rfl, _⟩
      · omega
      clear hv
      obtain ⟨z0, z1, z2, cur, e', mk, c0, c1, c2, f0, f1, f2, q3, q4, q5, q7, q8⟩ := elem3 hv2 hj2
      go_wp2
      exact ⟨⟨j + 1, by omega, by go_num, hS.trans (Spoil.elem q3 q4 q5 q7 q8 [.int .i64 (-9), .int .i64 0, .int .i64 0] (by decide) (tl_c ⟨_, rfl⟩ (tl_c ⟨_, rfl⟩ (tl_c ⟨_, rfl⟩ tl_n))))⟩, by simp [intOf]; omega⟩
    · obtain rfl : j = len := by omega
      obtain ⟨i0, hi, hz0, hz1, hz2⟩ := info_parts info3
      go_wp2_with (at_builtin; refine wpList_append_spoil _ rfl (.tmp 13) (.tmp 15) 25 rfl 106 i0 (.agg #[.int .i64 0, .int .i64 0, .int .i64 0]) 3 24 Tryz.underlying25 hi hz0 hz1 hz2 rfl (by decide) (lo := lo) (n := n) (k := k + 0) (v := .slice p j cap) ?sl rfl ⟨wr.heap.size, 0, none⟩ 1 [.int .i64 0, .int .i64 0, .int .i64 0] rfl rfl ?c1 ?c2 (tl_c ⟨_, rfl⟩ (tl_c ⟨_, rfl⟩ (tl_c ⟨_, rfl⟩ tl_n)) : TrivL (gsh 3) _) (by decide) ?bl ?go)
      case sl => exact (Spoil.keeps hbl2 (Keeps.alloc wr _)).sl _ _ _ hv2
      case c1 => intro j u hj; rw [alloc_row]; simpa using hj
      case c2 => intro u hu; simp at hu; rcases hu with rfl | rfl | rfl <;> rfl
      case bl => exact fun b h1 h2 => Nat.lt_of_lt_of_le (hbl2 b h1 h2) (Keeps.alloc wr _).size
      case go =>
        intro v' w' hS2 _
        go_wp2
        go_end0
        exact ⟨rfl, (hS.trans (Spoil.keeps hbl2 (Keeps.alloc wr _))).trans hS2⟩
theorem info6 : (Tryz.prog.info? 47).map (fun i => (i.zero, i.size, i.bytes)) = some (some (.agg #[.int .i64 0, .int .i64 0, .slice none 0 0, .slice none 0 0, .int .i64 0, .slice none 0 0]), 6, 96) := by kernel_rfl
set_option maxHeartbeats 2000000 in
set_option maxRecDepth 100000 in
theorem certs_sp (lo n k : Nat) (w : World) (v : Value) (hv : SL lo n w (k + 2) 6 v) (hbl : ∀ b, lo ≤ b → b < lo + n → b < w.heap.size) :
    Calls Tryz.prog 123 #[v] w fun e w' => e = .returned (.tuple #[]) ∧ Spoil lo n w w' := by
  obtain ⟨p, len, cap, rfl, k1, ⟨k2, k3⟩, k4⟩ := id hv
  go_enter Tryz.func123, Tryz.ntmps123
  go_wp2
  go_loopw [2] (fun i wr => ∃ j : Nat, j ≤ len ∧ i = .int .i64 j ∧ Spoil lo n w wr)
    (fun i _ => len - (intOf i).toNat)
  case atStart => exact ⟨0, Nat.zero_le _, rfl, Spoil.refl _ _ _⟩
  case round =>
    obtain ⟨j, hj, rfl, hS⟩ := hrel
    have hv2 := hS.sl _ _ _ hv
    have hbl2 : ∀ b, lo ≤ b → b < lo + n → b < wr.heap.size := fun b h1 h2 => Nat.lt_of_lt_of_le (hbl b h1 h2) hS.size
    by_cases hj2 : j < len
    · rcases k4 with rfl | ⟨⟨b, off, sp⟩, rfl, rfl, _⟩
      · omega
      clear hv
      obtain ⟨z0, z1, u2, u3, z4, u5, cur, e', mk, c0, c1, c2, c3, c4, c5, f0, f1, f2, f3, f4, f5, s2, s3, s5, q3, q4, q5, q7, q8⟩ := elem6 hv2 hj2
      clear q3 q4 q5 q7 q8 f0 f1 f2 f3 f4 f5
      go_wp2_with (go_at_call 121; (with_reducible refine (cert_sp lo n k _ z0 z1 z4 u2 u3 u5 s2 s3 s5 hbl2).mono ?_); rintro e w1 ⟨rfl, hS1⟩; obtain ⟨zb0, zb1, ub2, ub3, zb4, ub5, cur, e', mk, cb0, cb1, cb2, cb3, cb4, cb5, fb0, fb1, fb2, fb3, fb4, fb5, sb2, sb3, sb5, q3, q4, q5, q7, q8⟩ := elem6 (hS1.sl _ _ _ hv2) hj2)
      exact ⟨⟨j + 1, by omega, by go_num, (hS.trans hS1).trans (Spoil.elem q3 q4 q5 q7 q8 [.int .i64 0, .int .i64 0, .slice none 0 0, .slice none 0 0, .int .i64 (-9), .slice none 0 0] (by decide) (tl_c ⟨_, rfl⟩ (tl_c ⟨_, rfl⟩ (tl_c rfl (tl_c rfl (tl_c ⟨_, rfl⟩ (tl_c rfl tl_n)))))))⟩, by simp [intOf]; omega⟩
    · obtain rfl : j = len := by omega
      obtain ⟨i0, hi, hz0, hz1, hz2⟩ := info_parts info6
      go_wp2_with (at_builtin; refine wpList_append_spoil _ rfl (.tmp 18) (.tmp 20) 26 rfl 47 i0 (.agg #[.int .i64 0, .int .i64 0, .slice none 0 0, .slice none 0 0, .int .i64 0, .slice none 0 0]) 6 96 Tryz.underlying26 hi hz0 hz1 hz2 rfl (by decide) (lo := lo) (n := n) (k := k + 1) (v := .slice p j cap) ?sl rfl ⟨wr.heap.size, 0, none⟩ 1 [.int .i64 0, .int .i64 0, .slice none 0 0, .slice none 0 0, .int .i64 0, .slice none 0 0] rfl rfl ?c1 ?c2 (tl_c ⟨_, rfl⟩ (tl_c ⟨_, rfl⟩ (tl_c rfl (tl_c rfl (tl_c ⟨_, rfl⟩ (tl_c rfl tl_n))))) : TrivL (gsh 6) _) (by decide) ?bl ?go)
      case sl => exact (Spoil.keeps hbl2 (Keeps.alloc wr _)).sl _ _ _ hv2
      case c1 => intro j u hj; rw [alloc_row]; simpa using hj
      case c2 => intro u hu; simp at hu; rcases hu with rfl | rfl | rfl | rfl | rfl | rfl <;> rfl
      case bl => exact fun b h1 h2 => Nat.lt_of_lt_of_le (hbl2 b h1 h2) (Keeps.alloc wr _).size
      case go =>
        intro v' w' hS2 _
        go_wp2
        go_end0
        exact ⟨rfl, (hS.trans (Spoil.keeps hbl2 (Keeps.alloc wr _))).trans hS2⟩
end Go.Proofs.YtolkmjfkkkiboaaGreat
open Go Go.Claim Go.Proofs
namespace Go.Proofs.YtolkmjfkkkiboaaGreat
open Go.Ab Go.RowKit Go.MapKept
attribute [local irreducible] ACalls AW ADraw Into fltB fnear
set_option maxRecDepth 100000
end Go.Proofs.YtolkmjfkkkiboaaGreat
open Go Go.Claim Go.Proofs
namespace Go.Proofs.YtolkmjfkkkiboaaGreat
open Go.Ab Go.RowKit Go.MapKept
attribute [local irreducible] ACalls AW ADraw Into fltB fnear
set_option maxRecDepth 100000
set_option maxHeartbeats 2000000 in
set_option maxRecDepth 100000 in
theorem primary_sp (lo n k : Nat) (w : World) (i0 i1 i2 i3 i4 i5 i6 i9 i12 i13 : Int) (v7 v8 v10 v11 v14 v15 : Value) (h7 : SL lo n w (k + 2) 1 v7) (h8 : SL lo n w (k + 2) 1 v8) (h10 : SL lo n w (k + 2) 1 v10) (h11 : SL lo n w (k + 2) 3 v11) (h14 : SL lo n w (k + 2) 6 v14) (h15 : SL lo n w (k + 2) 6 v15) (hbl : ∀ b, lo ≤ b → b < lo + n → b < w.heap.size) :
    Calls Tryz.prog 62 #[.agg #[.int .i64 i0, .int .i64 i1, .int .i64 i2, .int .i64 i3, .int .i64 i4, .int .i64 i5, .int .i64 i6, v7, v8, .int .i64 i9, v10, v11, .int .i64 i12, .int .i64 i13, v14, v15]] w fun e w' => e = .returned (.tuple #[]) ∧ Spoil lo n w w' := by
  obtain ⟨p7, l7, c7, rfl⟩ := sl_slice h7
  obtain ⟨p8, l8, c8, rfl⟩ := sl_slice h8
  obtain ⟨p10, l10, c10, rfl⟩ := sl_slice h10
  obtain ⟨p11, l11, c11, rfl⟩ := sl_slice h11
  obtain ⟨p14, l14, c14, rfl⟩ := sl_slice h14
  obtain ⟨p15, l15, c15, rfl⟩ := sl_slice h15
  obtain ⟨cs, hcs⟩ : ∃ cs : Array Value, cs = #[.int .i64 i0, .int .i64 i1, .int .i64 i2, .int .i64 i3, .int .i64 i4, .int .i64 i5, .int .i64 i6, .slice p7 l7 c7, .slice p8 l8 c8, .int .i64 i9, .slice p10 l10 c10, .slice p11 l11 c11, .int .i64 i12, .int .i64 i13, .slice p14 l14 c14, .slice p15 l15 c15] := ⟨_, rfl⟩
  have hA := Spoil.keeps hbl (Keeps.alloc w (.cells cs 30))
  have hblA : ∀ b, lo ≤ b → b < lo + n → b < (w.alloc (.cells cs 30)).heap.size := fun b g1 g2 => Nat.lt_of_lt_of_le (hbl b g1 g2) hA.size
  have d10 : (w.alloc (.cells cs 30)).cell? ⟨w.heap.size, 10, none⟩ = some (.slice p10 l10 c10) := by rw [cell_of_row _ _ 10 _ _ _ (heap_alloc_new w _), hcs]; rfl
  have d11 : (w.alloc (.cells cs 30)).cell? ⟨w.heap.size, 11, none⟩ = some (.slice p11 l11 c11) := by rw [cell_of_row _ _ 11 _ _ _ (heap_alloc_new w _), hcs]; rfl
  have d14 : (w.alloc (.cells cs 30)).cell? ⟨w.heap.size, 14, none⟩ = some (.slice p14 l14 c14) := by rw [cell_of_row _ _ 14 _ _ _ (heap_alloc_new w _), hcs]; rfl
  have d15 : (w.alloc (.cells cs 30)).cell? ⟨w.heap.size, 15, none⟩ = some (.slice p15 l15 c15) := by rw [cell_of_row _ _ 15 _ _ _ (heap_alloc_new w _), hcs]; rfl
  have hout : ¬ (lo ≤ w.heap.size ∧ w.heap.size < lo + n) := isle_out hbl (Nat.le_refl _)
  replace h7 := hA.sl _ _ _ h7
  replace h8 := hA.sl _ _ _ h8
  replace h10 := hA.sl _ _ _ h10
  replace h11 := hA.sl _ _ _ h11
  replace h14 := hA.sl _ _ _ h14
  replace h15 := hA.sl _ _ _ h15
  subst hcs
  go_enter Tryz.func62, Tryz.ntmps62
  go_wp2_with (go_at_call 47; (with_reducible refine (header_sp lo n (k + 1) _ i5 i6 (.slice p7 l7 c7) (.slice p8 l8 c8) h7 h8 hblA).mono ?_); rintro e w1 ⟨rfl, hS1⟩; have hbl1 : ∀ b, lo ≤ b → b < lo + n → b < w1.heap.size := fun b g1 g2 => Nat.lt_of_lt_of_le (hblA b g1 g2) hS1.size; have e10 := Spoil.cellOf (a := ⟨w.heap.size, 10, none⟩) hS1 hout d10)
  go_wp2_with (go_at_call 50; (with_reducible refine (numbers_sp lo n (k + 1) _ (.slice p10 l10 c10) (hS1.sl _ _ _ h10) hbl1).mono ?_); rintro e w2 ⟨rfl, hS2⟩; clear e10; have hbl2 : ∀ b, lo ≤ b → b < lo + n → b < w2.heap.size := fun b g1 g2 => Nat.lt_of_lt_of_le (hbl1 b g1 g2) hS2.size; have e11 := Spoil.cellOf (a := ⟨w.heap.size, 11, none⟩) (hS1.trans hS2) hout d11)
  go_wp2_with (go_at_call 122; (with_reducible refine (votes_sp lo n (k + 1) _ (.slice p11 l11 c11) ((hS1.trans hS2).sl _ _ _ h11) hbl2).mono ?_); rintro e w3 ⟨rfl, hS3⟩; clear e11; have hbl3 : ∀ b, lo ≤ b → b < lo + n → b < w3.heap.size := fun b g1 g2 => Nat.lt_of_lt_of_le (hbl2 b g1 g2) hS3.size; have e14 := Spoil.cellOf (a := ⟨w.heap.size, 14, none⟩) ((hS1.trans hS2).trans hS3) hout d14)
  go_wp2_with (go_at_call 123; (with_reducible refine (certs_sp lo n k _ (.slice p14 l14 c14) (((hS1.trans hS2).trans hS3).sl _ _ _ h14) hbl3).mono ?_); rintro e w4 ⟨rfl, hS4⟩; clear e14; have hbl4 : ∀ b, lo ≤ b → b < lo + n → b < w4.heap.size := fun b g1 g2 => Nat.lt_of_lt_of_le (hbl3 b g1 g2) hS4.size; have e15 := Spoil.cellOf (a := ⟨w.heap.size, 15, none⟩) (((hS1.trans hS2).trans hS3).trans hS4) hout d15)
  go_wp2_with (go_at_call 123; (with_reducible refine (certs_sp lo n k _ (.slice p15 l15 c15) ((((hS1.trans hS2).trans hS3).trans hS4).sl _ _ _ h15) hbl4).mono ?_); rintro e w5 ⟨rfl, hS5⟩)
  go_end0
  exact ⟨rfl, hA.trans ((((hS1.trans hS2).trans hS3).trans hS4).trans hS5)⟩
attribute [local irreducible] SL
theorem fsI (l : List Int) (h : l.length ≤ 4294967296) (k : Nat) : FitS (k + 1) 1 (.sl 1 (nums l)) := .inr ⟨_, rfl, by rw [nums_length]; exact h, fun cs hcs => by
  obtain ⟨x, _, rfl⟩ := List.mem_map.1 hcs
  exact ⟨x, [], rfl, rfl⟩⟩
theorem fsV (l : List Vote) (h : l.length ≤ 4294967296) (k : Nat) : FitS (k + 1) 3 (.sl 3 (votesD l)) := .inr ⟨_, rfl, by rw [votesD_length]; exact h, fun cs hcs => by
  obtain ⟨x, _, rfl⟩ := List.mem_map.1 hcs
  exact ⟨x.round, _, rfl, x.author, _, rfl, x.digest, [], rfl, rfl⟩⟩
structure Cert.fitS (c : Cert) : Prop where
  bats : c.bats.length ≤ 4294967296
  pars : c.pars.length ≤ 4294967296
  sigs : c.sigs.length ≤ 4294967296
theorem fsC (l : List Cert) (h : l.length ≤ 4294967296) (hc : ∀ c ∈ l, c.fitS) (k : Nat) : FitS (k + 2) 6 (.sl 6 (certsD l)) := .inr ⟨_, rfl, by rw [certsD_length]; exact h, fun cs hcs => by
  obtain ⟨x, hx, rfl⟩ := List.mem_map.1 hcs
  have hf := hc x hx
  exact ⟨x.author, _, rfl, x.round, _, rfl, _, _, rfl, fsI x.bats hf.bats k, _, _, rfl, fsI x.pars hf.pars k, x.digest, _, rfl, _, _, rfl, fsI x.sigs hf.sigs k, rfl⟩⟩
def Prim.ai (p : Prim) (i : Nat) : AV := .agg [.d (.int .i64 p.id), .d (.int .i64 p.nodes), .d (.int .i64 p.round), .d (.int .i64 p.age), .d (.int .i64 p.said), .d (.int .i64 p.mine.author), .d (.int .i64 p.mine.round), .isl i (.sl 1 (nums p.mine.bats)), .isl i (.sl 1 (nums p.mine.pars)), .d (.int .i64 p.dig), .isl i (.sl 1 (nums p.acks)), .isl i (.sl 3 (votesD p.votes)), .d (.int .i64 p.dag.nodes), .d (.int .i64 p.dag.low), .isl i (.sl 6 (certsD p.dag.certs)), .isl i (.sl 6 (certsD p.late))]
structure Prim.fitS (p : Prim) : Prop where
  bats : p.mine.bats.length ≤ 4294967296
  pars : p.mine.pars.length ≤ 4294967296
  acks : p.acks.length ≤ 4294967296
  votes : p.votes.length ≤ 4294967296
  dag : p.dag.certs.length ≤ 4294967296 ∧ ∀ c ∈ p.dag.certs, c.fitS
  late : p.late.length ≤ 4294967296 ∧ ∀ c ∈ p.late, c.fitS
theorem spoilP_ok (p : Prim) (h : p.fitS) (lo n : Nat) (ok : Bool) : ACalls Tryz.prog 62 [p.ai 0] [.isle lo n ok] (fun av L => av = .tup [] ∧ L = [.isle lo n false]) := by
  refine acalls_spoil fun c E w vs hbl hv => ?_
  simp only [VRt, Prim.ai] at hv
  obtain ⟨u, us', hvs, hu, rfl⟩ := hv
  have hu0 := hu
  simp only [VR] at hu
  obtain ⟨us, rfl, hus⟩ := hu
  simp only [VRs] at hus
  obtain ⟨a0, _, e, -, h0, a1, _, rfl, -, h1, a2, _, rfl, -, h2, a3, _, rfl, -, h3, a4, _, rfl, -, h4, a5, _, rfl, -, h5, a6, _, rfl, -, h6, a7, _, rfl, -, h7, a8, _, rfl, -, h8, a9, _, rfl, -, h9, a10, _, rfl, -, h10, a11, _, rfl, -, h11, a12, _, rfl, -, h12, a13, _, rfl, -, h13, a14, _, rfl, -, h14, a15, _, rfl, -, h15, rfl⟩ := hus
  have hi : ∀ {z : Int} {a : Value}, VR (rcOf c.M0 E [.isle lo n ok] w) (.d (.int .i64 z)) a → a = .int .i64 z := fun {z a} hz => by simpa only [VR, VD] using hz
  have b0 := hi h0
  have b1 := hi h1
  have b2 := hi h2
  have b3 := hi h3
  have b4 := hi h4
  have b5 := hi h5
  have b6 := hi h6
  have b9 := hi h9
  have b12 := hi h12
  have b13 := hi h13
  subst b0 b1 b2 b3 b4 b5 b6 b9 b12 b13
  have hvs' : vs = #[.agg #[.int .i64 p.id, .int .i64 p.nodes, .int .i64 p.round, .int .i64 p.age, .int .i64 p.said, .int .i64 p.mine.author, .int .i64 p.mine.round, a7, a8, .int .i64 p.dig, a10, a11, .int .i64 p.dag.nodes, .int .i64 p.dag.low, a14, a15]] := by
    rw [← Array.toArray_toList (xs := vs), hvs, ← Array.toArray_toList (xs := us), e]
  rw [hvs']
  exact primary_sp lo n 1 w _ _ _ _ _ _ _ _ _ _ _ _ _ _ _ _ (isl_SL (fsI _ h.bats 2) h7) (isl_SL (fsI _ h.pars 2) h8) (isl_SL (fsI _ h.acks 2) h10) (isl_SL (fsV _ h.votes 2) h11) (isl_SL (fsC _ h.dag.1 h.dag.2 1) h14) (isl_SL (fsC _ h.late.1 h.late.2 1) h15) hbl
end Go.Proofs.YtolkmjfkkkiboaaGreat
namespace Go.Ab
open Go.RowKit
end Go.Ab
namespace Go.Proofs.YtolkmjfkkkiboaaGreat
open Go.Ab Go.RowKit Go.MapKept
attribute [local irreducible] ACalls AW ADraw Into fltB fnear
set_option maxRecDepth 100000
theorem eqVotes_same (l : List Vote) (hl : few l) : ACalls Tryz.prog 86 [.d (.sl 3 (votesD l)), .d (.sl 3 (votesD l))] [] (fun av L => av = .d (.bool true) ∧ L = []) := by
  have hcl := votesD_length l
  unfold few at hl
  (refine acalls_go ttOk zOk foOk Tryz.func86 rfl Tryz.ntmps86 rfl false rfl ?_); (conv => whnf)
  refine rdw ?_; repeat' ((with_reducible apply tw) <;> intro _)
  · rename_i hx; exact absurd rfl hx
  · refine loop_go ttOk zOk foOk (σ := Nat) (fun k => ([(0, .d (.sl 3 (votesD l))), (1, .d (.sl 3 (votesD l))), (5, .d (.int .i64 k))], [])) (fun k => k ≤ l.length) (fun k => l.length - k) [0, 1, 5] ?_ ?_
    · conv => whnf
      exact ⟨0, rfl, rfl, by omega⟩
    · intro k hk
      conv => whnf
      rw [hcl]
      refine rdw ?_; repeat' ((with_reducible apply tw) <;> intro _)
      · rename_i hkl
        refine Exists.elim (⟨_, List.getElem?_eq_getElem (by omega)⟩ : ∃ c, l[k]? = some c) fun c hc => ?_
        ((with_reducible refine draw_pl ttOk zOk foOk mixedOk pl86x6 ?_ ?_); (focus kernel_rfl); (conv => whnf))
        repeat' (first | (first | ((with_reducible first | apply rd_intro | apply gd_and); (focus ((conv => whnf) <;> first | rfl | (intro K hK; (conv => whnf); first | exact hK | exact z_wrap (by omega) hK))); conv => whnf) | ((with_reducible apply z_wrap); (focus omega); conv => whnf) | ((with_reducible first | apply mt_dec | apply mt_eq | apply mt_ne | apply mt_not | apply mt_any) <;> (intro _; conv => whnf))) | ((with_reducible apply rd_intro); (focus (intro K hK; (conv => whnf); exact ⟨by omega, c.cs, votesD_at hc, hK⟩)); (conv => whnf)) | ((with_reducible apply rd_intro); (focus (intro K hK; (conv => whnf); exact ix_map hc (by first | rfl | omega) hK)); (conv => whnf)) | ((with_reducible apply rd_intro); (focus (intro K hK; (conv => whnf); exact ⟨eqVote_ok, hK⟩)); (conv => whnf)) | fail)
        · rename_i hx
          exfalso
          simp at hx
        · exact ⟨k + 1, rfl, rfl, by omega, by omega⟩
      · exact ⟨rfl, rfl⟩
theorem eqPrim_same (p : Prim) (h : p.ok) (hd : few p.dag.certs ∧ ∀ c ∈ p.dag.certs, fewL c) (hl : few p.late ∧ ∀ c ∈ p.late, fewL c) (hv : few p.votes) (ha : few p.acks) (hm : few p.mine.bats ∧ few p.mine.pars) :
    ACalls Tryz.prog 45 [p.av, p.av] [] (fun av L => av = .d (.bool true) ∧ L = []) := by
  have h1 := eqHeader_ok p.mine p.mine hm
  have h2 := eqNumbers_ok p.acks p.acks ha
  have h3 := eqVotes_same p.votes hv
  have h4 := eqDag_same p.dag hd.1 hd.2
  have h5 := eqCerts_same p.late hl.1 hl.2
  rw [decide_eq_true ⟨rfl, rfl, rfl, rfl⟩] at h1
  rw [decide_eq_true rfl] at h2
  (refine acalls_go ttOk zOk foOk Tryz.func45 rfl Tryz.ntmps45 rfl false rfl ?_); (conv => whnf)
  repeat' (first | (first | ((with_reducible first | apply rd_intro | apply gd_and); (focus ((conv => whnf) <;> first | rfl | (intro K hK; (conv => whnf); first | exact hK | exact z_wrap (by omega) hK))); conv => whnf) | ((with_reducible apply z_wrap); (focus omega); conv => whnf) | ((with_reducible first | apply mt_dec | apply mt_eq | apply mt_ne | apply mt_not | apply mt_any) <;> (intro _; conv => whnf))) | (refine (h1).mono ?_; rintro _ _ ⟨rfl, rfl⟩; (conv => whnf)) | (refine (h2).mono ?_; rintro _ _ ⟨rfl, rfl⟩; (conv => whnf)) | (refine (h3).mono ?_; rintro _ _ ⟨rfl, rfl⟩; (conv => whnf)) | (refine (h4).mono ?_; rintro _ _ ⟨rfl, rfl⟩; (conv => whnf)) | (refine (h5).mono ?_; rintro _ _ ⟨rfl, rfl⟩; (conv => whnf)) | fail)
  all_goals first
    | exact ⟨rfl, rfl⟩
    | (rename_i hx; exact absurd rfl hx)
end Go.Proofs.YtolkmjfkkkiboaaGreat
namespace Go.Proofs.YtolkmjfkkkiboaaGreat
open Go.Ab Go.RowKit Go.MapKept
attribute [local irreducible] ACalls AW ADraw Into fltB fnear
set_option maxRecDepth 100000
theorem eqTxs_e : ACalls Tryz.prog 170 [.d (.sl 4 []), .d (.sl 4 [])] [] (fun av L => av = .d (.bool true) ∧ L = []) := by
  (refine acalls_go ttOk zOk foOk Tryz.func170 rfl Tryz.ntmps170 rfl false rfl ?_); (conv => whnf)
  refine rdw ?_; repeat' ((with_reducible apply tw) <;> intro _)
  refine loop_go ttOk zOk foOk (σ := Unit) (fun _ => ([(0, .d (.sl 4 [])), (1, .d (.sl 4 [])), (5, .d (.int .i64 0))], [])) (fun _ => True) (fun _ => 0) [0, 1, 5] ?_ ?_
  · conv => whnf
    exact ⟨(), rfl, rfl, trivial⟩
  · intro _ _
    conv => whnf
    refine rdw ?_; repeat' ((with_reducible apply tw) <;> intro _)
    exact ⟨rfl, rfl⟩
theorem eqBatch_e (a b : Int) : ACalls Tryz.prog 118 [.agg [.d (.int .i64 a), .d (.int .i64 b), .d (.sl 4 [])], .agg [.d (.int .i64 a), .d (.int .i64 b), .d (.sl 4 [])]] [] (fun av L => av = .d (.bool true) ∧ L = []) := by
  have h1 := eqTxs_e
  (refine acalls_go ttOk zOk foOk Tryz.func118 rfl Tryz.ntmps118 rfl false rfl ?_); (conv => whnf)
  refine rdw ?_; repeat' ((with_reducible apply tw) <;> intro _)
  · (refine (h1).mono ?_; rintro _ _ ⟨rfl, rfl⟩; (conv => whnf))
    exact ⟨rfl, rfl⟩
  all_goals (rename_i hx; exact absurd rfl hx)
theorem eqMsg_same (m : Msg) (hf : m.fine) (ht : m.txs = []) : ACalls Tryz.prog 59 [m.av, m.av] [] (fun av L => av = .d (.bool true) ∧ L = []) := by
  obtain ⟨kind, src, dst, digest, ba, bn, txs, head, cert, digs⟩ := m
  replace ht : txs = [] := ht
  subst ht
  have h1 := eqBatch_e ba bn
  have h2 := eqHeader_same head hf.head
  have h3 := eqCert_same cert hf.cert
  have h4 := eqNumbers_ok digs digs hf.digs
  rw [decide_eq_true rfl] at h4
  (refine acalls_go ttOk zOk foOk Tryz.func59 rfl Tryz.ntmps59 rfl false rfl ?_); (conv => whnf)
  refine rdw ?_; repeat' ((with_reducible apply tw) <;> intro _)
  · (refine (h1).mono ?_; rintro _ _ ⟨rfl, rfl⟩; (conv => whnf))
    refine rdw ?_; repeat' ((with_reducible apply tw) <;> intro _)
    · (refine (h2).mono ?_; rintro _ _ ⟨rfl, rfl⟩; (conv => whnf))
      refine rdw ?_; repeat' ((with_reducible apply tw) <;> intro _)
      · (refine (h3).mono ?_; rintro _ _ ⟨rfl, rfl⟩; (conv => whnf))
        refine rdw ?_; repeat' ((with_reducible apply tw) <;> intro _)
        · (refine (h4).mono ?_; rintro _ _ ⟨rfl, rfl⟩; (conv => whnf))
          exact ⟨rfl, rfl⟩
  all_goals (rename_i hx; exact absurd rfl hx)
theorem msgsD_at {l : List Msg} {i : Nat} {m : Msg} (h : l[i]? = some m) : (msgsD l)[(i : Int).toNat]? = some m.cs := by
  rw [Int.toNat_natCast, msgsD, List.getElem?_map, h]
  rfl
theorem eqMsgs_same (l : List Msg) (hl : few l) (h : ∀ m ∈ l, m.fine ∧ m.txs = []) : ACalls Tryz.prog 61 [.d (.sl 18 (msgsD l)), .d (.sl 18 (msgsD l))] [] (fun av L => av = .d (.bool true) ∧ L = []) := by
  have hcl := msgsD_length l
  unfold few at hl
  (refine acalls_go ttOk zOk foOk Tryz.func61 rfl Tryz.ntmps61 rfl false rfl ?_); (conv => whnf)
  refine rdw ?_; repeat' ((with_reducible apply tw) <;> intro _)
  · rename_i hx; exact absurd rfl hx
  · refine loop_go ttOk zOk foOk (σ := Nat) (fun k => ([(0, .d (.sl 18 (msgsD l))), (1, .d (.sl 18 (msgsD l))), (5, .d (.int .i64 k))], [])) (fun k => k ≤ l.length) (fun k => l.length - k) [0, 1, 5] ?_ ?_
    · conv => whnf
      exact ⟨0, rfl, rfl, by omega⟩
    · intro k hk
      conv => whnf
      rw [hcl]
      refine rdw ?_; repeat' ((with_reducible apply tw) <;> intro _)
      · rename_i hkl
        refine Exists.elim (⟨_, List.getElem?_eq_getElem (by omega)⟩ : ∃ c, l[k]? = some c) fun c hc => ?_
        have hh := h c (List.mem_of_getElem? hc)
        have h1 := eqMsg_same c hh.1 hh.2
        ((with_reducible refine draw_pl ttOk zOk foOk mixedOk pl61x6 ?_ ?_); (focus kernel_rfl); (conv => whnf))
        refine rdw ?_; repeat' ((with_reducible apply tw) <;> intro _)
        ((with_reducible apply rd_intro); (focus (intro K hK; (conv => whnf); exact ⟨by omega, c.cs, msgsD_at hc, hK⟩)); (conv => whnf))
        refine rdw ?_; repeat' ((with_reducible apply tw) <;> intro _)
        ((with_reducible apply rd_intro); (focus (intro K hK; (conv => whnf); exact ⟨by omega, c.cs, msgsD_at hc, hK⟩)); (conv => whnf))
        refine rdw ?_; repeat' ((with_reducible apply tw) <;> intro _)
        refine h1.mono ?_
        rintro _ _ ⟨rfl, rfl⟩
        conv => whnf
        refine rdw ?_; repeat' ((with_reducible apply tw) <;> intro _)
        exact ⟨k + 1, rfl, rfl, by omega, by omega⟩
      · exact ⟨rfl, rfl⟩
theorem fit_few {c : Cert} (h : c.fitS) : fewL c := ⟨by have := h.bats; unfold few; omega, by have := h.pars; unfold few; omega, by have := h.sigs; unfold few; omega⟩
def zP : Prim := ⟨0, 0, 0, 0, 0, cz0, 0, [], [], ⟨0, 0, []⟩, []⟩
theorem ne_nums (l : List Int) : NoE (nums l) := NoE_map (f := fun x => [DV.int .i64 x]) (fun _ => ⟨trivial, trivial⟩) l
theorem ne_votes (l : List Vote) : NoE (votesD l) := NoE_map (f := Vote.cs) (fun _ => ⟨trivial, trivial, trivial, trivial⟩) l
theorem no_nums (l : List Int) : NoO (.sl 1 (nums l)) := by simp only [NoO]; exact ne_nums l
theorem nc_cert (c : Cert) : NoC c.cs := ⟨trivial, trivial, no_nums _, no_nums _, trivial, no_nums _, trivial⟩
theorem ne_certs (l : List Cert) : NoE (certsD l) := NoE_map nc_cert l
theorem isl_int {i : Nat} (n : Int) : Isl i (.d (.int .i64 n)) (.d (.int .i64 n)) := .flat (flat_int _ _)
theorem isl2_prim (i : Nat) (p : Prim) : Isl2 i p.av (p.ai i) := .inr ⟨_, _, rfl, rfl, .cons (isl_int _) (.cons (isl_int _) (.cons (isl_int _) (.cons (isl_int _) (.cons (isl_int _) (.cons (isl_int _) (.cons (isl_int _) (.cons (.sl (ne_nums _)) (.cons (.sl (ne_nums _)) (.cons (isl_int _) (.cons (.sl (ne_nums _)) (.cons (.sl (ne_votes _)) (.cons (isl_int _) (.cons (isl_int _) (.cons (.sl (ne_certs _)) (.cons (.sl (ne_certs _)) .nil)))))))))))))))⟩
theorem isl2_z (i : Nat) : Isl2 i (.agg zPrim) (.agg zPrim) := .inr ⟨_, _, rfl, rfl, .cons (isl_int _) (.cons (isl_int _) (.cons (isl_int _) (.cons (isl_int _) (.cons (isl_int _) (.cons (isl_int _) (.cons (isl_int _) (.cons (.flat flat_nils) (.cons (.flat flat_nils) (.cons (isl_int _) (.cons (.flat flat_nils) (.cons (.flat flat_nils) (.cons (isl_int _) (.cons (isl_int _) (.cons (.flat flat_nils) (.cons (.flat flat_nils) .nil)))))))))))))))⟩
theorem wk_r {L : List AB} (a : AV) : Wk1 L a a := .inl rfl
theorem wk_n {lo n m : Nat} (h : 0 < m) : Wk1 [.isle lo n true] (.d .nils) (.isl 0 (.sl m [])) := .inr ⟨0, lo, n, m, rfl, rfl, h, rfl⟩
theorem l1_isl {i lo n : Nat} {L : List AB} (h : L[i]? = some (.isle lo n true)) (x : DV) : lend1 L (.isl i x) (.d x) := .inr (.inr (.inr (.inr (.inr ⟨i, x, x, lo, n, rfl, h, rfl, .refl _⟩))))
theorem lend_ai {i lo n : Nat} {L : List AB} (h : L[i]? = some (.isle lo n true)) (p : Prim) : lend2 L (p.ai i) p.av := .inr ⟨_, _, rfl, rfl, lendS_c (l1_int _) (lendS_c (l1_int _) (lendS_c (l1_int _) (lendS_c (l1_int _) (lendS_c (l1_int _) (lendS_c (l1_int _) (lendS_c (l1_int _) (lendS_c (l1_isl h _) (lendS_c (l1_isl h _) (lendS_c (l1_int _) (lendS_c (l1_isl h _) (lendS_c (l1_isl h _) (lendS_c (l1_int _) (lendS_c (l1_int _) (lendS_c (l1_isl h _) (lendS_c (l1_isl h _) lendS_n)))))))))))))))⟩
theorem l1_d {L : List AB} (x : DV) : lend1 L (.d x) (.d x) := .inl ⟨_, rfl, rfl⟩
theorem lend_av {L : List AB} (p : Prim) : lend2 L p.av p.av := .inr ⟨_, _, rfl, rfl, lendS_c (l1_d _) (lendS_c (l1_d _) (lendS_c (l1_d _) (lendS_c (l1_d _) (lendS_c (l1_d _) (lendS_c (l1_d _) (lendS_c (l1_d _) (lendS_c (l1_d _) (lendS_c (l1_d _) (lendS_c (l1_d _) (lendS_c (l1_d _) (lendS_c (l1_d _) (lendS_c (l1_d _) (lendS_c (l1_d _) (lendS_c (l1_d _) (lendS_c (l1_d _) lendS_n)))))))))))))))⟩
theorem c0_ok : cz0.ok := ⟨i64_0, i64_0, ⟨Nat.zero_le _, fun _ h => by cases h⟩, ⟨Nat.zero_le _, fun _ h => by cases h⟩, i64_0, ⟨Nat.zero_le _, fun _ h => by cases h⟩⟩
theorem zP_ok : zP.ok := ⟨c0_ok, Nat.zero_le _, Nat.zero_le _, Nat.zero_le _, ⟨i64_0, i64_0, Nat.zero_le _, fun _ h => by cases h⟩, ⟨Nat.zero_le _, fun _ h => by cases h⟩⟩
theorem eqPI_ok (p : Prim) (h : p.ok) (hd : few p.dag.certs ∧ ∀ c ∈ p.dag.certs, fewL c) (hl : few p.late ∧ ∀ c ∈ p.late, fewL c) (hv : few p.votes) (ha : few p.acks) (hm : few p.mine.bats ∧ few p.mine.pars) (lo n : Nat) :
    ACalls Tryz.prog 45 [p.ai 0, p.av] [.isle lo n true] (fun av L => av = .d (.bool true) ∧ L = [.isle lo n true]) :=
  acalls_lend (flat_bool _) ⟨_, _, rfl, lend_ai rfl p, _, _, rfl, lend_av p, rfl⟩ (eqPrim_same p h hd hl hv ha hm)
def zRow (k : Nat) : List AV := [.d (.int .i64 0), .d (.int .i64 0), .d (.int .i64 0), .d (.int .i64 0), .d (.int .i64 0), .d (.int .i64 0), .d (.int .i64 0), .arr (k + 1), .arr (k + 2), .d (.int .i64 0), .arr (k + 3), .arr (k + 4), .d (.int .i64 0), .d (.int .i64 0), .arr (k + 5), .arr (k + 6)]
def zRows : List AB := [.row 3 1 [] false, .row 3 1 [] false, .row 3 1 [] false, .row 106 3 [] false, .row 47 6 [] false, .row 47 6 [] false]
theorem l1_row {i e n : Nat} {xs : List (List DV)} {sh : Bool} {L : List AB} (h : L[i]? = some (.row e n xs sh)) : lend1 L (.arr i) (.d (.sl n xs)) := .inr (.inl ⟨i, e, n, xs, sh, rfl, h, rfl⟩)
theorem eqPZ_ok (lo n : Nat) : ACalls Tryz.prog 45 [zP.ai 0, .agg (zRow 0)] (.isle lo n true :: zRows) (fun av L => av = .d (.bool true) ∧ L = .isle lo n true :: zRows) :=
  acalls_lend (flat_bool _) ⟨_, _, rfl, lend_ai rfl zP, _, _, rfl, .inr ⟨_, _, rfl, rfl, lendS_c (l1_d _) (lendS_c (l1_d _) (lendS_c (l1_d _) (lendS_c (l1_d _) (lendS_c (l1_d _) (lendS_c (l1_d _) (lendS_c (l1_d _) (lendS_c (l1_row rfl) (lendS_c (l1_row rfl) (lendS_c (l1_d _) (lendS_c (l1_row rfl) (lendS_c (l1_row rfl) (lendS_c (l1_d _) (lendS_c (l1_d _) (lendS_c (l1_row rfl) (lendS_c (l1_row rfl) lendS_n)))))))))))))))⟩, rfl⟩ (eqPrim_same zP zP_ok ⟨Nat.zero_le _, fun _ h => by cases h⟩ ⟨Nat.zero_le _, fun _ h => by cases h⟩ (Nat.zero_le _) (Nat.zero_le _) ⟨Nat.zero_le _, Nat.zero_le _⟩)
theorem zP_fit : zP.fitS := ⟨Nat.zero_le _, Nat.zero_le _, Nat.zero_le _, Nat.zero_le _, ⟨Nat.zero_le _, fun _ h => by cases h⟩, ⟨Nat.zero_le _, fun _ h => by cases h⟩⟩
def trimD (d : Dag) (low : Int) : Dag := ⟨d.nodes, low, overC low d.certs⟩
theorem trim_mem {d : Dag} {low : Int} (c : Cert) : c ∈ (trimD d low).certs ↔ c ∈ d.certs ∧ c.round > low := by
  show c ∈ d.certs.filter _ ↔ _
  rw [List.mem_filter, decide_eq_true_iff]
theorem trim_valid {d : Dag} {low : Int} (hv : Valid d) (lo : d.low ≤ low ∧ low ≤ 1099511627776) : Valid (trimD d low) := by
  have hl := hv.low
  have hs : (trimD d low).certs.Sublist d.certs := List.filter_sublist
  refine ⟨hv.nodes, ⟨by have := lo.1; show 0 ≤ low; omega, lo.2⟩, Nat.le_trans hs.length_le hv.len, fun c hc => hv.certs c (hs.subset hc), fun c hc => (trim_mem c).1 hc |>.2, hv.sorted.sublist hs, hv.dig.sublist (hs.map _), ?_⟩
  intro c hc hr x hx
  obtain ⟨h1, h2⟩ := (trim_mem c).1 hc
  have hr : c.round > low + 1 := hr
  obtain ⟨c', k1, k2, k3⟩ := hv.here c h1 (by have := lo.1; omega) x hx
  exact ⟨c', (trim_mem c').2 ⟨k1, by omega⟩, k2, k3⟩
theorem pos_over {l : List Cert} (hs : sortedC l) (ha : auth l) (low : Int) : l.drop (pos l low 17) = overC low l := by
  have h1 : overC low (l.take (pos l low 17)) = [] := by
    unfold overC
    rw [List.filter_eq_nil_iff]
    intro c hc
    obtain ⟨j, hj, rfl⟩ := List.mem_take_iff_getElem.1 hc
    have hb := (pos_iff (r := low) (a := 17) hs (List.getElem?_eq_getElem (show j < l.length by omega))).2 (by omega)
    have := before_iff.1 hb
    simp only [decide_eq_true_eq]
    omega
  have h2 : overC low (l.drop (pos l low 17)) = l.drop (pos l low 17) := by
    refine over_all fun c hc => ?_
    obtain ⟨j, hj⟩ := List.getElem?_of_mem hc
    rw [List.getElem?_drop] at hj
    have hb := pos_iff (r := low) (a := 17) hs hj
    have hau := ha c (List.mem_of_getElem? hj)
    have : ¬ c.before low 17 = true := fun h => by have := hb.1 h; omega
    rw [before_iff] at this
    omega
  have h3 : overC low l = overC low (l.take (pos l low 17)) ++ overC low (l.drop (pos l low 17)) := by
    unfold overC
    rw [← List.filter_append, List.take_append_drop]
  rw [h3, h1, h2, List.nil_append]
theorem dagCut_ok (d : Dag) (hd : d.fit) (low : Int) (hr : isF low) : ACalls Tryz.prog 102 [d.av, .d (.int .i64 low)] [] (fun av L => av = (trimD d low).av ∧ L = []) := by
  have hcl := certsD_length d.certs
  have hpo := pos_over hd.sorted hd.auth low
  have h3 := pos_le d.certs low 17
  have h4 := hd.few
  unfold few at h4
  (refine acalls_go ttOk zOk foOk Tryz.func102 rfl Tryz.ntmps102 rfl false rfl ?_); (conv => whnf)
  refine (find17_ok d.certs low hd.few hd.sorted hd.fit hr).mono ?_
  rintro _ _ ⟨rfl, rfl⟩
  conv => whnf
  refine rdw ?_; repeat' ((with_reducible apply tw) <;> intro _)
  have e : certsD (overC low d.certs) = ((certsD d.certs).take (certsD d.certs).length).drop (pos d.certs low 17) := by rw [← hpo, List.take_length]; simp [certsD, List.map_drop]
  ((with_reducible refine draw_pl ttOk zOk foOk mixedOk pl102x2 ?_ ?_); (focus kernel_rfl); (conv => whnf))
  refine rdw ?_; repeat' ((with_reducible apply tw) <;> intro _)
  repeat' (first | (first | ((with_reducible first | apply rd_intro | apply gd_and); (focus ((conv => whnf) <;> first | rfl | (intro K hK; (conv => whnf); first | exact hK | exact z_wrap (by omega) hK))); conv => whnf) | ((with_reducible apply z_wrap); (focus omega); conv => whnf) | ((with_reducible first | apply mt_dec | apply mt_eq | apply mt_ne | apply mt_not | apply mt_any) <;> (intro _; conv => whnf))) | ((with_reducible apply rd_intro); (focus (intro K hK; (conv => whnf); exact ⟨by omega, by omega, by omega, hK⟩)); (conv => whnf)) | ((with_reducible apply gd_and); (focus ((conv => whnf); intro K hK; (conv => whnf); exact ⟨by omega, by omega, by omega, hK⟩)); (conv => whnf)) | fail)
  refine ⟨?_, rfl⟩
  show AV.agg [_, _, AV.d (.sl 6 (List.drop (pos d.certs low 17) (List.take (certsD d.certs).length (certsD d.certs))))] = _
  rw [← e]
  rfl
theorem voteCut_ok (l : List Vote) (hl : l.length ≤ 1000000) (low : Int) : ACalls Tryz.prog 103 [.d (.sl 3 (votesD l)), .d (.int .i64 low)] [] (fun av L => av = .d (.sl 3 (votesD (overV low l))) ∧ L = []) := by
  (refine acalls_go ttOk zOk foOk Tryz.func103 rfl Tryz.ntmps103 rfl false rfl ?_); (conv => whnf)
  refine rdw ?_; repeat' ((with_reducible apply tw) <;> intro _)
  refine (cloneV_row l (by omega)).mono ?_
  rintro _ _ ⟨rfl, rfl⟩
  conv => whnf
  refine rdw ?_; repeat' ((with_reducible apply tw) <;> intro _)
  (refine Or.inr ?_; (conv => whnf))
  refine (deleteV_ok l hl low).mono ?_
  rintro _ _ (⟨rfl, hov, rfl⟩ | ⟨xs, rfl, rfl⟩)
  · conv => whnf
    rw [hov]
    exact ⟨rfl, rfl⟩
  · conv => whnf
    exact ⟨rfl, rfl⟩
theorem primOwnL_ok (p : Prim) (h : p.tiny) : ACalls Tryz.prog 94 [p.avo] [] (fun av L => av = .agg ((p.cs.take 15).map AV.d ++ [.arr 0]) ∧ L = [.row 47 6 (certsD p.late) false]) := by
  (refine acalls_go ttOk zOk foOk Tryz.func94 rfl Tryz.ntmps94 rfl true rfl ?_); (conv => whnf)
  ((with_reducible refine draw_pl ttOk zOk foOk mixedOk pl94x1 ?_ ?_); (focus kernel_rfl); (conv => whnf))
  refine rdw ?_; repeat' ((with_reducible apply tw) <;> intro _)
  refine (ownO_ok p.mine h.mine).mono ?_
  rintro _ _ ⟨rfl, rfl⟩
  conv => whnf
  refine rdw ?_; repeat' ((with_reducible apply tw) <;> intro _)
  refine (cloneIO_ok p.acks h.acks).mono ?_
  rintro _ _ ⟨rfl, rfl⟩
  conv => whnf
  refine rdw ?_; repeat' ((with_reducible apply tw) <;> intro _)
  refine (cloneVO_ok p.votes h.votes).mono ?_
  rintro _ _ ⟨rfl, rfl⟩
  conv => whnf
  refine rdw ?_; repeat' ((with_reducible apply tw) <;> intro _)
  ((with_reducible refine draw_pl ttOk zOk foOk mixedOk pl94x2 ?_ ?_); (focus kernel_rfl); (conv => whnf))
  refine rdw ?_; repeat' ((with_reducible apply tw) <;> intro _)
  refine (dagOwnO_ok p.dag h.dag.1 h.dag.2).mono ?_
  rintro _ _ ⟨rfl, rfl⟩
  conv => whnf
  refine rdw ?_; repeat' ((with_reducible apply tw) <;> intro _)
  refine (ownCertsO_row p.late h.late.1 h.late.2).mono ?_
  rintro _ _ ⟨rfl, rfl⟩
  conv => whnf
  refine rdw ?_; repeat' ((with_reducible apply tw) <;> intro _)
  exact ⟨rfl, rfl⟩
theorem pass_from {d : Dag} {l : List Cert} : ∀ j, ∀ c ∈ (passD d (l.take j)).1.certs, c ∈ d.certs ∨ c ∈ l
  | 0, c, h => by simpa [passD] using .inl h
  | j + 1, c, h => by
    have ih := pass_from (d := d) (l := l) j
    cases hc : l[j]? with
    | none =>
      have hl : l.length ≤ j := by simpa using hc
      rw [List.take_of_length_le (by omega)] at ih h
      exact ih c h
    | some x =>
      rw [passD_snoc hc] at h
      rcases putD_sub h with rfl | h
      · exact .inr (List.mem_of_getElem? hc)
      · exact ih c h
theorem again_from : ∀ (n : Nat) (d : Dag) (l : List Cert), (∀ c ∈ (againF n d l).1.certs, c ∈ d.certs ∨ c ∈ l) ∧ ∀ c ∈ (againF n d l).2, c ∈ l
  | 0, d, l => ⟨fun c h => .inl h, fun c h => h⟩
  | n + 1, d, l => by
    have hp := pass_from (d := d) (l := l) l.length
    have hs := (pass_sub d l l.length).subset
    rw [List.take_length] at hp hs
    unfold againF
    split
    · have ih := again_from n (passD d l).1 (passD d l).2
      refine ⟨fun c h => ?_, fun c h => hs (ih.2 c h)⟩
      rcases ih.1 c h with h | h
      · exact hp c h
      · exact .inr (hs h)
    · exact ⟨hp, fun c h => h⟩
def cutP (p : Prim) (low : Int) : Prim := { p with dag := trimD p.dag low, votes := overV low p.votes, late := overC low p.late }
def trimP (p : Prim) (low : Int) : Prim := (cutP p low).withDL (againD (trimD p.dag low) (overC low p.late))
structure trimC (p : Prim) (low : Int) : Prop where
  may : May p
  lo : p.dag.low ≤ low
  hi : low ≤ 1099511627776
theorem cut_fine {p : Prim} {low : Int} (h : trimC p low) (hs : ∀ c ∈ p.late, c.tiny) (hr : p.dag.certs.length + p.late.length < 60000) : Fine (cutP p low).dag (cutP p low).late := by
  refine ⟨trim_valid h.may.dag ⟨h.lo, h.hi⟩, ?_, fun c hc => ?_⟩
  · have h1 := over_len low p.dag.certs
    have h2 := over_len low p.late
    show (overC low p.dag.certs).length + (overC low p.late).length ≤ 60000
    omega
  · have hm : c ∈ p.late := (List.mem_filter.1 hc).1
    exact ⟨by have := h.may.late.certs c hm; rw [← h.may.same] at this; exact this, hs c hm⟩
theorem trim_from (p : Prim) (low : Int) : (∀ c ∈ (trimP p low).dag.certs, c ∈ p.dag.certs ∨ c ∈ p.late) ∧ ∀ c ∈ (trimP p low).late, c ∈ p.late := by
  have h := again_from ((overC low p.late).length + 1) (trimD p.dag low) (overC low p.late)
  refine ⟨fun c hc => ?_, fun c hc => (List.mem_filter.1 (h.2 c hc)).1⟩
  rcases h.1 c hc with h | h
  · exact .inl ((trim_mem c).1 h).1
  · exact .inr (List.mem_filter.1 h).1
theorem trim_len {p : Prim} {low : Int} (h : Fine (cutP p low).dag (cutP p low).late) : (trimP p low).dag.certs.length + (trimP p low).late.length ≤ p.dag.certs.length + p.late.length := by
  have h1 := (againD_keeps h).len
  have h2 := over_len low p.dag.certs
  have h3 := over_len low p.late
  have h4 : (cutP p low).dag.certs.length + (cutP p low).late.length ≤ p.dag.certs.length + p.late.length := by
    show (overC low p.dag.certs).length + (overC low p.late).length ≤ _
    omega
  exact Nat.le_trans h1 h4
theorem trim_tiny {p : Prim} {low : Int} (ht : p.tiny) (hr : p.dag.certs.length + p.late.length < 60000) (h : Fine (cutP p low).dag (cutP p low).late) : (trimP p low).tiny := by
  have h1 := trim_len h
  obtain ⟨f1, f2⟩ := trim_from p low
  refine ⟨ht.mine, ht.acks, Nat.le_trans (overV_len ..) ht.votes, ⟨by unfold Go.Proofs.YtolkmjfkkkiboaaGreat.tiny; omega, fun c hc => ?_⟩, ⟨by unfold Go.Proofs.YtolkmjfkkkiboaaGreat.tiny; omega, fun c hc => ht.late.2 c (f2 c hc)⟩⟩
  rcases f1 c hc with h | h
  · exact ht.dag.2 c h
  · exact ht.late.2 c h
set_option maxHeartbeats 4000000 in
open Classical in
theorem trimO_ok (p : Prim) (hok : p.ok) (ht : p.tiny) (hr : p.dag.certs.length + p.late.length < 60000) (low : Int) (hl : i64 low) :
    ACalls Tryz.prog 54 [p.avo, .d (.int .i64 low)] [] (fun av L => ((trimC p low ∧ av = .tup [(trimP p low).av, .d (.int .i64 0)]) ∨ (¬ trimC p low ∧ av = .tup [.agg zPrim, .d (.int .i64 1)])) ∧ L = []) := by
  have hm := primMayO_ok p hok
  (refine acalls_go ttOk zOk foOk Tryz.func54 rfl Tryz.ntmps54 rfl false rfl ?_); (conv => whnf)
  refine rdw ?_; repeat' ((with_reducible apply tw) <;> intro _)
  refine hm.mono ?_
  rintro _ _ ⟨rfl, rfl⟩
  by_cases k1 : May p
  · rw [decide_eq_true k1]
    have hown := primOwnL_ok p ht
    conv => whnf
    refine rdw ?_; repeat' ((with_reducible apply tw) <;> intro _)
    · rename_i k2
      replace k2 : low < p.dag.low := k2
      exact ⟨.inr ⟨fun h => by have := h.lo; omega, rfl⟩, rfl⟩
    · rename_i k2 k3
      replace k3 : low > 1099511627776 := k3
      exact ⟨.inr ⟨fun h => by have := h.hi; omega, rfl⟩, rfl⟩
    · rename_i k2 k3
      replace k2 : ¬ low < p.dag.low := k2
      replace k3 : ¬ low > 1099511627776 := k3
      have hC : trimC p low := ⟨k1, by omega, by omega⟩
      have hlo := k1.dag.low
      have hlen := k1.dag.len
      have hdc := dagCut_ok p.dag k1.dag.fit low ⟨by omega, by omega⟩
      have hvc := voteCut_ok p.votes (by have := k1.votes.len; omega) low
      have hde := deleteT_ok p.late (by omega) low
      have hcf := cut_fine hC ht.late.2 hr
      have hag := again_ok (cutP p low) [] hcf
      obtain ⟨q, hq⟩ : ∃ q, trimP p low = q := ⟨_, rfl⟩
      have hoq := primOwn_ok q (by rw [← hq]; exact trim_tiny ht hr hcf)
      rw [show (cutP p low).withDL (againD (cutP p low).dag (cutP p low).late) = q from hq] at hag
      rw [hq]
      (refine (hown).mono ?_; rintro _ _ ⟨rfl, rfl⟩; (conv => whnf))
      refine rdw ?_; repeat' ((with_reducible apply tw) <;> intro _)
      ((with_reducible refine draw_pl ttOk zOk foOk mixedOk pl54x4 ?_ ?_); (focus kernel_rfl); (conv => whnf))
      repeat' (first | (first | ((with_reducible first | apply rd_intro | apply gd_and); (focus ((conv => whnf) <;> first | rfl | (intro K hK; (conv => whnf); first | exact hK | exact z_wrap (by omega) hK))); conv => whnf) | ((with_reducible apply z_wrap); (focus omega); conv => whnf) | ((with_reducible first | apply mt_dec | apply mt_eq | apply mt_ne | apply mt_not | apply mt_any) <;> (intro _; conv => whnf))) | ((with_reducible apply rd_intro); (focus (intro K hK; (conv => whnf); refine (hdc).mono ?_; rintro _ _ ⟨rfl, rfl⟩; (conv => whnf); exact hK)); (conv => whnf)) | ((with_reducible apply gd_and); (focus ((conv => whnf); intro K hK; (conv => whnf); refine (hdc).mono ?_; rintro _ _ ⟨rfl, rfl⟩; (conv => whnf); exact hK)); (conv => whnf)) | (refine (hdc).mono ?_; rintro _ _ ⟨rfl, rfl⟩; (conv => whnf)) | ((with_reducible apply rd_intro); (focus (intro K hK; (conv => whnf); refine (hvc).mono ?_; rintro _ _ ⟨rfl, rfl⟩; (conv => whnf); exact hK)); (conv => whnf)) | ((with_reducible apply gd_and); (focus ((conv => whnf); intro K hK; (conv => whnf); refine (hvc).mono ?_; rintro _ _ ⟨rfl, rfl⟩; (conv => whnf); exact hK)); (conv => whnf)) | (refine (hvc).mono ?_; rintro _ _ ⟨rfl, rfl⟩; (conv => whnf)) | fail)
      (refine Or.inr ?_; (conv => whnf))
      refine hde.mono ?_
      rintro _ _ (⟨rfl, hov, rfl⟩ | ⟨xs, rfl, rfl⟩)
      · conv => whnf
        refine rdw ?_; repeat' ((with_reducible apply tw) <;> intro _)
        refine acalls_via [(0, 15)] rfl ?_
        conv => whnf
        rw [cutP, hov] at hag
        refine hag.mono ?_
        rintro _ _ ⟨rfl, rfl⟩
        conv => whnf
        refine rdw ?_; repeat' ((with_reducible apply tw) <;> intro _)
        refine hoq.mono ?_
        rintro _ _ ⟨rfl, rfl⟩
        conv => whnf
        refine rdw ?_; repeat' ((with_reducible apply tw) <;> intro _)
        exact ⟨.inl ⟨hC, rfl⟩, rfl⟩
      · conv => whnf
        refine rdw ?_; repeat' ((with_reducible apply tw) <;> intro _)
        refine hag.mono ?_
        rintro _ _ ⟨rfl, rfl⟩
        conv => whnf
        refine rdw ?_; repeat' ((with_reducible apply tw) <;> intro _)
        refine hoq.mono ?_
        rintro _ _ ⟨rfl, rfl⟩
        conv => whnf
        refine rdw ?_; repeat' ((with_reducible apply tw) <;> intro _)
        exact ⟨.inl ⟨hC, rfl⟩, rfl⟩
  · rw [decide_eq_false k1]
    conv => whnf
    refine rdw ?_; repeat' ((with_reducible apply tw) <;> intro _)
    exact ⟨.inr ⟨fun h => k1 h.may, rfl⟩, rfl⟩
end Go.Proofs.YtolkmjfkkkiboaaGreat
