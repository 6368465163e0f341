/- ScriptParsesCard: contracts. -/
import Derived.Test.YtkaepgfmpljlmaaDoorScriptParsesCardCodA
set_option linter.unusedVariables false
set_option linter.unusedSimpArgs false
namespace Go.Proofs
open Go.Shelf Go.RowKit Go.Scr
set_option maxRecDepth 100000 in
theorem Tryd.digit (c : UInt8) (w : World) : Calls Tryd.prog 71 #[.int .u8 (c.toNat : Int)] w fun e w' => e = .returned (.tuple #[.int .u8 (((sigV c).getD 0 : Nat) : Int), .bool (sigV c).isSome]) ∧ w' = w := by
  have h256 : c.toNat < 256 := c.toNat_lt
  unfold sigV
  go_enter Tryd.func71, Tryd.ntmps71
  go_wp2
  all_goals
    go_ret2
    refine ⟨?_, rfl⟩
    first
      | rfl
      | (show Ending.returned (Value.tuple #[Value.int IntKind.u8 _, Value.bool true]) = Ending.returned (Value.tuple #[Value.int IntKind.u8 _, Value.bool true])
         congr 6
         omega)
end Go.Proofs
namespace Go.Proofs.YtkaepgfmpljlmaaDoor
open Go.Ab Go.RowKit Go.Scr Go.Proofs
theorem VDE_get {rd : Addr → Value → Prop} {b : Nat} : ∀ (l : List (List UInt8)) (o : Nat), VDE rd 1 (wsD l) ⟨b, o, none⟩ → ∀ j x, l[j]? = some x → rd ⟨b, o + j, none⟩ (.string (bw x))
  | [], o, _, j, x, h => by simp at h
  | y :: l, o, hv, j, x, h => by
    simp only [wsD, List.map_cons, VDE, VDC, List.length_singleton, true_and] at hv
    obtain ⟨⟨⟨u, h1, _, h2⟩, _⟩, h3⟩ := hv
    cases j with
    | zero =>
      simp only [List.getElem?_cons_zero, Option.some.injEq] at h
      subst h
      simp only [VD] at h2
      subst h2
      exact h1
    | succ j =>
      have := VDE_get l (o + 1) h3 j x (by simpa using h)
      rw [show o + (j + 1) = o + 1 + j by omega]
      exact this
end Go.Proofs.YtkaepgfmpljlmaaDoor
namespace Go.Scr
open Go.Lib
def unL : List UInt8 → Option (List UInt8)
  | x :: y :: r => match sigV x, sigV y, unL r with
    | some a, some b, some l => some (UInt8.ofNat (16 * a + b) :: l)
    | _, _, _ => none
  | _ => some []
def unhexF (s : List UInt8) : List UInt8 × Bool := if s = [45] then ([], true) else match unL s with
  | none => ([], false)
  | some b => (b, decide (s ≠ [] ∧ s.length % 2 = 0))
theorem unL_pairs : ∀ s : List UInt8, s.length % 2 = 0 → pairsW s = unL s
  | [], _ => rfl
  | [x], h => by simp at h
  | x :: y :: r, h => by
    have ih := unL_pairs r (by simp at h; omega)
    rw [pairsW, unL, ih]
    all_goals rfl
theorem unL_odd : ∀ s : List UInt8, s.length % 2 = 1 → pairsW s = none
  | [], h => by simp at h
  | [x], _ => rfl
  | x :: y :: r, h => by
    have ih := unL_odd r (by simp at h; omega)
    rw [pairsW, ih]
    cases sigV x <;> cases sigV y <;> rfl
theorem unhexF_iff (s : List UInt8) (b : List UInt8) : unhexF s = (b, true) ↔ unhexW s = some b := by
  unfold unhexF unhexW
  by_cases h : s = [45]
  · rw [if_pos h, if_pos h]
    simp
  · rw [if_neg h, if_neg h]
    by_cases h0 : s = []
    · subst h0
      simp [unL]
    · rw [if_neg h0]
      rcases Nat.mod_two_eq_zero_or_one s.length with h2 | h2
      · rw [unL_pairs s h2]
        cases unL s with
        | none => simp
        | some l => simp [h0, h2]
      · rw [unL_odd s h2]
        cases unL s with
        | none => simp
        | some l => simp [h2]
theorem unhexF_some {s b : List UInt8} (h : unhexW s = some b) : unhexF s = (b, true) := (unhexF_iff s b).2 h
theorem unL_len : ∀ (s b : List UInt8), unL s = some b → 2 * b.length ≤ s.length
  | [], b, h => by simp [unL] at h; subst h; simp
  | [x], b, h => by simp [unL] at h; subst h; simp
  | x :: y :: r, b, h => by
    rw [unL] at h
    split at h
    · rename_i a c l h1 h2 h3
      have := unL_len r l h3
      simp only [Option.some.injEq] at h
      subst h
      simp only [List.length_cons]
      omega
    · cases h
theorem unhexF_len (s : List UInt8) : (unhexF s).1.length ≤ s.length := by
  unfold unhexF
  split
  · simp
  · split
    · simp
    · rename_i b h
      have := unL_len s b h
      show b.length ≤ _
      omega
theorem unL_at {s acc r : List UInt8} {k : Nat} {x y : UInt8} {a b : Nat} (h : unL s = (unL (s.drop k)).map (acc ++ ·)) (hd : s.drop k = x :: y :: r) (hx : sigV x = some a) (hy : sigV y = some b) :
    unL s = (unL (s.drop (k + 2))).map ((acc ++ [UInt8.ofNat (16 * a + b)]) ++ ·) := by
  have e : s.drop (k + 2) = r := by rw [← List.drop_drop, hd]; rfl
  rw [h, hd, e, unL, hx, hy]
  cases unL r with
  | none => rfl
  | some l => simp
theorem unL_bad {s acc r : List UInt8} {k : Nat} {x y : UInt8} (h : unL s = (unL (s.drop k)).map (acc ++ ·)) (hd : s.drop k = x :: y :: r) (hx : sigV x = none ∨ sigV y = none) : unL s = none := by
  rw [h, hd, unL]
  rcases hx with hx | hx <;> rw [hx]
  · rfl
  · cases sigV x <;> rfl
theorem unL_end {s acc : List UInt8} {k : Nat} (h : unL s = (unL (s.drop k)).map (acc ++ ·)) (hk : s.length ≤ k + 1) : unL s = some acc := by
  have hl : (s.drop k).length ≤ 1 := by simp; omega
  rw [h]
  rcases hd : s.drop k with _ | ⟨x, _ | ⟨y, t⟩⟩
  · simp [unL]
  · simp [unL]
  · rw [hd] at hl; simp at hl
end Go.Scr
namespace Go.Proofs
open Go.Shelf Go.RowKit Go.Scr
theorem sig_lt {c : UInt8} {v : Nat} (h : sigV c = some v) : v < 16 := (sgn_sig h).1
theorem or16' : ∀ (a b : Fin 16), bits BinOp.or IntKind.u8 ((a.val : Int) * 16 % 256) (b.val : Int) = ((UInt8.ofNat (16 * a.val + b.val)).toNat : Int) := by decide +kernel
theorem or16 (a b : Nat) (ha : a < 16) (hb : b < 16) : bits BinOp.or IntKind.u8 ((a : Int) * 16 % 256) (b : Int) = ((UInt8.ofNat (16 * a + b)).toNat : Int) := or16' ⟨a, ha⟩ ⟨b, hb⟩
theorem Tryd.digitV (c : UInt8) (w : World) (o : Option Nat) (h : sigV c = o) : Calls Tryd.prog 71 #[.int .u8 (c.toNat : Int)] w fun e w' => e = .returned (.tuple #[.int .u8 ((o.getD 0 : Nat) : Int), .bool o.isSome]) ∧ w' = w := h ▸ Tryd.digit c w
set_option maxRecDepth 100000 in
theorem Tryd.unhex_all (s : ByteArray) (hs : s.size ≤ 70368744177664) (hd : s.data.toList ≠ [45]) (w : World) (l : List UInt8) (ok : Bool)
    (hno : unL s.data.toList = none → l = [] ∧ ok = false) (hso : ∀ b, unL s.data.toList = some b → l = b ∧ ok = (decide (s.size ≠ 0) && decide (s.size % 2 = 0))) :
    Calls Tryd.prog 57 #[.string s] w fun e w' => e = .returned (.tuple #[.string ⟨l.toArray⟩, .bool ok]) ∧ Below w.heap.size w w' := by
  have hb : Lib.IsBuilderF 95 5 w.heap.size w.heap.size (Lib.byteCells []) (w.alloc (.cells #[.pointer none, .slice none 0 0] 95)) := Lib.IsBuilderF.of (Lib.fresh_isBuilder 95 5 w)
  have b0 : Below w.heap.size w (w.alloc (.cells #[.pointer none, .slice none 0 0] 95)) := (Below.refl _ w).alloc (Nat.le_refl _) _
  have hne : (s.toList == [45]) = false := by
    rw [ByteArray.toList_eq, beq_eq_false_iff_ne]
    exact hd
  have hsl : s.data.toList.length = s.size := rfl
  have hemp : (s.toList == []) = decide (s.size = 0) := by
    rw [ByteArray.toList_eq]
    cases h : s.data.toList with
    | nil =>
      have : s.size = 0 := by rw [← hsl, h]; rfl
      rw [decide_eq_true this]
      rfl
    | cons c r =>
      have : s.size ≠ 0 := by rw [← hsl, h]; simp
      rw [decide_eq_false this]
      rfl
  go_enter Tryd.func57, Tryd.ntmps57
  go_wp2
  go_loopw [5] (fun i wr => ∃ (k : Nat) (acc : List UInt8), k ≤ s.size + 1 ∧ i = .int .i64 k ∧ acc.length ≤ k ∧ unL s.data.toList = (unL (s.data.toList.drop k)).map (acc ++ ·) ∧ Lib.IsBuilderF 95 5 w.heap.size w.heap.size (Lib.byteCells acc) wr ∧ Below w.heap.size w wr)
    (fun i _ => s.size + 2 - (intOf i).toNat)
  case atStart => exact ⟨0, [], Nat.zero_le _, rfl, Nat.le_refl _, by simp, hb, b0⟩
  case round =>
    obtain ⟨k, acc, hk, rfl, hal, hu, hB, hnx⟩ := hrel
    have hsize := hnx.size
    by_cases hk2 : k + 1 < s.size
    · have hx : s.data.toList[k]? = some s[k] := by
        show s.data.toList[k]? = some (s.data[k]'(by show k < s.size; omega))
        have : k < s.data.size := by show k < s.size; omega
        simp [this]
      have hy : s.data.toList[k + 1]? = some s[k + 1] := by
        show s.data.toList[k + 1]? = some (s.data[k + 1]'hk2)
        have : k + 1 < s.data.size := hk2
        simp [this]
      have hdr : s.data.toList.drop k = s[k] :: s[k + 1] :: s.data.toList.drop (k + 2) := by
        rw [List.drop_eq_getElem?_toList_append, hx, List.drop_eq_getElem?_toList_append (i := k + 1), hy]
        rfl
      cases h1 : sigV s[k] with
      | none =>
        obtain ⟨rfl, rfl⟩ := hno (unL_bad hu hdr (.inl h1))
        go_wp2_with (go_at_call 71; refine (Tryd.digitV s[k] _ _ h1).mono ?_)
        rintro e W1 ⟨rfl, rfl⟩
        go_wp2_with (go_at_call 71; refine (Tryd.digit s[k + 1] _).mono ?_)
        rintro e W1 ⟨rfl, rfl⟩
        go_wp2
        go_ret2
        exact ⟨rfl, hnx⟩
      | some a =>
        cases h2 : sigV s[k + 1] with
        | none =>
          obtain ⟨rfl, rfl⟩ := hno (unL_bad hu hdr (.inr h2))
          go_wp2_with (go_at_call 71; refine (Tryd.digitV s[k] _ _ h1).mono ?_)
          rintro e W1 ⟨rfl, rfl⟩
          go_wp2_with (go_at_call 71; refine (Tryd.digitV s[k + 1] _ _ h2).mono ?_)
          rintro e W1 ⟨rfl, rfl⟩
          go_wp2
          go_ret2
          exact ⟨rfl, hnx⟩
        | some b =>
          go_wp2_with (go_at_call 71; refine (Tryd.digitV s[k] _ _ h1).mono ?_)
          rintro e W1 ⟨rfl, rfl⟩
          go_wp2_with (go_at_call 71; refine (Tryd.digitV s[k + 1] _ _ h2).mono ?_)
          rintro e W1 ⟨rfl, rfl⟩
          go_wp2_with (go_at_call 65; refine (Tryd.writeByte w.heap.size w.heap.size (Lib.byteCells acc) _ _ hB ?_ hsize).mono ?_)
          · rw [Lib.byteCells_length]
            omega
          · intro e W1
            rintro ⟨rfl, h3, b1, -⟩
            go_wp2
            rw [or16 a b (sig_lt h1) (sig_lt h2)] at h3
            refine ⟨⟨k + 2, acc ++ [UInt8.ofNat (16 * a + b)], by omega, rfl, by simp; omega, unL_at hu hdr h1 h2, Or.inr ?_, hnx.trans b1⟩, by simp only [intOf]; omega⟩
            rw [Lib.byteCells_append]
            exact h3
    · obtain ⟨rfl, rfl⟩ := hso acc (unL_end hu (by omega))
      go_wp2_with (go_at_call 49; refine (Tryd.Builder_String_any_k w.heap.size w.heap.size l _ hB hsize).mono ?_)
      intro e W1
      rintro rfl hB1 hb1 -
      go_wp2
      · rename_i h0
        go_ret2
        refine ⟨?_, hnx.trans hb1⟩
        have : s.size = 0 := by rw [h0]; rfl
        rw [this]
        rfl
      · rename_i h0
        go_ret2
        refine ⟨?_, hnx.trans hb1⟩
        have : s.size ≠ 0 := fun e => h0 (by
          have h1 : s.data.toList = [] := List.eq_nil_of_length_eq_zero (hsl.trans e)
          obtain ⟨⟨l⟩⟩ := s
          simp at h1
          subst h1
          rfl)
        show Ending.returned (Value.tuple #[Value.string ⟨l.toArray⟩, Value.bool (((s.size : Nat) : Int) % 2 == 0)]) = _
        rw [show ((((s.size : Nat) : Int) % 2 == 0) : Bool) = (decide (s.size ≠ 0) && decide (s.size % 2 = 0)) by
          rw [decide_eq_true this, Bool.true_and, Bool.eq_iff_iff, beq_iff_eq, decide_eq_true_iff]
          omega]
end Go.Proofs
namespace Go.Proofs
open Go.Shelf Go.RowKit Go.Scr
set_option maxRecDepth 100000 in
theorem Tryd.unhex_dash (w : World) : Calls Tryd.prog 57 #[.string ⟨#[45]⟩] w fun e w' => e = .returned (.tuple #[.string ⟨#[]⟩, .bool true]) ∧ Below w.heap.size w w' := by
  go_enter Tryd.func57, Tryd.ntmps57
  go_wp2
  go_ret2
  exact ⟨rfl, Below.refl _ _⟩
end Go.Proofs
namespace Go.Proofs.YtkaepgfmpljlmaaDoor
open Go.Ab Go.RowKit Go.Scr Go.Proofs
theorem acalls_plain2 {f : FuncId} {avs : List AV} {x y : DV} {v0 v1 : Value} (hx : ∀ rd, VD rd x v0) (hy : ∀ rd, VD rd y v1)
    (h : ∀ (c : Ctx) (vs : Array Value), c.wf → VRt (rcOf c.M0 c.E0 [] c.w0) avs vs.toList → Calls Tryd.prog f vs c.w0 fun e w' => e = .returned (.tuple #[v0, v1]) ∧ Below c.w0.heap.size c.w0 w') : ACalls Tryd.prog f avs [] (fun av L => av = .tup [.d x, .d y] ∧ L = []) := by
  intro c vs hc hL hs hv
  refine (h c vs hc hv).mono ?_
  rintro e w' ⟨rfl, k⟩
  exact ⟨.tuple #[v0, v1], .tup [.d x, .d y], [], c.E0, rfl, ⟨rfl, rfl⟩, hs.keeps hc (Keeps.of_below k), by simp only [VR, VRt]; exact ⟨_, rfl, _, _, rfl, hx _, _, _, rfl, hy _, rfl⟩⟩
theorem unhex_ok (s : ByteArray) (hs : s.size ≤ 70368744177664) : ACalls Tryd.prog 57 [.d (.str s)] [] (fun av L => av = .tup [.d (.str (bw (unhexF s.data.toList).1)), .d (.bool (unhexF s.data.toList).2)] ∧ L = []) :=
  acalls_plain2 (v0 := .string (bw (unhexF s.data.toList).1)) (v1 := .bool (unhexF s.data.toList).2) (fun _ => by simp [VD]) (fun _ => by simp [VD]) fun c vs hc hv => by
    simp only [VRt, VR, VD] at hv
    obtain ⟨u, us', hvs, rfl, rfl⟩ := hv
    have hvs' : vs = #[.string s] := by rw [← Array.toArray_toList (xs := vs), hvs]
    rw [hvs']
    by_cases h : s.data.toList = [45]
    · have e : s = ⟨#[45]⟩ := by
        obtain ⟨⟨l⟩⟩ := s
        simp at h
        subst h
        rfl
      subst e
      exact Tryd.unhex_dash c.w0
    · refine Tryd.unhex_all s hs h c.w0 _ _ (fun hn => ?_) fun b hb => ?_
      · unfold unhexF
        rw [if_neg h, hn]
        exact ⟨rfl, rfl⟩
      · unfold unhexF
        rw [if_neg h, hb]
        refine ⟨rfl, ?_⟩
        show decide (s.data.toList ≠ [] ∧ s.data.toList.length % 2 = 0) = _
        rw [Bool.eq_iff_iff, decide_eq_true_iff, Bool.and_eq_true, decide_eq_true_iff, decide_eq_true_iff]
        have e1 : s.size = s.data.toList.length := rfl
        rw [e1]
        constructor
        · rintro ⟨h1, h2⟩
          exact ⟨fun e => h1 (List.eq_nil_of_length_eq_zero e), h2⟩
        · rintro ⟨h1, h2⟩
          exact ⟨fun e => h1 (by rw [e]; rfl), h2⟩
end Go.Proofs.YtkaepgfmpljlmaaDoor
namespace Go.Proofs.YtkaepgfmpljlmaaDoor
open Go.Ab Go.RowKit
theorem mixedOk : Tryd.prog.follows .mixedOrders = true := by kernel_rfl
def nums (l : List Int) : List (List DV) := l.map fun n => [.int .i64 n]
theorem nums_length (l : List Int) : (nums l).length = l.length := List.length_map ..
theorem nums_at {l : List Int} {k : Nat} {a : Int} (h : l[k]? = some a) : (nums l)[k]? = some [.int .i64 a] := by simp [nums, h]
theorem nums_apps (l m : List Int) : nums l ++ nums m = nums (l ++ m) := by simp [nums]
def few {α : Type} (l : List α) : Prop := l.length ≤ 140737488355328
theorem take_succ_eq {α : Type} {xs ys : List α} {k : Nat} {a b : α} (hx : xs[k]? = some a) (hy : ys[k]? = some b) (h : xs.take k = ys.take k) : xs.take (k + 1) = ys.take (k + 1) ↔ a = b := by
  rw [List.take_add_one, List.take_add_one, h, hx, hy]
  simp only [Option.toList_some, List.append_cancel_left_eq, List.cons.injEq, and_true]
theorem take_snoc {α : Type} {xs : List α} {k : Nat} {a : α} (hx : xs[k]? = some a) : xs.take (k + 1) = xs.take k ++ [a] := by
  rw [List.take_add_one, hx]; rfl
end Go.Proofs.YtkaepgfmpljlmaaDoor
namespace Go.Proofs.YtkaepgfmpljlmaaDoor
open Go.Ab Go.RowKit Go.Scr Go.Proofs
attribute [local irreducible] ACalls AW ADraw Into fltB fnear
set_option maxRecDepth 100000
structure Rd where
  l : List W
  bad : Bool
def Rd.L (r : Rd) : List AB := [.cells [.d (.sl 1 (wsD r.l)), .d (.bool r.bad)]]
def rword (r : Rd) : W × Rd := if r.bad then ([], r) else match r.l with
  | [] => ([], ⟨[], true⟩)
  | w :: t => (w, ⟨t, false⟩)
theorem tail_take (w : W) (t : List W) : (List.take (((wsD (w :: t)).length : Nat) : Int).toNat (wsD (w :: t))).drop (Int.toNat 1) = wsD t := by rw [Int.toNat_natCast, List.take_length]; rfl
theorem word_ok (r : Rd) : ACalls Tryd.prog 22 [.ptr 0 0] r.L (fun av L => av = .d (.str (bw (rword r).1)) ∧ L = (rword r).2.L) := by
  obtain ⟨l, bad⟩ := r
  cases bad
  · rcases l with _ | ⟨x, t⟩
    · (refine acalls_go ttOk zOk foOk Tryd.func22 rfl Tryd.ntmps22 rfl false rfl ?_); (conv => whnf)
      refine rdw ?_; repeat' ((with_reducible apply tw) <;> intro _)
      exact ⟨rfl, rfl⟩
    · (refine acalls_go ttOk zOk foOk Tryd.func22 rfl Tryd.ntmps22 rfl false rfl ?_); (conv => whnf)
      refine rdw ?_; repeat' ((with_reducible apply tw) <;> intro _)
      ((with_reducible refine draw_pl ttOk zOk foOk mixedOk pl22x4 ?_ ?_); (focus kernel_rfl); (conv => whnf))
      refine rdw ?_; repeat' ((with_reducible apply tw) <;> intro _)
      ((with_reducible apply rd_intro); (focus (intro K hK; (conv => whnf); exact ix_map (rfl : (x :: t)[0]? = some x) (by first | rfl | omega) hK)); (conv => whnf))
      refine rdw ?_; repeat' ((with_reducible apply tw) <;> intro _)
      ((with_reducible apply rd_intro); (focus (intro K hK; (conv => whnf); exact ⟨by decide, by show (1 : Int) ≤ (((wsD t).length + 1 : Nat) : Int); omega, Int.le_refl _, by show K (AV.d (DV.sl 1 _)) _; rw [tail_take x t]; exact hK⟩)); (conv => whnf))
      refine rdw ?_; repeat' ((with_reducible apply tw) <;> intro _)
      exact ⟨rfl, rfl⟩
  · (refine acalls_go ttOk zOk foOk Tryd.func22 rfl Tryd.ntmps22 rfl false rfl ?_); (conv => whnf)
    refine rdw ?_; repeat' ((with_reducible apply tw) <;> intro _)
    exact ⟨rfl, rfl⟩
def Rd.fit (r : Rd) : Prop := ∀ w ∈ r.l, w.length ≤ 70368744177664
theorem rword_fit {r : Rd} (h : r.fit) : (rword r).2.fit ∧ (rword r).1.length ≤ 70368744177664 := by
  obtain ⟨l, bad⟩ := r
  cases bad
  · rcases l with _ | ⟨w, t⟩
    · exact ⟨fun w hw => (by cases hw), Nat.zero_le _⟩
    · exact ⟨fun x hx => h x (List.mem_cons_of_mem _ hx), h w List.mem_cons_self⟩
  · exact ⟨h, Nat.zero_le _⟩
def rnum (r : Rd) : Int × Rd := ((numF (rword r).1).1, ⟨(rword r).2.l, (rword r).2.bad || !(numF (rword r).1).2⟩)
def rbytes (r : Rd) : W × Rd := ((unhexF (rword r).1).1, ⟨(rword r).2.l, (rword r).2.bad || !(unhexF (rword r).1).2⟩)
theorem number_rok (r : Rd) (hr : r.fit) : ACalls Tryd.prog 38 [.ptr 0 0] r.L (fun av L => av = .d (.int .i64 (rnum r).1) ∧ L = (rnum r).2.L) := by
  have h1 := word_ok r
  have h2 := number_ok (bw (rword r).1) (show (bw (rword r).1).size ≤ 281474976710656 from Nat.le_trans (rword_fit hr).2 (by decide))
  rw [show (bw (rword r).1).data.toList = (rword r).1 from rfl] at h2
  unfold rnum
  rcases hw : rword r with ⟨w, l, bad⟩
  rw [hw] at h1 h2
  simp only at h1 h2 ⊢
  rcases hn : numF w with ⟨n, ok⟩
  rw [hn] at h2
  simp only at h2 ⊢
  (refine acalls_go ttOk zOk foOk Tryd.func38 rfl Tryd.ntmps38 rfl false rfl ?_); (conv => whnf)
  refine rdw ?_; repeat' ((with_reducible apply tw) <;> intro _)
  (refine (h1).mono ?_; rintro _ _ ⟨rfl, rfl⟩; (conv => whnf))
  refine rdw ?_; repeat' ((with_reducible apply tw) <;> intro _)
  (refine (h2).mono ?_; rintro _ _ ⟨rfl, rfl⟩; (conv => whnf))
  cases bad <;> cases ok <;> (conv => whnf) <;> (refine rdw ?_; repeat' ((with_reducible apply tw) <;> intro _))
  all_goals exact ⟨rfl, rfl⟩
theorem bytes_rok (r : Rd) (hr : r.fit) : ACalls Tryd.prog 39 [.ptr 0 0] r.L (fun av L => av = .d (.str (bw (rbytes r).1)) ∧ L = (rbytes r).2.L) := by
  have h1 := word_ok r
  have h2 := unhex_ok (bw (rword r).1) (show (bw (rword r).1).size ≤ 70368744177664 from (rword_fit hr).2)
  rw [show (bw (rword r).1).data.toList = (rword r).1 from rfl] at h2
  unfold rbytes
  rcases hw : rword r with ⟨w, l, bad⟩
  rw [hw] at h1 h2
  simp only at h1 h2 ⊢
  rcases hn : unhexF w with ⟨n, ok⟩
  rw [hn] at h2
  simp only at h2 ⊢
  (refine acalls_go ttOk zOk foOk Tryd.func39 rfl Tryd.ntmps39 rfl false rfl ?_); (conv => whnf)
  refine rdw ?_; repeat' ((with_reducible apply tw) <;> intro _)
  (refine (h1).mono ?_; rintro _ _ ⟨rfl, rfl⟩; (conv => whnf))
  refine rdw ?_; repeat' ((with_reducible apply tw) <;> intro _)
  (refine (h2).mono ?_; rintro _ _ ⟨rfl, rfl⟩; (conv => whnf))
  cases bad <;> cases ok <;> (conv => whnf) <;> (refine rdw ?_; repeat' ((with_reducible apply tw) <;> intro _))
  all_goals exact ⟨rfl, rfl⟩
def msgZ : List AV := [.d (.int .i64 0), .d (.int .i64 0), .d (.int .i64 0), .d (.int .i64 0), .d (.int .i64 0), .d (.int .i64 0), .d .nils, .d (.int .i64 0), .d (.int .i64 0), .d .nils, .d .nils, .d (.int .i64 0), .d (.int .i64 0), .d .nils, .d .nils, .d (.int .i64 0), .d .nils, .d .nils]
def actC (a : Sa) (pk bs : AV) : List AV := [.d (.int .i64 a.kind), .d (.int .i64 a.node), .d (.int .i64 a.peer), .d (.int .i64 a.n), pk, .d (.int .i64 a.sender), .d (.int .i64 a.seq), .d (.str (bw a.key)), .d (.str (bw a.val))] ++ msgZ ++ [bs]
def formA (f : Int × W × W) : AV := .agg [.d (.int .i64 f.1), .d (.str (bw f.2.1)), .d (.str (bw f.2.2))]
theorem rnum_fit {r : Rd} (h : r.fit) : (rnum r).2.fit := (rword_fit h).1
theorem rbytes_fit {r : Rd} (h : r.fit) : (rbytes r).2.fit := (rword_fit h).1
theorem rword_len (r : Rd) : (rword r).2.l.length ≤ r.l.length := by
  obtain ⟨l, bad⟩ := r
  cases bad
  · rcases l with _ | ⟨w, t⟩
    · exact Nat.le_refl _
    · exact Nat.le_succ _
  · exact Nat.le_refl _
theorem rnum_len (r : Rd) : (rnum r).2.l.length ≤ r.l.length := rword_len r
def picksL : List W → Bool → List Int × Rd
  | [], b => ([], ⟨[], b⟩)
  | w :: t, true => ([], ⟨w :: t, true⟩)
  | w :: t, false => ((numF w).1 :: (picksL t (!(numF w).2)).1, (picksL t (!(numF w).2)).2)
def stepF (c : UInt8) (q : Sa × Rd) : Sa × Rd :=
  if c = 110 then ({ q.1 with node := (rnum q.2).1 }, (rnum q.2).2)
  else if c = 112 then ({ q.1 with peer := (rnum q.2).1 }, (rnum q.2).2)
  else if c = 107 then ({ q.1 with n := (rnum q.2).1 }, (rnum q.2).2)
  else if c = 116 then
    let a := rnum q.2
    let b := rnum a.2
    let k := rbytes b.2
    let v := rbytes k.2
    ({ q.1 with sender := a.1, seq := b.1, key := k.1, val := v.1 }, v.2)
  else if c = 98 then ({ q.1 with bytes := (rbytes q.2).1 }, (rbytes q.2).2)
  else ({ q.1 with picks := (picksL q.2.l q.2.bad).1 }, (picksL q.2.l q.2.bad).2)
def actF (has : W) (k : Int) (r : Rd) : Sa × Rd := has.foldl (fun q c => stepF c q) (zeroS k, r)
theorem act_n (f : Int × W) (r : Rd) (hr : r.fit) : ACalls Tryd.prog 24 [.ptr 0 0, formA (f.1, f.2, [110])] r.L (fun av L => av = .agg (actC (actF [110] f.1 r).1 (.d .nils) (.d .nils)) ∧ L = (actF [110] f.1 r).2.L) := by
  have h1 := number_rok r hr
  (refine acalls_go ttOk zOk foOk Tryd.func24 rfl Tryd.ntmps24 rfl false rfl ?_); (conv => whnf)
  refine rdw ?_; repeat' ((with_reducible apply tw) <;> intro _)
  refine loop_some ttOk zOk foOk 2 ?_
  conv => whnf
  refine rdw ?_; repeat' ((with_reducible apply tw) <;> intro _)
  (refine (h1).mono ?_; rintro _ _ ⟨rfl, rfl⟩; (conv => whnf))
  refine rdw ?_; repeat' ((with_reducible apply tw) <;> intro _)
  exact ⟨rfl, rfl⟩
theorem act_k (f : Int × W) (r : Rd) (hr : r.fit) : ACalls Tryd.prog 24 [.ptr 0 0, formA (f.1, f.2, [107])] r.L (fun av L => av = .agg (actC (actF [107] f.1 r).1 (.d .nils) (.d .nils)) ∧ L = (actF [107] f.1 r).2.L) := by
  have h1 := number_rok r hr
  (refine acalls_go ttOk zOk foOk Tryd.func24 rfl Tryd.ntmps24 rfl false rfl ?_); (conv => whnf)
  refine rdw ?_; repeat' ((with_reducible apply tw) <;> intro _)
  refine loop_some ttOk zOk foOk 2 ?_
  conv => whnf
  refine rdw ?_; repeat' ((with_reducible apply tw) <;> intro _)
  (refine (h1).mono ?_; rintro _ _ ⟨rfl, rfl⟩; (conv => whnf))
  refine rdw ?_; repeat' ((with_reducible apply tw) <;> intro _)
  exact ⟨rfl, rfl⟩
theorem act_npk (f : Int × W) (r : Rd) (hr : r.fit) : ACalls Tryd.prog 24 [.ptr 0 0, formA (f.1, f.2, [110, 112, 107])] r.L (fun av L => av = .agg (actC (actF [110, 112, 107] f.1 r).1 (.d .nils) (.d .nils)) ∧ L = (actF [110, 112, 107] f.1 r).2.L) := by
  have h1 := number_rok r hr
  have h2 := number_rok _ (rnum_fit hr)
  have h3 := number_rok _ (rnum_fit (rnum_fit hr))
  (refine acalls_go ttOk zOk foOk Tryd.func24 rfl Tryd.ntmps24 rfl false rfl ?_); (conv => whnf)
  refine rdw ?_; repeat' ((with_reducible apply tw) <;> intro _)
  refine loop_some ttOk zOk foOk 4 ?_
  conv => whnf
  refine rdw ?_; repeat' ((with_reducible apply tw) <;> intro _)
  (refine (h1).mono ?_; rintro _ _ ⟨rfl, rfl⟩; (conv => whnf))
  refine rdw ?_; repeat' ((with_reducible apply tw) <;> intro _)
  (refine (h2).mono ?_; rintro _ _ ⟨rfl, rfl⟩; (conv => whnf))
  refine rdw ?_; repeat' ((with_reducible apply tw) <;> intro _)
  (refine (h3).mono ?_; rintro _ _ ⟨rfl, rfl⟩; (conv => whnf))
  refine rdw ?_; repeat' ((with_reducible apply tw) <;> intro _)
  exact ⟨rfl, rfl⟩
theorem act_nt (f : Int × W) (r : Rd) (hr : r.fit) : ACalls Tryd.prog 24 [.ptr 0 0, formA (f.1, f.2, [110, 116])] r.L (fun av L => av = .agg (actC (actF [110, 116] f.1 r).1 (.d .nils) (.d .nils)) ∧ L = (actF [110, 116] f.1 r).2.L) := by
  have h1 := number_rok r hr
  have h2 := number_rok _ (rnum_fit hr)
  have h3 := number_rok _ (rnum_fit (rnum_fit hr))
  have h4 := bytes_rok _ (rnum_fit (rnum_fit (rnum_fit hr)))
  have h5 := bytes_rok _ (rbytes_fit (rnum_fit (rnum_fit (rnum_fit hr))))
  (refine acalls_go ttOk zOk foOk Tryd.func24 rfl Tryd.ntmps24 rfl false rfl ?_); (conv => whnf)
  refine rdw ?_; repeat' ((with_reducible apply tw) <;> intro _)
  refine loop_some ttOk zOk foOk 3 ?_
  conv => whnf
  refine rdw ?_; repeat' ((with_reducible apply tw) <;> intro _)
  (refine (h1).mono ?_; rintro _ _ ⟨rfl, rfl⟩; (conv => whnf))
  refine rdw ?_; repeat' ((with_reducible apply tw) <;> intro _)
  (refine (h2).mono ?_; rintro _ _ ⟨rfl, rfl⟩; (conv => whnf))
  refine rdw ?_; repeat' ((with_reducible apply tw) <;> intro _)
  (refine (h3).mono ?_; rintro _ _ ⟨rfl, rfl⟩; (conv => whnf))
  refine rdw ?_; repeat' ((with_reducible apply tw) <;> intro _)
  (refine (h4).mono ?_; rintro _ _ ⟨rfl, rfl⟩; (conv => whnf))
  refine rdw ?_; repeat' ((with_reducible apply tw) <;> intro _)
  (refine (h5).mono ?_; rintro _ _ ⟨rfl, rfl⟩; (conv => whnf))
  refine rdw ?_; repeat' ((with_reducible apply tw) <;> intro _)
  exact ⟨rfl, rfl⟩
theorem act_npb (f : Int × W) (r : Rd) (hr : r.fit) : ACalls Tryd.prog 24 [.ptr 0 0, formA (f.1, f.2, [110, 112, 98])] r.L (fun av L => av = .agg (actC (actF [110, 112, 98] f.1 r).1 (.d .nils) (.d (.sl 1 (u8s (actF [110, 112, 98] f.1 r).1.bytes)))) ∧ L = (actF [110, 112, 98] f.1 r).2.L) := by
  have h1 := number_rok r hr
  have h2 := number_rok _ (rnum_fit hr)
  have h3 := bytes_rok _ (rnum_fit (rnum_fit hr))
  (refine acalls_go ttOk zOk foOk Tryd.func24 rfl Tryd.ntmps24 rfl false rfl ?_); (conv => whnf)
  refine rdw ?_; repeat' ((with_reducible apply tw) <;> intro _)
  refine loop_some ttOk zOk foOk 4 ?_
  conv => whnf
  refine rdw ?_; repeat' ((with_reducible apply tw) <;> intro _)
  (refine (h1).mono ?_; rintro _ _ ⟨rfl, rfl⟩; (conv => whnf))
  refine rdw ?_; repeat' ((with_reducible apply tw) <;> intro _)
  (refine (h2).mono ?_; rintro _ _ ⟨rfl, rfl⟩; (conv => whnf))
  refine rdw ?_; repeat' ((with_reducible apply tw) <;> intro _)
  (refine (h3).mono ?_; rintro _ _ ⟨rfl, rfl⟩; (conv => whnf))
  refine rdw ?_; repeat' ((with_reducible apply tw) <;> intro _)
  refine ⟨?_, ?_⟩
  · have := unhexF_len (rword (rnum (rnum r).2).2).1
    have h4 := (rword_fit (rnum_fit (rnum_fit hr))).2
    have e : (140737488355328 : Nat) ≤ maxLen := by decide
    show (unhexF (rword (rnum (rnum r).2).2).1).1.length ≤ maxLen
    omega
  conv => whnf
  refine Or.inl ?_
  conv => whnf
  refine rdw ?_; repeat' ((with_reducible apply tw) <;> intro _)
  exact ⟨rfl, rfl⟩
def pkD : List Int → DV
  | [] => .nils
  | n :: l => .sl 1 (nums (n :: l))
def pkC (z : Sa) (pk : AV) (r : Rd) (s : W) (p : Nat) : List AB := r.L ++ [.cells (actC (zeroS 0) (.d .nils) (.d .nils)), .cells (actC z pk (.d .nils)), .obj (.stringIter (bw s) p)]
def pkSt (z : Sa) (s : W) (p : Nat) (q : List Int × Rd) : AF × List AB :=
  ([(0, .ptr 0 0), (4, .ptr 1 0), (5, .ptr 2 0), (13, .ptr 3 0)], match q.1 with
    | [] => pkC z (.d .nils) q.2 s p
    | n :: l => pkC z (.arr 4) q.2 s p ++ [.row 3 1 (nums (n :: l)) false])
def pkInv (r0 : Rd) (q : List Int × Rd) : Prop := q.2.fit ∧ q.1.length + q.2.l.length ≤ r0.l.length ∧ (picksL r0.l r0.bad).1 = q.1 ++ (picksL q.2.l q.2.bad).1 ∧ (picksL r0.l r0.bad).2 = (picksL q.2.l q.2.bad).2
theorem pk_next {r0 : Rd} {acc : List Int} {w : W} {t : List W} (i1 : (⟨w :: t, false⟩ : Rd).fit) (i2 : acc.length + (w :: t).length ≤ r0.l.length) (i3 : (picksL r0.l r0.bad).1 = acc ++ (picksL (w :: t) false).1) (i4 : (picksL r0.l r0.bad).2 = (picksL (w :: t) false).2) :
    pkInv r0 (acc ++ [(rnum ⟨w :: t, false⟩).1], (rnum ⟨w :: t, false⟩).2) := by
  refine ⟨rnum_fit i1, ?_, ?_, i4⟩
  · show (acc ++ [_]).length + t.length ≤ _
    simp only [List.length_append, List.length_cons, List.length_nil] at i2 ⊢
    omega
  · rw [i3, List.append_assoc]
    rfl
def pkP (q : Sa × Rd) (av : AV) (L : List AB) : Prop :=
  (q.1.picks = [] ∧ av = .agg (actC q.1 (.d .nils) (.d .nils)) ∧ L = q.2.L) ∨ (q.1.picks ≠ [] ∧ av = .agg (actC q.1 (.arr 1) (.d .nils)) ∧ L = q.2.L ++ [.row 3 1 (nums q.1.picks) false])
theorem act_nl (f : Int × W) (r : Rd) (hr : r.fit) (hlen : r.l.length ≤ 1000000000) : ACalls Tryd.prog 24 [.ptr 0 0, formA (f.1, f.2, [110, 108])] r.L (pkP (actF [110, 108] f.1 r)) := by
  have h1 := number_rok r hr
  (refine acalls_go ttOk zOk foOk Tryd.func24 rfl Tryd.ntmps24 rfl false rfl ?_); (conv => whnf)
  refine rdw ?_; repeat' ((with_reducible apply tw) <;> intro _)
  refine loop_some ttOk zOk foOk 3 ?_
  conv => whnf
  refine rdw ?_; repeat' ((with_reducible apply tw) <;> intro _)
  (refine (h1).mono ?_; rintro _ _ ⟨rfl, rfl⟩; (conv => whnf))
  refine rdw ?_; repeat' ((with_reducible apply tw) <;> intro _)
  refine loop_go ttOk zOk foOk (σ := List Int × Rd) (pkSt { zeroS f.1 with node := (rnum r).1 } [110, 108] 2) (pkInv (rnum r).2) (fun s => s.2.l.length) [0, 4, 5, 13] ?_ ?_
  · conv => whnf
    exact ⟨([], (rnum r).2), rfl, rfl, rnum_fit hr, by simp, by simp, rfl⟩
  · rintro ⟨acc, q⟩ ⟨i1, i2, i3, i4⟩
    obtain ⟨l, bad⟩ := q
    have i5 : acc.length + l.length ≤ (rnum r).2.l.length := i2
    have i6 : (rnum r).2.l.length ≤ r.l.length := rnum_len r
    rcases l with _ | ⟨w, t⟩
    · rcases acc with _ | ⟨a0, acc⟩
      · conv => whnf
        refine rdw ?_; repeat' ((with_reducible apply tw) <;> intro _)
        refine .inl ⟨?_, rfl, ?_⟩
        · show (picksL (rnum r).2.l (rnum r).2.bad).1 = []
          exact i3
        · show (⟨[], bad⟩ : Rd).L = (picksL (rnum r).2.l (rnum r).2.bad).2.L
          exact congrArg Rd.L i4.symm
      · conv => whnf
        refine rdw ?_; repeat' ((with_reducible apply tw) <;> intro _)
        refine .inr ⟨fun h => (by replace h : (picksL (rnum r).2.l (rnum r).2.bad).1 = [] := h; rw [i3] at h; cases h), rfl, ?_⟩
        show (⟨[], bad⟩ : Rd).L ++ [.row 3 1 (nums (a0 :: acc)) false] = (picksL (rnum r).2.l (rnum r).2.bad).2.L ++ [.row 3 1 (nums (picksL (rnum r).2.l (rnum r).2.bad).1) false]
        rw [i3, i4]
        show _ = (⟨[], bad⟩ : Rd).L ++ [.row 3 1 (nums (a0 :: acc ++ [])) false]
        rw [List.append_nil]
    · cases bad
      · have hn := number_rok ⟨w :: t, false⟩ i1
        rcases acc with _ | ⟨a0, acc⟩
        · conv => whnf
          refine rdw ?_; repeat' ((with_reducible apply tw) <;> intro _)
          rotate_left
          · rename_i h
            exact absurd (show (0 : Int) < (((wsD t).length + 1 : Nat) : Int) by omega) h
          ((with_reducible refine draw_pl ttOk zOk foOk mixedOk pl24x7 ?_ ?_); (focus kernel_rfl); (conv => whnf))
          refine rdw ?_; repeat' ((with_reducible apply tw) <;> intro _)
          refine hn.mono ?_
          rintro _ _ ⟨rfl, rfl⟩
          conv => whnf
          refine rdw ?_; repeat' ((with_reducible apply tw) <;> intro _)
          refine ⟨by show (0 + 1) * 8 ≤ 140737488355328; omega, ?_⟩
          conv => whnf
          refine rdw ?_; repeat' ((with_reducible apply tw) <;> intro _)
          refine ⟨([(rnum ⟨w :: t, false⟩).1], (rnum ⟨w :: t, false⟩).2), rfl, rfl, pk_next i1 i2 i3 i4, Nat.lt_succ_self _⟩
        · conv => whnf
          refine rdw ?_; repeat' ((with_reducible apply tw) <;> intro _)
          rotate_left
          · rename_i h
            exact absurd (show (0 : Int) < (((wsD t).length + 1 : Nat) : Int) by omega) h
          ((with_reducible refine draw_pl ttOk zOk foOk mixedOk pl24x7 ?_ ?_); (focus kernel_rfl); (conv => whnf))
          refine rdw ?_; repeat' ((with_reducible apply tw) <;> intro _)
          refine hn.mono ?_
          rintro _ _ ⟨rfl, rfl⟩
          conv => whnf
          refine rdw ?_; repeat' ((with_reducible apply tw) <;> intro _)
          refine ⟨by show ((nums (a0 :: acc)).length + 1) * 8 ≤ 140737488355328; rw [nums_length]; simp only [List.length_cons] at i5 ⊢; omega, ?_⟩
          conv => whnf
          refine rdw ?_; repeat' ((with_reducible apply tw) <;> intro _)
          refine ⟨(a0 :: acc ++ [(rnum ⟨w :: t, false⟩).1], (rnum ⟨w :: t, false⟩).2), rfl, ?_, pk_next i1 i2 i3 i4, Nat.lt_succ_self _⟩
          show _ = pkC _ (.arr 4) (rnum ⟨w :: t, false⟩).2 _ _ ++ [.row 3 1 (nums (a0 :: acc ++ [(rnum ⟨w :: t, false⟩).1])) false]
          rw [← nums_apps]
          rfl
      · rcases acc with _ | ⟨a0, acc⟩
        · conv => whnf
          refine rdw ?_; repeat' ((with_reducible apply tw) <;> intro _)
          rotate_left
          · rename_i h
            exact absurd (show (0 : Int) < (((wsD t).length + 1 : Nat) : Int) by omega) h
          refine .inl ⟨?_, rfl, ?_⟩
          · show (picksL (rnum r).2.l (rnum r).2.bad).1 = []
            exact i3
          · show (⟨w :: t, true⟩ : Rd).L = (picksL (rnum r).2.l (rnum r).2.bad).2.L
            exact congrArg Rd.L i4.symm
        · conv => whnf
          refine rdw ?_; repeat' ((with_reducible apply tw) <;> intro _)
          rotate_left
          · rename_i h
            exact absurd (show (0 : Int) < (((wsD t).length + 1 : Nat) : Int) by omega) h
          refine .inr ⟨fun h => (by replace h : (picksL (rnum r).2.l (rnum r).2.bad).1 = [] := h; rw [i3] at h; cases h), rfl, ?_⟩
          show (⟨w :: t, true⟩ : Rd).L ++ [.row 3 1 (nums (a0 :: acc)) false] = (picksL (rnum r).2.l (rnum r).2.bad).2.L ++ [.row 3 1 (nums (picksL (rnum r).2.l (rnum r).2.bad).1) false]
          rw [i3, i4]
          show _ = (⟨w :: t, true⟩ : Rd).L ++ [.row 3 1 (nums (a0 :: acc ++ [])) false]
          rw [List.append_nil]
theorem act_nkl (f : Int × W) (r : Rd) (hr : r.fit) (hlen : r.l.length ≤ 1000000000) : ACalls Tryd.prog 24 [.ptr 0 0, formA (f.1, f.2, [110, 107, 108])] r.L (pkP (actF [110, 107, 108] f.1 r)) := by
  have h1 := number_rok r hr
  have h2 := number_rok _ (rnum_fit hr)
  (refine acalls_go ttOk zOk foOk Tryd.func24 rfl Tryd.ntmps24 rfl false rfl ?_); (conv => whnf)
  refine rdw ?_; repeat' ((with_reducible apply tw) <;> intro _)
  refine loop_some ttOk zOk foOk 4 ?_
  conv => whnf
  refine rdw ?_; repeat' ((with_reducible apply tw) <;> intro _)
  (refine (h1).mono ?_; rintro _ _ ⟨rfl, rfl⟩; (conv => whnf))
  refine rdw ?_; repeat' ((with_reducible apply tw) <;> intro _)
  (refine (h2).mono ?_; rintro _ _ ⟨rfl, rfl⟩; (conv => whnf))
  refine rdw ?_; repeat' ((with_reducible apply tw) <;> intro _)
  refine loop_go ttOk zOk foOk (σ := List Int × Rd) (pkSt { zeroS f.1 with node := (rnum r).1, n := (rnum (rnum r).2).1 } [110, 107, 108] 3) (pkInv (rnum (rnum r).2).2) (fun s => s.2.l.length) [0, 4, 5, 13] ?_ ?_
  · conv => whnf
    exact ⟨([], (rnum (rnum r).2).2), rfl, rfl, rnum_fit (rnum_fit hr), by simp, by simp, rfl⟩
  · rintro ⟨acc, q⟩ ⟨i1, i2, i3, i4⟩
    obtain ⟨l, bad⟩ := q
    have i5 : acc.length + l.length ≤ (rnum (rnum r).2).2.l.length := i2
    have i6 : (rnum (rnum r).2).2.l.length ≤ r.l.length := Nat.le_trans (rnum_len _) (rnum_len r)
    rcases l with _ | ⟨w, t⟩
    · rcases acc with _ | ⟨a0, acc⟩
      · conv => whnf
        refine rdw ?_; repeat' ((with_reducible apply tw) <;> intro _)
        refine .inl ⟨?_, rfl, ?_⟩
        · show (picksL (rnum (rnum r).2).2.l (rnum (rnum r).2).2.bad).1 = []
          exact i3
        · show (⟨[], bad⟩ : Rd).L = (picksL (rnum (rnum r).2).2.l (rnum (rnum r).2).2.bad).2.L
          exact congrArg Rd.L i4.symm
      · conv => whnf
        refine rdw ?_; repeat' ((with_reducible apply tw) <;> intro _)
        refine .inr ⟨fun h => (by replace h : (picksL (rnum (rnum r).2).2.l (rnum (rnum r).2).2.bad).1 = [] := h; rw [i3] at h; cases h), rfl, ?_⟩
        show (⟨[], bad⟩ : Rd).L ++ [.row 3 1 (nums (a0 :: acc)) false] = (picksL (rnum (rnum r).2).2.l (rnum (rnum r).2).2.bad).2.L ++ [.row 3 1 (nums (picksL (rnum (rnum r).2).2.l (rnum (rnum r).2).2.bad).1) false]
        rw [i3, i4]
        show _ = (⟨[], bad⟩ : Rd).L ++ [.row 3 1 (nums (a0 :: acc ++ [])) false]
        rw [List.append_nil]
    · cases bad
      · have hn := number_rok ⟨w :: t, false⟩ i1
        rcases acc with _ | ⟨a0, acc⟩
        · conv => whnf
          refine rdw ?_; repeat' ((with_reducible apply tw) <;> intro _)
          rotate_left
          · rename_i h
            exact absurd (show (0 : Int) < (((wsD t).length + 1 : Nat) : Int) by omega) h
          ((with_reducible refine draw_pl ttOk zOk foOk mixedOk pl24x7 ?_ ?_); (focus kernel_rfl); (conv => whnf))
          refine rdw ?_; repeat' ((with_reducible apply tw) <;> intro _)
          refine hn.mono ?_
          rintro _ _ ⟨rfl, rfl⟩
          conv => whnf
          refine rdw ?_; repeat' ((with_reducible apply tw) <;> intro _)
          refine ⟨by show (0 + 1) * 8 ≤ 140737488355328; omega, ?_⟩
          conv => whnf
          refine rdw ?_; repeat' ((with_reducible apply tw) <;> intro _)
          refine ⟨([(rnum ⟨w :: t, false⟩).1], (rnum ⟨w :: t, false⟩).2), rfl, rfl, pk_next i1 i2 i3 i4, Nat.lt_succ_self _⟩
        · conv => whnf
          refine rdw ?_; repeat' ((with_reducible apply tw) <;> intro _)
          rotate_left
          · rename_i h
            exact absurd (show (0 : Int) < (((wsD t).length + 1 : Nat) : Int) by omega) h
          ((with_reducible refine draw_pl ttOk zOk foOk mixedOk pl24x7 ?_ ?_); (focus kernel_rfl); (conv => whnf))
          refine rdw ?_; repeat' ((with_reducible apply tw) <;> intro _)
          refine hn.mono ?_
          rintro _ _ ⟨rfl, rfl⟩
          conv => whnf
          refine rdw ?_; repeat' ((with_reducible apply tw) <;> intro _)
          refine ⟨by show ((nums (a0 :: acc)).length + 1) * 8 ≤ 140737488355328; rw [nums_length]; simp only [List.length_cons] at i5 ⊢; omega, ?_⟩
          conv => whnf
          refine rdw ?_; repeat' ((with_reducible apply tw) <;> intro _)
          refine ⟨(a0 :: acc ++ [(rnum ⟨w :: t, false⟩).1], (rnum ⟨w :: t, false⟩).2), rfl, ?_, pk_next i1 i2 i3 i4, Nat.lt_succ_self _⟩
          show _ = pkC _ (.arr 4) (rnum ⟨w :: t, false⟩).2 _ _ ++ [.row 3 1 (nums (a0 :: acc ++ [(rnum ⟨w :: t, false⟩).1])) false]
          rw [← nums_apps]
          rfl
      · rcases acc with _ | ⟨a0, acc⟩
        · conv => whnf
          refine rdw ?_; repeat' ((with_reducible apply tw) <;> intro _)
          rotate_left
          · rename_i h
            exact absurd (show (0 : Int) < (((wsD t).length + 1 : Nat) : Int) by omega) h
          refine .inl ⟨?_, rfl, ?_⟩
          · show (picksL (rnum (rnum r).2).2.l (rnum (rnum r).2).2.bad).1 = []
            exact i3
          · show (⟨w :: t, true⟩ : Rd).L = (picksL (rnum (rnum r).2).2.l (rnum (rnum r).2).2.bad).2.L
            exact congrArg Rd.L i4.symm
        · conv => whnf
          refine rdw ?_; repeat' ((with_reducible apply tw) <;> intro _)
          rotate_left
          · rename_i h
            exact absurd (show (0 : Int) < (((wsD t).length + 1 : Nat) : Int) by omega) h
          refine .inr ⟨fun h => (by replace h : (picksL (rnum (rnum r).2).2.l (rnum (rnum r).2).2.bad).1 = [] := h; rw [i3] at h; cases h), rfl, ?_⟩
          show (⟨w :: t, true⟩ : Rd).L ++ [.row 3 1 (nums (a0 :: acc)) false] = (picksL (rnum (rnum r).2).2.l (rnum (rnum r).2).2.bad).2.L ++ [.row 3 1 (nums (picksL (rnum (rnum r).2).2.l (rnum (rnum r).2).2.bad).1) false]
          rw [i3, i4]
          show _ = (⟨w :: t, true⟩ : Rd).L ++ [.row 3 1 (nums (a0 :: acc ++ [])) false]
          rw [List.append_nil]
end Go.Proofs.YtkaepgfmpljlmaaDoor
namespace Go.Scr
open Go.Lib
theorem words_count : ∀ s : List UInt8, (wordsF s).length ≤ s.length + 1
  | [] => by simp [wordsF]
  | c :: r => by
    have ih := words_count r
    rw [wordsF]
    split
    · simp only [List.length_cons]; omega
    · split
      · simp only [List.length_cons, List.length_nil]; omega
      · rename_i w t h
        rw [h] at ih
        simp only [List.length_cons] at ih ⊢
        omega
theorem words_each : ∀ s : List UInt8, ∀ w ∈ wordsF s, w.length ≤ s.length
  | [], w, h => by simp [wordsF] at h; simp [h]
  | c :: r, w, h => by
    rw [wordsF] at h
    split at h
    · rcases List.mem_cons.1 h with rfl | h
      · simp
      · have := words_each r w h
        simp only [List.length_cons]; omega
    · split at h
      · simp only [List.mem_cons, List.not_mem_nil, or_false] at h
        subst h
        simp
      · rename_i x t hx
        rcases List.mem_cons.1 h with rfl | h
        · have := words_each r x (by rw [hx]; exact List.mem_cons_self)
          simp only [List.length_cons]; omega
        · have := words_each r w (by rw [hx]; exact List.mem_cons_of_mem _ h)
          simp only [List.length_cons]; omega
theorem words_cons (s : List UInt8) : ∃ w t, wordsF s = w :: t := by
  cases h : wordsF s with
  | nil => exact absurd h (words_ne s)
  | cons w t => exact ⟨w, t, rfl⟩
end Go.Scr
namespace Go.Scr
open Go.Lib
theorem itoa_one {d : Nat} (h : d < 10) : itoa (d : Int) = [UInt8.ofNat (48 + d)] := by
  rw [itoa, if_neg (by omega), Int.toNat_natCast, decDigits, dif_pos h]
theorem num_one {d : Nat} (h : d < 10) : numW [UInt8.ofNat (48 + d)] = some (d : Int) :=
  numW_iff.2 ⟨(itoa_one h).symm, by omega, by omega⟩
theorem tick3 : parseS [116, 105, 99, 107, 32, 51] = some { zeroS 1 with node := 3 } := by
  rw [parse_at (f := (1, [116, 105, 99, 107], [110])) (ws := [[51]]) (by decide) rfl, p_n]
  have h : numW [51] = some 3 := num_one (d := 3) (by decide)
  simp [numsW, h]
end Go.Scr
namespace Go.Proofs.YtkaepgfmpljlmaaDoor
open Go.Ab Go.RowKit Go.Scr Go.Proofs
attribute [local irreducible] ACalls AW ADraw Into fltB fnear
set_option maxRecDepth 100000
theorem numF_or (w : W) : ((numF w).2 = true ∧ numW w = some (numF w).1) ∨ ((numF w).2 = false ∧ numW w = none) := by
  cases h : (numF w).2 with
  | true => exact .inl ⟨rfl, (numF_num w).1 h⟩
  | false =>
    refine .inr ⟨rfl, ?_⟩
    unfold numF at h
    unfold numW
    revert h
    cases Lib.atoiAll w with
    | ok v => simp
    | range => simp
    | _ => simp
theorem unhexF_or (w : W) : ((unhexF w).2 = true ∧ unhexW w = some (unhexF w).1) ∨ ((unhexF w).2 = false ∧ unhexW w = none) := by
  cases h : (unhexF w).2 with
  | true => exact .inl ⟨rfl, (unhexF_iff w _).1 (by rw [← h])⟩
  | false =>
    refine .inr ⟨rfl, ?_⟩
    cases hu : unhexW w with
    | none => rfl
    | some b => rw [unhexF_some hu] at h; cases h
theorem rnum_or (r : Rd) : ((rnum r).2.bad = false ∧ r.bad = false ∧ ∃ w t, r.l = w :: t ∧ numW w = some (rnum r).1 ∧ (rnum r).2.l = t) ∨ ((rnum r).2.bad = true ∧ (r.bad = false → r.l = [] ∨ ∃ w t, r.l = w :: t ∧ numW w = none)) := by
  obtain ⟨l, bad⟩ := r
  cases bad
  · rcases l with _ | ⟨w, t⟩
    · exact .inr ⟨rfl, fun _ => .inl rfl⟩
    · rcases numF_or w with ⟨h1, h2⟩ | ⟨h1, h2⟩
      · exact .inl ⟨show (false || !(numF w).2) = false by rw [h1]; rfl, rfl, w, t, rfl, h2, rfl⟩
      · exact .inr ⟨show (false || !(numF w).2) = true by rw [h1]; rfl, fun _ => .inr ⟨w, t, rfl, h2⟩⟩
  · exact .inr ⟨rfl, fun h => by cases h⟩
theorem rbytes_or (r : Rd) : ((rbytes r).2.bad = false ∧ r.bad = false ∧ ∃ w t, r.l = w :: t ∧ unhexW w = some (rbytes r).1 ∧ (rbytes r).2.l = t) ∨ ((rbytes r).2.bad = true ∧ (r.bad = false → r.l = [] ∨ ∃ w t, r.l = w :: t ∧ unhexW w = none)) := by
  obtain ⟨l, bad⟩ := r
  cases bad
  · rcases l with _ | ⟨w, t⟩
    · exact .inr ⟨rfl, fun _ => .inl rfl⟩
    · rcases unhexF_or w with ⟨h1, h2⟩ | ⟨h1, h2⟩
      · exact .inl ⟨show (false || !(unhexF w).2) = false by rw [h1]; rfl, rfl, w, t, rfl, h2, rfl⟩
      · exact .inr ⟨show (false || !(unhexF w).2) = true by rw [h1]; rfl, fun _ => .inr ⟨w, t, rfl, h2⟩⟩
  · exact .inr ⟨rfl, fun h => by cases h⟩
theorem rnum_bad {r : Rd} (h : r.bad = true) : (rnum r).2.bad = true := by
  rcases rnum_or r with ⟨_, k, _⟩ | ⟨k, _⟩
  · rw [h] at k; cases k
  · exact k
theorem rbytes_bad {r : Rd} (h : r.bad = true) : (rbytes r).2.bad = true := by
  rcases rbytes_or r with ⟨_, k, _⟩ | ⟨k, _⟩
  · rw [h] at k; cases k
  · exact k
theorem picks_or : ∀ (l : List W) (b : Bool), ((picksL l b).2.bad = false ∧ b = false ∧ numsW l = some (picksL l b).1 ∧ (picksL l b).2.l = []) ∨ ((picksL l b).2.bad = true ∧ (b = false → numsW l = none))
  | [], true => .inr ⟨rfl, fun h => by cases h⟩
  | [], false => .inl ⟨rfl, rfl, rfl, rfl⟩
  | w :: t, true => .inr ⟨rfl, fun h => by cases h⟩
  | w :: t, false => by
    rcases numF_or w with ⟨h1, h2⟩ | ⟨h1, h2⟩
    · have e : picksL (w :: t) false = ((numF w).1 :: (picksL t false).1, (picksL t false).2) := by rw [picksL, h1]; rfl
      rw [e]
      rcases picks_or t false with ⟨k1, _, k2, k3⟩ | ⟨k1, k2⟩
      · exact .inl ⟨k1, rfl, by rw [numsW, h2, k2], k3⟩
      · exact .inr ⟨k1, fun _ => by rw [numsW, h2, k2 rfl]⟩
    · have e : picksL (w :: t) false = ((numF w).1 :: (picksL t true).1, (picksL t true).2) := by rw [picksL, h1]; rfl
      rw [e]
      rcases picks_or t true with ⟨_, k0, _⟩ | ⟨k1, _⟩
      · cases k0
      · exact .inr ⟨k1, fun _ => by rw [numsW, h2]⟩
theorem stepF_ok {c : UInt8} (hc : okC c) (a : Sa) (r : Rd) : stepOk c a r.l r.bad (stepF c (a, r)).1 (stepF c (a, r)).2.l (stepF c (a, r)).2.bad := by
  unfold stepOk stepF stepS
  have num : ∀ (g : Int → Sa), ((rnum r).2.bad = false → r.bad = false ∧ (match r.l with | w :: t => (numW w).map fun n => (g n, t) | [] => none) = some (g (rnum r).1, (rnum r).2.l)) ∧ ((rnum r).2.bad = true → r.bad = true ∨ (match r.l with | w :: t => (numW w).map fun n => (g n, t) | [] => none) = none) := fun g => by
    rcases rnum_or r with ⟨h1, h2, w, t, h3, h4, h5⟩ | ⟨h1, h2⟩
    · refine ⟨fun _ => ⟨h2, by rw [h3]; simp only [h4, Option.map_some, h5]⟩, fun h => (by rw [h1] at h; cases h)⟩
    · refine ⟨fun h => (by rw [h1] at h; cases h), fun _ => ?_⟩
      cases hb : r.bad with
      | true => exact .inl rfl
      | false =>
        rcases h2 hb with h3 | ⟨w, t, h3, h4⟩
        · exact .inr (by rw [h3])
        · exact .inr (by rw [h3]; simp only [h4, Option.map_none])
  rcases hc with rfl | rfl | rfl | rfl | rfl | rfl
  · exact num fun n => { a with node := n }
  · exact num fun n => { a with peer := n }
  · exact num fun n => { a with n := n }
  · simp only [show ¬ (116 : UInt8) = 110 by decide, show ¬ (116 : UInt8) = 112 by decide, show ¬ (116 : UInt8) = 107 by decide, if_false, if_true]
    have fin : ∀ {p : Prop}, (rbytes (rbytes (rnum (rnum r).2).2).2).2.bad = true → ((rbytes (rbytes (rnum (rnum r).2).2).2).2.bad = false → p) := fun h k => by rw [h] at k; cases k
    rcases rnum_or r with ⟨a1, a2, w1, t1, a3, a4, a5⟩ | ⟨a1, a2⟩
    · rcases rnum_or (rnum r).2 with ⟨b1, b2, w2, t2, b3, b4, b5⟩ | ⟨b1, b2⟩
      · rcases rbytes_or (rnum (rnum r).2).2 with ⟨c1, c2, w3, t3, c3, c4, c5⟩ | ⟨c1, c2⟩
        · rcases rbytes_or (rbytes (rnum (rnum r).2).2).2 with ⟨d1, d2, w4, t4, d3, d4, d5⟩ | ⟨d1, d2⟩
          · refine ⟨fun _ => ⟨a2, ?_⟩, fun h => (by rw [d1] at h; cases h)⟩
            rw [a3, ← a5, b3, ← b5, c3, ← c5, d3]
            simp only [a4, b4, c4, d4, d5]
          · refine ⟨fin d1, fun _ => .inr ?_⟩
            rcases d2 c1 with d3 | ⟨w4, t4, d3, d4⟩
            · rw [a3, ← a5, b3, ← b5, c3, ← c5, d3]
            · rw [a3, ← a5, b3, ← b5, c3, ← c5, d3]
              simp only [a4, b4, c4, d4]
        · refine ⟨fin (rbytes_bad c1), fun _ => .inr ?_⟩
          rcases c2 b1 with c3 | ⟨w3, t3, c3, c4⟩
          · rw [a3, ← a5, b3, ← b5, c3]
          · rw [a3, ← a5, b3, ← b5, c3]
            rcases t3 with _ | ⟨w4, t4⟩
            · rfl
            · simp only [a4, b4, c4]
      · refine ⟨fin (rbytes_bad (rbytes_bad b1)), fun _ => .inr ?_⟩
        rcases b2 a1 with b3 | ⟨w2, t2, b3, b4⟩
        · rw [a3, ← a5, b3]
        · rw [a3, ← a5, b3]
          rcases t2 with _ | ⟨w3, _ | ⟨w4, t4⟩⟩
          · rfl
          · rfl
          · simp only [a4, b4]
    · refine ⟨fin (rbytes_bad (rbytes_bad (rnum_bad a1))), fun _ => ?_⟩
      cases hb : r.bad with
      | true => exact .inl rfl
      | false =>
        refine .inr ?_
        rcases a2 hb with a3 | ⟨w1, t1, a3, a4⟩
        · rw [a3]
        · rw [a3]
          rcases t1 with _ | ⟨w2, _ | ⟨w3, _ | ⟨w4, t4⟩⟩⟩
          · rfl
          · rfl
          · rfl
          · simp only [a4]
  · simp only [show ¬ (98 : UInt8) = 110 by decide, show ¬ (98 : UInt8) = 112 by decide, show ¬ (98 : UInt8) = 107 by decide, show ¬ (98 : UInt8) = 116 by decide, if_false, if_true]
    rcases rbytes_or r with ⟨h1, h2, w, t, h3, h4, h5⟩ | ⟨h1, h2⟩
    · refine ⟨fun _ => ⟨h2, by rw [h3]; simp only [h4, Option.map_some, h5]⟩, fun h => (by rw [h1] at h; cases h)⟩
    · refine ⟨fun h => (by rw [h1] at h; cases h), fun _ => ?_⟩
      cases hb : r.bad with
      | true => exact .inl rfl
      | false =>
        rcases h2 hb with h3 | ⟨w, t, h3, h4⟩
        · exact .inr (by rw [h3])
        · exact .inr (by rw [h3]; simp only [h4, Option.map_none])
  · simp only [show ¬ (108 : UInt8) = 110 by decide, show ¬ (108 : UInt8) = 112 by decide, show ¬ (108 : UInt8) = 107 by decide, show ¬ (108 : UInt8) = 116 by decide, show ¬ (108 : UInt8) = 98 by decide, if_false]
    rcases picks_or r.l r.bad with ⟨h1, h2, h3, h4⟩ | ⟨h1, h2⟩
    · refine ⟨fun _ => ⟨h2, by rw [h3, h4]; rfl⟩, fun h => (by rw [h1] at h; cases h)⟩
    · refine ⟨fun h => (by rw [h1] at h; cases h), fun _ => ?_⟩
      cases hb : r.bad with
      | true => exact .inl rfl
      | false => exact .inr (by rw [h2 hb]; rfl)
theorem actF_go (z : Sa) (ws : List W) (b : Bool) : ∀ (t pre : W) (q : Sa × Rd), actOk pre z ws b q.1 q.2.l q.2.bad → (∀ c ∈ t, okC c) → actOk (pre ++ t) z ws b (t.foldl (fun q c => stepF c q) q).1 (t.foldl (fun q c => stepF c q) q).2.l (t.foldl (fun q c => stepF c q) q).2.bad
  | [], pre, q, h, _ => by rw [List.append_nil]; exact h
  | c :: t, pre, q, h, hc => by
    have := actF_go z ws b t (pre ++ [c]) (stepF c q) (actOk_snoc h (stepF_ok (hc c List.mem_cons_self) q.1 q.2)) fun d hd => hc d (List.mem_cons_of_mem _ hd)
    rw [List.append_assoc] at this
    exact this
theorem actF_ok {has : W} (hc : ∀ c ∈ has, okC c) (k : Int) (r : Rd) : actOk has (zeroS k) r.l r.bad (actF has k r).1 (actF has k r).2.l (actF has k r).2.bad :=
  actF_go (zeroS k) r.l r.bad has [] (zeroS k, r) ⟨fun h => ⟨h, rfl⟩, fun h => .inl h⟩ hc
abbrev formsD : List (List DV) := formsL.map fun f => [.int .i64 f.1, .str (bw f.2.1), .str (bw f.2.2)]
theorem forms_rok : ACalls Tryd.prog 23 [] [] (fun av L => av = .d (.sl 3 formsD) ∧ L = []) := by
  (refine acalls_go ttOk zOk foOk Tryd.func23 rfl Tryd.ntmps23 rfl false rfl ?_); (conv => whnf)
  refine rdz ?_; repeat' ((with_reducible apply tw) <;> intro _)
  exact ⟨rfl, rfl⟩
def bsOk (bs : DV) (a : Sa) : Prop := (bs = .nils ∧ a.bytes = []) ∨ bs = .sl 1 (u8s a.bytes)
def actP (f : Int × W × W) (r : Rd) (av : AV) (L : List AB) : Prop :=
  (∃ bs, bsOk bs (actF f.2.2 f.1 r).1 ∧ (actF f.2.2 f.1 r).1.picks = [] ∧ av = .agg (actC (actF f.2.2 f.1 r).1 (.d .nils) (.d bs)) ∧ L = (actF f.2.2 f.1 r).2.L) ∨
  ((actF f.2.2 f.1 r).1.bytes = [] ∧ (actF f.2.2 f.1 r).1.picks ≠ [] ∧ av = .agg (actC (actF f.2.2 f.1 r).1 (.arr 1) (.d .nils)) ∧ L = (actF f.2.2 f.1 r).2.L ++ [.row 3 1 (nums (actF f.2.2 f.1 r).1.picks) false])
theorem act_rok {f : Int × W × W} (hf : f ∈ formsL) (r : Rd) (hr : r.fit) (hlen : r.l.length ≤ 1000000000) : ACalls Tryd.prog 24 [.ptr 0 0, formA f] r.L (actP f r) := by
  have nil : ∀ {g : Int × W × W} {av : AV} {L : List AB}, (actF g.2.2 g.1 r).1.picks = [] → (actF g.2.2 g.1 r).1.bytes = [] → (av = .agg (actC (actF g.2.2 g.1 r).1 (.d .nils) (.d .nils)) ∧ L = (actF g.2.2 g.1 r).2.L) → actP g r av L :=
    fun h1 h2 h => .inl ⟨.nils, .inl ⟨rfl, h2⟩, h1, h.1, h.2⟩
  have pks : ∀ {g : Int × W × W} {av : AV} {L : List AB}, (actF g.2.2 g.1 r).1.bytes = [] → pkP (actF g.2.2 g.1 r) av L → actP g r av L := fun h2 h => by
    rcases h with ⟨k1, k2, k3⟩ | ⟨k0, k1, k2⟩
    · exact .inl ⟨.nils, .inl ⟨rfl, h2⟩, k1, k2, k3⟩
    · exact .inr ⟨h2, k0, k1, k2⟩
  simp only [formsL, List.mem_cons, List.not_mem_nil, or_false] at hf
  rcases hf with rfl | rfl | rfl | rfl | rfl | rfl | rfl | rfl | rfl | rfl
  · exact (act_n (_, _) r hr).mono fun _ _ h => nil rfl rfl h
  · exact (act_nt (_, _) r hr).mono fun _ _ h => nil rfl rfl h
  · exact (act_npk (_, _) r hr).mono fun _ _ h => nil rfl rfl h
  · exact (act_npk (_, _) r hr).mono fun _ _ h => nil rfl rfl h
  · exact (act_npk (_, _) r hr).mono fun _ _ h => nil rfl rfl h
  · exact (act_nl (_, _) r hr hlen).mono fun _ _ h => pks rfl h
  · exact (act_n (_, _) r hr).mono fun _ _ h => nil rfl rfl h
  · exact (act_nkl (_, _) r hr hlen).mono fun _ _ h => pks rfl h
  · exact (act_npb (_, _) r hr).mono fun _ _ h => .inl ⟨_, .inr rfl, rfl, h.1, h.2⟩
  · exact (act_k (_, _) r hr).mono fun _ _ h => nil rfl rfl h
def psSt (w : W) (r : Rd) (q : Option Nat) : AF × List AB := match q with
  | some i => ([(2, .ptr 0 0), (4, .ptr 1 0), (5, .d (.str (bw w))), (6, .d (.sl 3 formsD)), (7, .d (.int .i64 (i : Int))), (8, .ptr 2 0)], [.cells (actC (zeroS 0) (.d .nils) (.d .nils))] ++ r.L ++ [.cells (actC (zeroS 0) (.d .nils) (.d .nils))])
  | none => ([(2, .ptr 0 0)], [.cells (actC (zeroS 0) (.d .nils) (.d .nils))])
def psInv (s w : W) (l : Nat) (q : Option Nat) : Prop := (l = 1 ∧ ∃ i, q = some i ∧ i ≤ 10 ∧ ∀ f ∈ formsL.take i, f.2.1 ≠ w) ∨ (l = 0 ∧ q = none ∧ parseS s = none)
def psMu (l : Nat) (q : Option Nat) : Nat := match q with
  | some i => 11 - i
  | none => 0
theorem parse_rok (s : ByteArray) (hs : s.size ≤ 1000000) (Q : AV → List AB → Prop)
    (hA : ∀ a bs, parseS s.data.toList = some a → a.picks = [] → bsOk bs a → Q (.tup [.agg (actC a (.d .nils) (.d bs)), .d (.int .i64 0)]) [])
    (hB : ∀ a, parseS s.data.toList = some a → a.bytes = [] → a.picks ≠ [] → Q (.tup [.agg (actC a (.arr 0) (.d .nils)), .d (.int .i64 0)]) [.row 3 1 (nums a.picks) false])
    (hC : parseS s.data.toList = none → Q (.tup [.agg (actC (zeroS 0) (.d .nils) (.d .nils)), .d (.int .i64 1)]) []) : ACalls Tryd.prog 9 [.d (.str s)] [] Q := by
  have hsp := split_ok s (by omega)
  obtain ⟨w, ws, hw⟩ := words_cons s.data.toList
  have hsl : s.data.toList.length = s.size := rfl
  have hwl := words_count s.data.toList
  have hwe := words_each s.data.toList
  rw [hw] at hsp hwl hwe
  simp only [List.length_cons] at hwl
  have hword := word_ok ⟨w :: ws, false⟩
  have hfit : (⟨ws, false⟩ : Rd).fit := fun x hx => by
    have := hwe x (List.mem_cons_of_mem _ hx)
    omega
  (refine acalls_go ttOk zOk foOk Tryd.func9 rfl Tryd.ntmps9 rfl false rfl ?_); (conv => whnf)
  refine rdz ?_; repeat' ((with_reducible apply tw) <;> intro _)
  refine scope_go ttOk zOk foOk (psSt w ⟨ws, false⟩) (psInv s.data.toList w) psMu ?_ ?_
  · rintro l rest hl q hi
    rcases hi with ⟨rfl, i, rfl, hi, hno⟩ | ⟨rfl, rfl, hp⟩
    · have e := Option.some.inj (show some _ = some rest from hl)
      subst e
      clear hl
      conv => whnf
      refine rdz ?_; repeat' ((with_reducible apply tw) <;> intro _)
      · refine into_of [2] ?_
        conv => whnf
        refine ⟨none, rfl, rfl, .inr ⟨rfl, rfl, ?_⟩, ?_⟩
        · rename_i hie
          have hi10 : i = 10 := by
            have : (i : Int) = ((10 : Nat) : Int) := hie
            omega
          subst hi10
          exact parse_other hw hno
        · show 0 < 11 - i
          omega
      · rename_i hne
        have hlt : i < formsL.length := by
          have : (i : Int) ≠ ((10 : Nat) : Int) := hne
          have : formsL.length = 10 := rfl
          omega
        obtain ⟨f, hf⟩ : ∃ f, formsL[i]? = some f := ⟨_, List.getElem?_eq_getElem hlt⟩
        have hfm := List.mem_of_getElem? hf
        have hact := act_rok hfm ⟨ws, false⟩ hfit (by show ws.length ≤ _; omega)
        ((with_reducible refine ix_map hf ?_ ?_); (focus (first | rfl | omega)); (conv => whnf))
        refine rdz ?_; repeat' ((with_reducible apply tw) <;> intro _)
        · rename_i hx
          refine into_of [2, 4, 5, 6, 7, 8] ?_
          conv => whnf
          refine ⟨some (i + 1), rfl, rfl, .inl ⟨rfl, i + 1, rfl, by have : formsL.length = 10 := rfl; omega, fun g hg => ?_⟩, by show 11 - (i + 1) < 11 - i; omega⟩
          rw [List.take_add_one, hf] at hg
          rcases List.mem_append.1 hg with hg | hg
          · exact hno g hg
          · simp only [Option.toList_some, List.mem_cons, List.not_mem_nil, or_false] at hg
            subst hg
            intro e
            rw [e, beq_self_eq_true] at hx
            cases hx
        · rename_i hx
          have hfw : f.2.1 = w := by
            have := eq_of_beq hx
            rw [ByteArray.toList_eq, ByteArray.toList_eq] at this
            exact this
          subst hfw
          have hpa := parse_at hfm hw
          have hok := actF_ok (forms_ok f hfm).1 f.1 ⟨ws, false⟩
          unfold actP at hact
          rcases hq : actF f.2.2 f.1 ⟨ws, false⟩ with ⟨a, ⟨l2, b2⟩⟩
          rw [hq] at hact hok
          simp only at hact hok
          ((with_reducible refine ix_map hf ?_ ?_); (focus (first | rfl | omega)); (conv => whnf))
          refine rdz ?_; repeat' ((with_reducible apply tw) <;> intro _)
          refine hact.mono ?_
          have yes : b2 = false → ((wsD l2).length : Int) = 0 → parseS s.data.toList = some a := fun h1 h2 => by
            have hl : l2 = [] := List.eq_nil_of_length_eq_zero (by rw [wsD_length] at h2; omega)
            rw [hpa, (hok.1 h1).2, hl]
            rfl
          have no1 : b2 = false → ((wsD l2).length : Int) ≠ 0 → parseS s.data.toList = none := fun h1 h2 => by
            rw [hpa, (hok.1 h1).2]
            rcases l2 with _ | ⟨x, t⟩
            · exact absurd rfl h2
            · rfl
          have no2 : b2 = true → parseS s.data.toList = none := fun h1 => by
            rcases hok.2 h1 with h | h
            · cases h
            · rw [hpa, h]
              rfl
          clear hok hpa
          rintro _ _ (⟨bs, hbs, hpk, rfl, rfl⟩ | ⟨hby, hpn, rfl, rfl⟩)
          · conv => whnf
            refine rdz ?_; repeat' ((with_reducible apply tw) <;> intro _)
            · rename_i h1 h2
              exact hA a bs (yes h1 h2) hpk hbs
            · rename_i h1 h2
              refine AW_go ttOk zOk foOk ?_
              conv => whnf
              refine rdz ?_; repeat' ((with_reducible apply tw) <;> intro _)
              exact hC (no1 h1 h2)
            · rename_i h1
              refine AW_go ttOk zOk foOk ?_
              conv => whnf
              refine rdz ?_; repeat' ((with_reducible apply tw) <;> intro _)
              exact hC (no2 h1)
          · conv => whnf
            refine rdz ?_; repeat' ((with_reducible apply tw) <;> intro _)
            · rename_i h1 h2
              exact hB a (yes h1 h2) hby hpn
            · rename_i h1 h2
              refine AW_go ttOk zOk foOk ?_
              conv => whnf
              refine rdz ?_; repeat' ((with_reducible apply tw) <;> intro _)
              exact hC (no1 h1 h2)
            · rename_i h1
              refine AW_go ttOk zOk foOk ?_
              conv => whnf
              refine rdz ?_; repeat' ((with_reducible apply tw) <;> intro _)
              exact hC (no2 h1)
    · have e := Option.some.inj (show some _ = some rest from hl)
      subst e
      clear hl
      conv => whnf
      refine rdz ?_; repeat' ((with_reducible apply tw) <;> intro _)
      exact hC hp
  · intro pass
    conv => whnf
    refine rdz ?_; repeat' ((with_reducible apply tw) <;> intro _)
    (refine (hsp).mono ?_; rintro _ _ ⟨rfl, rfl⟩; (conv => whnf))
    refine rdz ?_; repeat' ((with_reducible apply tw) <;> intro _)
    (refine (hword).mono ?_; rintro _ _ ⟨rfl, rfl⟩; (conv => whnf))
    refine rdz ?_; repeat' ((with_reducible apply tw) <;> intro _)
    (refine (forms_rok).mono ?_; rintro _ _ ⟨rfl, rfl⟩; (conv => whnf))
    refine rdz ?_; repeat' ((with_reducible apply tw) <;> intro _)
    refine aw_at (σ := Unit) (fun _ => psSt w ⟨ws, false⟩ (some 0)) (fun _ => True) [2, 4, 5, 6, 7, 8] ?_ ?_
    · conv => whnf
      exact ⟨(), rfl, rfl, trivial⟩
    · intro _ _
      exact pass 1 _ rfl (some 0) (.inl ⟨rfl, 0, rfl, by omega, fun f hf => by cases hf⟩)
end Go.Proofs.YtkaepgfmpljlmaaDoor
