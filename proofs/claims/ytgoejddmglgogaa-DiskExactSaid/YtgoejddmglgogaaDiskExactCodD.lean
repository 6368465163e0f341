/- DiskExact: contracts. -/
import Derived.Test.YtgoejddmglgogaaDiskExactCodC
set_option linter.unusedVariables false
set_option linter.unusedSimpArgs false
namespace Go.Proofs.Ytgoejddmglgogaa
open Go.Ab Go.RowKit Go.MapKept
attribute [local irreducible] ACalls AW ADraw Into fltB fnear
set_option maxRecDepth 100000
theorem idx_some {n : ByteArray} {l : List FD} {i : Nat} (h : idxN n l = some i) : ∃ f, l[i]? = some f ∧ f.name = n := by
  rw [idxN, List.findIdx?_eq_some_iff_getElem] at h
  obtain ⟨h1, h2, _⟩ := h
  exact ⟨l[i], List.getElem?_eq_getElem h1, by simpa using h2⟩
theorem find_some (r : RD) (hr : r.fit) (n : ByteArray) {i : Nat} (h : idxN n r.l = some i) : ACalls Try.prog 46 [.ptr 0 0, .d (.str n)] r.L (fun av L => av = .d (.int .i64 (i : Nat)) ∧ L = r.L) := by
  have := find_ok r hr n
  rw [show idxI n r.l = (i : Int) by rw [idxI, h]] at this
  exact this
theorem find_none (r : RD) (hr : r.fit) (n : ByteArray) (h : idxN n r.l = none) : ACalls Try.prog 46 [.ptr 0 0, .d (.str n)] r.L (fun av L => av = .d (.int .i64 (-1)) ∧ L = r.L) := by
  have := find_ok r hr n
  rw [show idxI n r.l = -1 by rw [idxI, h]] at this
  exact this
def RD.some (r : RD) (n : ByteArray) (k : Nat → FD → RD → Int × RD) : Int × RD :=
  if r.call.1 = false then (9, r.call.2) else
  match idxN n r.l with
  | none => (3, r.call.2)
  | Option.some i => match r.l[i]? with
    | none => (3, r.call.2)
    | Option.some f => k i f r.call.2
def RD.sync (r : RD) (n : ByteArray) : Int × RD :=
  if goodS n = false then (1, r) else r.some n fun i f c => (0, c.with (c.l.set i { f with safe := f.seen }))
theorem some_off {r : RD} {n : ByteArray} {k : Nat → FD → RD → Int × RD} (h : r.call.1 = false) : r.some n k = (9, r.call.2) := if_pos h
theorem some_no {r : RD} {n : ByteArray} {k : Nat → FD → RD → Int × RD} (h : r.call.1 = true) (hi : idxN n r.l = none) : r.some n k = (3, r.call.2) := by rw [RD.some, if_neg (by rw [h]; decide), hi]
theorem some_at {r : RD} {n : ByteArray} {k : Nat → FD → RD → Int × RD} {i : Nat} {f : FD} (h : r.call.1 = true) (hi : idxN n r.l = Option.some i) (hf : r.l[i]? = Option.some f) : r.some n k = k i f r.call.2 := by
  rw [RD.some, if_neg (by rw [h]; decide), hi]
  show (match r.l[i]? with | none => _ | Option.some f => _) = _
  rw [hf]
theorem set_L (c : RD) (i : Nat) (g : FD) : [AB.cells [.arr 1, .d (.int .i64 c.calls), .d (.int .i64 c.left), .d (.bool c.off)], AB.row 66 3 ((c.l.map FD.cs).set ((i : Int)).toNat g.cs) false] = (c.with (c.l.set i g)).L := by
  rw [Int.toNat_natCast, ← List.map_set]
  rfl
theorem rSync_ok (r : RD) (hr : r.fit) (hc : r.calls ≤ 999999) (n : ByteArray) : ACalls Try.prog 28 [.ptr 0 0, .d (.str n)] r.L (fun av L => av = .d (.int .i64 (r.sync n).1) ∧ L = (r.sync n).2.L) := by
  have hcf := call_fit hr hc
  have hcl := call_l r
  (refine acalls_go ttOk zOk foOk Try.func28 rfl Try.ntmps28 rfl false rfl ?_); (conv => whnf)
  ((with_reducible refine (name_ok n).mono ?_); rintro _ _ ⟨rfl, rfl⟩; (conv => whnf))
  refine rdw ?_; repeat' ((with_reducible apply tw) <;> intro _)
  · rename_i k1
    rw [RD.sync, if_pos k1]
    exact ⟨rfl, rfl⟩
  rename_i k1
  rw [RD.sync, if_neg (by rw [k1]; decide)]
  (refine (rCall_ok r hr).mono ?_; rintro _ _ ⟨rfl, rfl⟩; (conv => whnf))
  obtain ⟨kk, hkk⟩ : ∃ kk : Nat → FD → RD → Int × RD, (fun i f c => (0, c.with (c.l.set i { f with safe := f.seen }))) = kk := ⟨_, rfl⟩
  rw [hkk]
  obtain ⟨c, hcc⟩ : ∃ c, r.call.2 = c := ⟨_, rfl⟩
  have h9 := some_off (r := r) (n := n) (k := kk)
  have h3 := some_no (r := r) (n := n) (k := kk)
  have h0 := fun i f => some_at (r := r) (n := n) (k := kk) (i := i) (f := f)
  rw [hcc] at hcf hcl h9 h3 h0 ⊢
  rw [← hcl] at h3 h0
  obtain ⟨t, ht⟩ : ∃ t, r.call.1 = t := ⟨_, rfl⟩
  rw [ht] at h9 h3 h0 ⊢
  have hln := hcf.len
  have hfl : (c.l.map FD.cs).length = c.l.length := List.length_map ..
  refine rdw ?_; repeat' ((with_reducible apply tw) <;> intro _)
  · rename_i k2
    rw [h9 k2]
    exact ⟨rfl, rfl⟩
  rename_i k2
  cases hi : idxN n c.l with
  | none =>
    rw [h3 k2 hi]
    (refine (find_none c hcf n hi).mono ?_; rintro _ _ ⟨rfl, rfl⟩; (conv => whnf))
    refine rdw ?_; repeat' ((with_reducible apply tw) <;> intro _)
    · exact ⟨rfl, rfl⟩
  | some i =>
    obtain ⟨f, hf, hfn⟩ := idx_some hi
    have hil := (List.getElem?_eq_some_iff.1 hf).1
    rw [h0 i f k2 hi hf]
    (refine (find_some c hcf n hi).mono ?_; rintro _ _ ⟨rfl, rfl⟩; (conv => whnf))
    refine rdw ?_; repeat' ((with_reducible apply tw) <;> intro _)
    ((with_reducible refine draw_pl ttOk zOk foOk mixedOk pl28x8 ?_ ?_); (focus kernel_rfl); (conv => whnf))
    refine rdw ?_; repeat' ((with_reducible apply tw) <;> intro _)
    ((with_reducible apply rd_intro); (focus (intro K hK; (conv => whnf); exact ⟨by omega, (by rw [hfl]; omega), hK⟩)); (conv => whnf))
    refine rdw ?_; repeat' ((with_reducible apply tw) <;> intro _)
    ((with_reducible apply rd_intro); (focus (intro K hK; (conv => whnf); exact ⟨_, fds_at hf, hK⟩)); (conv => whnf))
    refine rdw ?_; repeat' ((with_reducible apply tw) <;> intro _)
    ((with_reducible apply rd_intro); (focus (intro K hK; (conv => whnf); exact ⟨by omega, (by rw [hfl]; omega), hK⟩)); (conv => whnf))
    refine rdw ?_; repeat' ((with_reducible apply tw) <;> intro _)
    refine ⟨_, fds_at hf, ?_⟩
    conv => whnf
    refine rdw ?_; repeat' ((with_reducible apply tw) <;> intro _)
    subst hkk
    exact ⟨rfl, set_L c i ⟨f.name, f.seen, f.seen⟩⟩
def RD.cut (r : RD) (n : ByteArray) (k : Int) : Int × RD :=
  if goodS n = false ∨ k < 0 then (1, r) else r.some n fun i f c => if k > f.seen.length then (1, c) else (0, c.with (c.l.set i { f with seen := f.seen.take k.toNat }))
theorem rCut_ok (r : RD) (hr : r.fit) (hc : r.calls ≤ 999999) (n : ByteArray) (m : Int) : ACalls Try.prog 26 [.ptr 0 0, .d (.str n), .d (.int .i64 m)] r.L (fun av L => av = .d (.int .i64 (r.cut n m).1) ∧ L = (r.cut n m).2.L) := by
  have hcf := call_fit hr hc
  have hcl := call_l r
  (refine acalls_go ttOk zOk foOk Try.func26 rfl Try.ntmps26 rfl false rfl ?_); (conv => whnf)
  ((with_reducible refine (name_ok n).mono ?_); rintro _ _ ⟨rfl, rfl⟩; (conv => whnf))
  refine rdw ?_; repeat' ((with_reducible apply tw) <;> intro _)
  · rename_i k1
    rw [RD.cut, if_pos (.inl k1)]
    exact ⟨rfl, rfl⟩
  · rename_i k1 k2
    rw [RD.cut, if_pos (.inr k2)]
    exact ⟨rfl, rfl⟩
  rename_i k1 k0
  rw [RD.cut, if_neg (fun h => h.elim (by rw [k1]; decide) k0)]
  (refine (rCall_ok r hr).mono ?_; rintro _ _ ⟨rfl, rfl⟩; (conv => whnf))
  obtain ⟨kk, hkk⟩ : ∃ kk : Nat → FD → RD → Int × RD, (fun i f c => if m > f.seen.length then (1, c) else (0, c.with (c.l.set i { f with seen := f.seen.take m.toNat }))) = kk := ⟨_, rfl⟩
  rw [hkk]
  obtain ⟨c, hcc⟩ : ∃ c, r.call.2 = c := ⟨_, rfl⟩
  have h9 := some_off (r := r) (n := n) (k := kk)
  have h3 := some_no (r := r) (n := n) (k := kk)
  have h0 := fun i f => some_at (r := r) (n := n) (k := kk) (i := i) (f := f)
  rw [hcc] at hcf hcl h9 h3 h0 ⊢
  rw [← hcl] at h3 h0
  obtain ⟨t, ht⟩ : ∃ t, r.call.1 = t := ⟨_, rfl⟩
  rw [ht] at h9 h3 h0 ⊢
  have hln := hcf.len
  have hfl : (c.l.map FD.cs).length = c.l.length := List.length_map ..
  refine rdw ?_; repeat' ((with_reducible apply tw) <;> intro _)
  · rename_i k2
    rw [h9 k2]
    exact ⟨rfl, rfl⟩
  rename_i k2
  cases hi : idxN n c.l with
  | none =>
    rw [h3 k2 hi]
    (refine (find_none c hcf n hi).mono ?_; rintro _ _ ⟨rfl, rfl⟩; (conv => whnf))
    refine rdw ?_; repeat' ((with_reducible apply tw) <;> intro _)
    · exact ⟨rfl, rfl⟩
  | some i =>
    obtain ⟨f, hf, hfn⟩ := idx_some hi
    have hil := (List.getElem?_eq_some_iff.1 hf).1
    rw [h0 i f k2 hi hf]
    (refine (find_some c hcf n hi).mono ?_; rintro _ _ ⟨rfl, rfl⟩; (conv => whnf))
    refine rdw ?_; repeat' ((with_reducible apply tw) <;> intro _)
    refine ⟨by omega, by rw [hfl]; omega, ?_⟩
    conv => whnf
    refine ⟨_, fds_at hf, ?_⟩
    conv => whnf
    refine rdw ?_; repeat' ((with_reducible apply tw) <;> intro _)
    · rename_i k3
      rw [u8s_length] at k3
      subst hkk
      show _ = AV.d (.int .i64 (if m > (f.seen.length : Int) then ((1, c) : Int × RD) else _).1) ∧ _ = (if m > (f.seen.length : Int) then ((1, c) : Int × RD) else _).2.L
      rw [if_pos k3]
      exact ⟨rfl, rfl⟩
    rename_i k3
    rw [u8s_length] at k3
    have hfs := (hcf.lens f (List.mem_of_getElem? hf)).1
    ((with_reducible refine draw_pl ttOk zOk foOk mixedOk pl26x10 ?_ ?_); (focus kernel_rfl); (conv => whnf))
    refine rdw ?_; repeat' ((with_reducible apply tw) <;> intro _)
    ((with_reducible apply rd_intro); (focus (intro K hK; (conv => whnf); exact ⟨by omega, (by rw [hfl]; omega), hK⟩)); (conv => whnf))
    refine rdw ?_; repeat' ((with_reducible apply tw) <;> intro _)
    ((with_reducible apply rd_intro); (focus (intro K hK; (conv => whnf); exact ⟨_, fds_at hf, hK⟩)); (conv => whnf))
    refine rdw ?_; repeat' ((with_reducible apply tw) <;> intro _)
    have hu : (u8s f.seen).length = f.seen.length := u8s_length _
    ((with_reducible apply rd_intro); (focus (intro K hK; (conv => whnf); exact ⟨by decide, by omega, by omega, hK⟩)); (conv => whnf))
    refine rdw ?_; repeat' ((with_reducible apply tw) <;> intro _)
    rw [show List.drop (Int.toNat 0) ((u8s f.seen).take m.toNat) = u8s (f.seen.take m.toNat) by simp [u8s, List.map_take]]
    (refine (copyBytes_ok (f.seen.take m.toNat) (by rw [List.length_take]; omega)).mono ?_; rintro _ _ ⟨rfl, rfl⟩; (conv => whnf))
    refine rdw ?_; repeat' ((with_reducible apply tw) <;> intro _)
    ((with_reducible apply rd_intro); (focus (intro K hK; (conv => whnf); exact ⟨by omega, (by rw [hfl]; omega), hK⟩)); (conv => whnf))
    refine rdw ?_; repeat' ((with_reducible apply tw) <;> intro _)
    refine ⟨_, fds_at hf, ?_⟩
    conv => whnf
    refine rdw ?_; repeat' ((with_reducible apply tw) <;> intro _)
    subst hkk
    show _ = AV.d (.int .i64 (if m > (f.seen.length : Int) then ((1, c) : Int × RD) else _).1) ∧ _ = (if m > (f.seen.length : Int) then ((1, c) : Int × RD) else _).2.L
    rw [if_neg k3]
    exact ⟨rfl, set_L c i ⟨f.name, f.safe, f.seen.take m.toNat⟩⟩
def RD.remove (r : RD) (n : ByteArray) : Int × RD := if goodS n = false then (1, r) else r.some n fun i _ c => (0, c.with (c.l.eraseIdx i))
theorem rRemove_ok (r : RD) (hr : r.fit) (hc : r.calls ≤ 999999) (n : ByteArray) : ACalls Try.prog 32 [.ptr 0 0, .d (.str n)] r.L (fun av L => av = .d (.int .i64 (r.remove n).1) ∧ (L = (r.remove n).2.L ∨ L = (r.remove n).2.L2)) := by
  have hcf := call_fit hr hc
  have hcl := call_l r
  (refine acalls_go ttOk zOk foOk Try.func32 rfl Try.ntmps32 rfl false rfl ?_); (conv => whnf)
  ((with_reducible refine (name_ok n).mono ?_); rintro _ _ ⟨rfl, rfl⟩; (conv => whnf))
  refine rdw ?_; repeat' ((with_reducible apply tw) <;> intro _)
  · rename_i k1
    rw [RD.remove, if_pos k1]
    exact ⟨rfl, .inl rfl⟩
  rename_i k1
  rw [RD.remove, if_neg (by rw [k1]; decide)]
  (refine (rCall_ok r hr).mono ?_; rintro _ _ ⟨rfl, rfl⟩; (conv => whnf))
  obtain ⟨kk, hkk⟩ : ∃ kk : Nat → FD → RD → Int × RD, (fun i _ c => (0, c.with (c.l.eraseIdx i))) = kk := ⟨_, rfl⟩
  rw [hkk]
  obtain ⟨c, hcc⟩ : ∃ c, r.call.2 = c := ⟨_, rfl⟩
  have h9 := some_off (r := r) (n := n) (k := kk)
  have h3 := some_no (r := r) (n := n) (k := kk)
  have h0 := fun i f => some_at (r := r) (n := n) (k := kk) (i := i) (f := f)
  rw [hcc] at hcf hcl h9 h3 h0 ⊢
  rw [← hcl] at h3 h0
  obtain ⟨t, ht⟩ : ∃ t, r.call.1 = t := ⟨_, rfl⟩
  rw [ht] at h9 h3 h0 ⊢
  have hln := hcf.len
  have hfl : (c.l.map FD.cs).length = c.l.length := List.length_map ..
  refine rdw ?_; repeat' ((with_reducible apply tw) <;> intro _)
  · rename_i k2
    rw [h9 k2]
    exact ⟨rfl, .inl rfl⟩
  rename_i k2
  cases hi : idxN n c.l with
  | none =>
    rw [h3 k2 hi]
    (refine (find_none c hcf n hi).mono ?_; rintro _ _ ⟨rfl, rfl⟩; (conv => whnf))
    refine rdw ?_; repeat' ((with_reducible apply tw) <;> intro _)
    · exact ⟨rfl, .inl rfl⟩
  | some i =>
    obtain ⟨f, hf, hfn⟩ := idx_some hi
    have hil := (List.getElem?_eq_some_iff.1 hf).1
    rw [h0 i f k2 hi hf]
    (refine (find_some c hcf n hi).mono ?_; rintro _ _ ⟨rfl, rfl⟩; (conv => whnf))
    refine rdw ?_; repeat' ((with_reducible apply tw) <;> intro _)
    (refine (drop_ok c hcf i hil).mono ?_; rintro _ _ ⟨rfl, rfl⟩; (conv => whnf))
    refine rdw ?_; repeat' ((with_reducible apply tw) <;> intro _)
    subst hkk
    exact ⟨rfl, .inr rfl⟩
def RD.read (r : RD) (n : ByteArray) : List UInt8 × Int :=
  if goodS n = false then ([], 1) else if r.off = true then ([], 9) else
  match idxN n r.l with
  | none => ([], 3)
  | Option.some i => match r.l[i]? with
    | none => ([], 3)
    | Option.some f => (f.seen, 0)
theorem rRead_ok (r : RD) (hr : r.fit) (n : ByteArray) : ACalls Try.prog 33 [.ptr 0 0, .d (.str n)] r.L (fun av L => av = .tup [.d (.sl 1 (u8s (r.read n).1)), .d (.int .i64 (r.read n).2)] ∧ L = r.L) := by
  have hln := hr.len
  have hfl : (r.l.map FD.cs).length = r.l.length := List.length_map ..
  (refine acalls_go ttOk zOk foOk Try.func33 rfl Try.ntmps33 rfl false rfl ?_); (conv => whnf)
  ((with_reducible refine (name_ok n).mono ?_); rintro _ _ ⟨rfl, rfl⟩; (conv => whnf))
  refine rdw ?_; repeat' ((with_reducible apply tw) <;> intro _)
  · rename_i k1
    rw [RD.read, if_pos k1]
    exact ⟨rfl, rfl⟩
  · rename_i k1 k2
    rw [RD.read, if_neg (by rw [k1]; decide), if_pos k2]
    exact ⟨rfl, rfl⟩
  rename_i k1 k2
  rw [RD.read, if_neg (by rw [k1]; decide), if_neg (by rw [k2]; decide)]
  cases hi : idxN n r.l with
  | none =>
    (refine (find_none r hr n hi).mono ?_; rintro _ _ ⟨rfl, rfl⟩; (conv => whnf))
    refine rdw ?_; repeat' ((with_reducible apply tw) <;> intro _)
    exact ⟨rfl, rfl⟩
  | some i =>
    obtain ⟨f, hf, hfn⟩ := idx_some hi
    have hil := (List.getElem?_eq_some_iff.1 hf).1
    have hfs := (hr.lens f (List.mem_of_getElem? hf)).1
    (refine (find_some r hr n hi).mono ?_; rintro _ _ ⟨rfl, rfl⟩; (conv => whnf))
    refine rdw ?_; repeat' ((with_reducible apply tw) <;> intro _)
    refine ⟨by omega, by rw [hfl]; omega, ?_⟩
    conv => whnf
    refine ⟨_, fds_at hf, ?_⟩
    conv => whnf
    refine rdw ?_; repeat' ((with_reducible apply tw) <;> intro _)
    (refine (copyBytes_ok f.seen (by omega)).mono ?_; rintro _ _ ⟨rfl, rfl⟩; (conv => whnf))
    refine rdw ?_; repeat' ((with_reducible apply tw) <;> intro _)
    show _ = AV.tup [.d (.sl 1 (u8s (match r.l[i]? with | none => (([], 3) : List UInt8 × Int) | Option.some f => (f.seen, 0)).1)), .d (.int .i64 (match r.l[i]? with | none => (([], 3) : List UInt8 × Int) | Option.some f => (f.seen, 0)).2)] ∧ _
    rw [hf]
    exact ⟨rfl, rfl⟩
def RD.list (r : RD) : List ByteArray × Int := if r.off = true then ([], 9) else (r.l.map (·.name), 0)
theorem rList_ok (r : RD) (hr : r.fit) : ACalls Try.prog 35 [.ptr 0 0] r.L (fun av L => av = .tup [.d (.sl 1 (strs r.list.1)), .d (.int .i64 r.list.2)] ∧ L = r.L) := by
  have hln := hr.len
  have hfl : (r.l.map FD.cs).length = r.l.length := List.length_map ..
  (refine acalls_go ttOk zOk foOk Try.func35 rfl Try.ntmps35 rfl false rfl ?_); (conv => whnf)
  refine rdw ?_; repeat' ((with_reducible apply tw) <;> intro _)
  · rename_i k2
    rw [RD.list, if_pos k2]
    exact ⟨rfl, rfl⟩
  rename_i k2
  rw [RD.list, if_neg (by rw [k2]; decide)]
  refine loop_go ttOk zOk foOk (σ := Nat) (fun k => ([(0, .ptr 0 0), (4, .arr 2), (5, .d (.int .i64 k))], r.L ++ [.row 9 1 (strs ((r.l.take k).map (·.name))) false])) (fun k => k ≤ r.l.length) (fun k => r.l.length - k) [0, 4, 5] ?_ ?_
  · conv => whnf
    exact ⟨0, rfl, rfl, Nat.zero_le _⟩
  · rintro k hk
    conv => whnf
    refine rdw ?_; repeat' ((with_reducible apply tw) <;> intro _)
    · rename_i k1
      replace k1 : (k : Int) < ((r.l.map FD.cs).length : Int) := k1
      rw [hfl] at k1
      refine Exists.elim (⟨_, List.getElem?_eq_getElem (by omega)⟩ : ∃ f, r.l[k]? = some f) fun f hf => ?_
      refine ⟨by omega, by rw [hfl]; omega, ?_⟩
      conv => whnf
      refine ⟨_, fds_at hf, ?_⟩
      conv => whnf
      have hkl : (strs (List.map (fun x => x.name) (List.take k r.l))).length ≤ 16 := by rw [strs, List.length_map, List.length_map, List.length_take]; omega
      refine ⟨by show (_ + 1) * 16 ≤ _; omega, ?_⟩
      conv => whnf
      refine rdw ?_; repeat' ((with_reducible apply tw) <;> intro _)
      refine ⟨k + 1, rfl, ?_, by omega, by omega⟩
      rw [List.take_add_one, hf]
      simp [strs, RD.L]
    · rename_i k1
      replace k1 : ¬ (k : Int) < ((r.l.map FD.cs).length : Int) := k1
      rw [hfl] at k1
      rw [List.take_of_length_le (show r.l.length ≤ k by omega)]
      exact ⟨rfl, rfl⟩
def RD.append (r : RD) (n : ByteArray) (b : List UInt8) : Int × RD :=
  if goodS n = false then (1, r) else
  if r.call.1 = false then (9, r.call.2) else
  match idxN n r.l with
  | none => if b.length > 1048576 then (2, r.call.2) else if r.l.length = 16 then (8, r.call.2) else (0, r.call.2.with (insN ⟨n, [], b⟩ r.l (putK n r.l)))
  | Option.some i => match r.l[i]? with
    | none => (3, r.call.2)
    | Option.some f => if b.length > 1048576 - f.seen.length then (2, r.call.2) else (0, r.call.2.with (r.l.set i { f with seen := f.seen ++ b }))
theorem set_L2 (c : RD) (i : Nat) (g : FD) : [AB.cells [.arr 2, .d (.int .i64 c.calls), .d (.int .i64 c.left), .d (.bool c.off)], .dead, AB.row 66 3 ((c.l.map FD.cs).set ((i : Int)).toNat g.cs) false] = (c.with (c.l.set i g)).L2 := by
  rw [Int.toNat_natCast, ← List.map_set]
  rfl
theorem ins_get (f : FD) (l : List FD) (k : Nat) (hk : k ≤ l.length) : (insN f l k)[k]? = some f := by
  rw [insN, List.getElem?_append_right (by rw [List.length_take]; omega), List.length_take, show k - min k l.length = 0 by omega]
  rfl
theorem ins_set (f g : FD) (l : List FD) (k : Nat) (hk : k ≤ l.length) : (insN f l k).set k g = insN g l k := by
  rw [insN, insN, List.set_append_right _ _ (by rw [List.length_take]; omega), List.length_take, show k - min k l.length = 0 by omega]
  rfl
theorem ins_length (f : FD) (l : List FD) (k : Nat) (hk : k ≤ l.length) : (insN f l k).length = l.length + 1 := by
  rw [insN, List.length_append, List.length_cons, List.length_take, List.length_drop]
  omega
theorem rAppend_ok (r : RD) (hr : r.fit) (hc : r.calls ≤ 999999) (n : ByteArray) (b : List UInt8) (hb : b.length ≤ 140737488355328) : ACalls Try.prog 43 [.ptr 0 0, .d (.str n), .d (.sl 1 (u8s b))] r.L (fun av L => av = .d (.int .i64 (r.append n b).1) ∧ (L = (r.append n b).2.L ∨ L = (r.append n b).2.L2)) := by
  have hcf := call_fit hr hc
  have hcl := call_l r
  have hbl : (u8s b).length = b.length := u8s_length _
  (refine acalls_go ttOk zOk foOk Try.func43 rfl Try.ntmps43 rfl false rfl ?_); (conv => whnf)
  ((with_reducible refine (name_ok n).mono ?_); rintro _ _ ⟨rfl, rfl⟩; (conv => whnf))
  refine rdw ?_; repeat' ((with_reducible apply tw) <;> intro _)
  · rename_i k1
    rw [RD.append, if_pos k1]
    exact ⟨rfl, .inl rfl⟩
  rename_i k1
  rw [RD.append, if_neg (by rw [k1]; decide)]
  (refine (rCall_ok r hr).mono ?_; rintro _ _ ⟨rfl, rfl⟩; (conv => whnf))
  obtain ⟨c, hcc⟩ : ∃ c, r.call.2 = c := ⟨_, rfl⟩
  rw [hcc] at hcf hcl ⊢
  rw [← hcl]
  obtain ⟨t, ht⟩ : ∃ t, r.call.1 = t := ⟨_, rfl⟩
  rw [ht]
  have hln := hcf.len
  have hfl : (c.l.map FD.cs).length = c.l.length := List.length_map ..
  refine rdw ?_; repeat' ((with_reducible apply tw) <;> intro _)
  · rename_i k2
    rw [if_pos k2]
    exact ⟨rfl, .inl rfl⟩
  rename_i k2
  rw [if_neg (by rw [k2]; decide)]
  cases hi : idxN n c.l with
  | none =>
    (refine (find_none c hcf n hi).mono ?_; rintro _ _ ⟨rfl, rfl⟩; (conv => whnf))
    refine rdw ?_; repeat' ((with_reducible apply tw) <;> intro _)
    · rename_i k3
      show _ = AV.d (.int .i64 (if b.length > 1048576 then ((2, c) : Int × RD) else _).1) ∧ (_ = (if b.length > 1048576 then ((2, c) : Int × RD) else _).2.L ∨ _)
      rw [if_pos (by omega)]
      exact ⟨rfl, .inl rfl⟩
    · rename_i k3 k4
      have k5 : c.l.length = 16 := by
        have k4 : ((c.l.map FD.cs).length : Int) = 16 := k4
        rw [hfl] at k4; omega
      show _ = AV.d (.int .i64 (if b.length > 1048576 then ((2, c) : Int × RD) else if c.l.length = 16 then ((8, c) : Int × RD) else _).1) ∧ (_ = (if b.length > 1048576 then ((2, c) : Int × RD) else if c.l.length = 16 then ((8, c) : Int × RD) else _).2.L ∨ _)
      rw [if_neg (by omega), if_pos k5]
      exact ⟨rfl, .inl rfl⟩
    · rename_i k3 k4
      have k5 : ¬ c.l.length = 16 := by
        have k4 : ¬ ((c.l.map FD.cs).length : Int) = 16 := k4
        rw [hfl] at k4; omega
      have hput := acalls_nw (put_ok c hcf ⟨n, [], []⟩) (.cons (.refl _) (.cons (.agg (.cons (.refl _) (.cons (.nils 1 (by decide)) (.cons (.nils 1 (by decide)) .nil)))) .nil))
      obtain ⟨m, hm⟩ : ∃ m, putK n c.l = m := ⟨_, rfl⟩
      have hmk : m ≤ c.l.length := by rw [← hm]; exact putK_le _ _
      rw [show putK (FD.mk n [] []).name c.l = m from hm] at hput
      have hil := ins_length ⟨n, [], []⟩ c.l m hmk
      have hget := ins_get ⟨n, [], []⟩ c.l m hmk
      obtain ⟨l2, hl2⟩ : ∃ l2, insN ⟨n, [], []⟩ c.l m = l2 := ⟨_, rfl⟩
      rw [hl2] at hput hil hget
      have hfl2 : ((c.with l2).l.map FD.cs).length = l2.length := List.length_map ..
      (refine (hput).mono ?_; rintro _ _ ⟨rfl, rfl⟩; (conv => whnf))
      refine rdw ?_; repeat' ((with_reducible apply tw) <;> intro _)
      ((with_reducible refine draw_pl ttOk zOk foOk mixedOk pl43x15 ?_ ?_); (focus kernel_rfl); (conv => whnf))
      refine rdw ?_; repeat' ((with_reducible apply tw) <;> intro _)
      ((with_reducible apply rd_intro); (focus (intro K hK; (conv => whnf); exact ⟨by omega, (by rw [hfl2]; omega), hK⟩)); (conv => whnf))
      refine rdw ?_; repeat' ((with_reducible apply tw) <;> intro _)
      ((with_reducible apply rd_intro); (focus (intro K hK; (conv => whnf); exact ⟨_, fds_at hget, hK⟩)); (conv => whnf))
      refine rdw ?_; repeat' ((with_reducible apply tw) <;> intro _)
      (refine (copyBytes_row [] (by decide)).mono ?_; rintro _ _ ⟨rfl, rfl⟩; (conv => whnf))
      refine rdw ?_; repeat' ((with_reducible apply tw) <;> intro _)
      refine ⟨by rw [show (u8s ([] : List UInt8)).length = 0 from rfl, hbl]; show (0 + _) * 1 ≤ _; omega, ?_⟩
      conv => whnf
      refine rdw ?_; repeat' ((with_reducible apply tw) <;> intro _)
      ((with_reducible apply rd_intro); (focus (intro K hK; (conv => whnf); exact ⟨by omega, (by rw [hfl2]; omega), hK⟩)); (conv => whnf))
      refine rdw ?_; repeat' ((with_reducible apply tw) <;> intro _)
      refine ⟨_, fds_at hget, ?_⟩
      conv => whnf
      refine rdw ?_; repeat' ((with_reducible apply tw) <;> intro _)
      have hdo : (if b.length > 1048576 then ((2, c) : Int × RD) else if c.l.length = 16 then ((8, c) : Int × RD) else (0, c.with (insN ⟨n, [], b⟩ c.l (putK n c.l)))) = (0, c.with (insN ⟨n, [], b⟩ c.l m)) := by
        rw [if_neg (by omega), if_neg k5, hm]
      show _ = AV.d (.int .i64 (if b.length > 1048576 then ((2, c) : Int × RD) else if c.l.length = 16 then ((8, c) : Int × RD) else (0, c.with (insN ⟨n, [], b⟩ c.l (putK n c.l)))).1) ∧ (_ ∨ _ = (if b.length > 1048576 then ((2, c) : Int × RD) else if c.l.length = 16 then ((8, c) : Int × RD) else (0, c.with (insN ⟨n, [], b⟩ c.l (putK n c.l)))).2.L2)
      rw [hdo]
      refine ⟨rfl, .inr ?_⟩
      rw [← ins_set ⟨n, [], []⟩ ⟨n, [], b⟩ c.l m hmk, hl2]
      exact set_L2 (c.with l2) m ⟨n, [], b⟩
  | some i =>
    obtain ⟨f, hf, hfn⟩ := idx_some hi
    have hil := (List.getElem?_eq_some_iff.1 hf).1
    have hfs := (hcf.lens f (List.mem_of_getElem? hf)).1
    (refine (find_some c hcf n hi).mono ?_; rintro _ _ ⟨rfl, rfl⟩; (conv => whnf))
    refine rdw ?_; repeat' ((with_reducible apply tw) <;> intro _)
    refine ⟨by omega, by rw [hfl]; omega, ?_⟩
    conv => whnf
    refine ⟨_, fds_at hf, ?_⟩
    conv => whnf
    have hu : (u8s f.seen).length = f.seen.length := u8s_length _
    refine rdw ?_; repeat' ((with_reducible apply tw) <;> intro _)
    · rename_i k3
      show _ = AV.d (.int .i64 (match c.l[i]? with | none => ((3, c) : Int × RD) | Option.some f => if b.length > 1048576 - f.seen.length then ((2, c) : Int × RD) else _).1) ∧ (_ = (match c.l[i]? with | none => ((3, c) : Int × RD) | Option.some f => if b.length > 1048576 - f.seen.length then ((2, c) : Int × RD) else _).2.L ∨ _)
      rw [hf]
      show _ = AV.d (.int .i64 (if b.length > 1048576 - f.seen.length then ((2, c) : Int × RD) else _).1) ∧ (_ = (if b.length > 1048576 - f.seen.length then ((2, c) : Int × RD) else _).2.L ∨ _)
      rw [if_pos (by omega)]
      exact ⟨rfl, .inl rfl⟩
    rename_i k3
    ((with_reducible refine draw_pl ttOk zOk foOk mixedOk pl43x15 ?_ ?_); (focus kernel_rfl); (conv => whnf))
    refine rdw ?_; repeat' ((with_reducible apply tw) <;> intro _)
    ((with_reducible apply rd_intro); (focus (intro K hK; (conv => whnf); exact ⟨by omega, (by rw [hfl]; omega), hK⟩)); (conv => whnf))
    refine rdw ?_; repeat' ((with_reducible apply tw) <;> intro _)
    ((with_reducible apply rd_intro); (focus (intro K hK; (conv => whnf); exact ⟨_, fds_at hf, hK⟩)); (conv => whnf))
    refine rdw ?_; repeat' ((with_reducible apply tw) <;> intro _)
    (refine (copyBytes_row f.seen (by omega)).mono ?_; rintro _ _ ⟨rfl, rfl⟩; (conv => whnf))
    refine rdw ?_; repeat' ((with_reducible apply tw) <;> intro _)
    refine ⟨by rw [hbl]; show (_ + _) * 1 ≤ _; omega, ?_⟩
    conv => whnf
    refine rdw ?_; repeat' ((with_reducible apply tw) <;> intro _)
    ((with_reducible apply rd_intro); (focus (intro K hK; (conv => whnf); exact ⟨by omega, (by rw [hfl]; omega), hK⟩)); (conv => whnf))
    refine rdw ?_; repeat' ((with_reducible apply tw) <;> intro _)
    refine ⟨_, fds_at hf, ?_⟩
    conv => whnf
    refine rdw ?_; repeat' ((with_reducible apply tw) <;> intro _)
    have hdo : (match c.l[i]? with | none => ((3, c) : Int × RD) | Option.some f => if b.length > 1048576 - f.seen.length then ((2, c) : Int × RD) else (0, c.with (c.l.set i { f with seen := f.seen ++ b }))) = (0, c.with (c.l.set i { f with seen := f.seen ++ b })) := by
      rw [hf]
      exact if_neg (by omega)
    show _ = AV.d (.int .i64 (match c.l[i]? with | none => ((3, c) : Int × RD) | Option.some f => if b.length > 1048576 - f.seen.length then ((2, c) : Int × RD) else (0, c.with (c.l.set i { f with seen := f.seen ++ b }))).1) ∧ (_ = (match c.l[i]? with | none => ((3, c) : Int × RD) | Option.some f => if b.length > 1048576 - f.seen.length then ((2, c) : Int × RD) else (0, c.with (c.l.set i { f with seen := f.seen ++ b }))).2.L ∨ _)
    rw [hdo]
    refine ⟨rfl, .inl ?_⟩
    rw [← set_L c i { f with seen := f.seen ++ b }]
    simp only [FD.cs, u8s, List.map_append]
theorem rMod_ok (p n : Int) (hn : 0 < n) (hn2 : n ≤ 4611686018427387904) (hp : -9223372036854775808 ≤ p ∧ p < 9223372036854775808) : ACalls Try.prog 55 [.d (.int .i64 p), .d (.int .i64 n)] [] (fun av L => av = .d (.int .i64 (p % n)) ∧ L = []) := by
  (refine acalls_go ttOk zOk foOk Try.func55 rfl Try.ntmps55 rfl false rfl ?_); (conv => whnf)
  have hl := tmod_in p n hn
  refine ⟨by omega, ?_⟩
  conv => whnf
  intro z hz
  conv => whnf
  subst hz
  refine rdw ?_; repeat' ((with_reducible apply tw) <;> intro _)
  · refine ⟨?_, rfl⟩
    rcases hl with hl | hl
    · omega
    · rw [hl.2.2.1]
  · refine ⟨?_, rfl⟩
    rcases hl with hl | hl
    · rw [hl.2.1]
    · omega
theorem rDiv_ok (p n : Int) (hn : 0 < n) (hn2 : n ≤ 4611686018427387904) (hp : -9223372036854775808 ≤ p ∧ p < 9223372036854775808) : ACalls Try.prog 57 [.d (.int .i64 p), .d (.int .i64 n)] [] (fun av L => av = .d (.int .i64 (p / n)) ∧ L = []) := by
  (refine acalls_go ttOk zOk foOk Try.func57 rfl Try.ntmps57 rfl false rfl ?_); (conv => whnf)
  have hl := tmod_in p n hn
  have hq := tdiv_in p n hn hp
  refine ⟨by omega, ?_⟩
  conv => whnf
  intro z hz
  conv => whnf
  subst hz
  refine rdw ?_; repeat' ((with_reducible apply tw) <;> intro _)
  · rename_i k1
    refine ⟨by omega, fun z hz => ?_⟩
    conv => whnf
    intro z2 hz2
    conv => whnf
    refine ⟨?_, rfl⟩
    rw [hz2, hz, show IntKind.i64.wrap (p.tdiv n) = p.tdiv n from wrapI hq]
    rcases hl with hl | hl
    · omega
    · rw [show IntKind.i64.wrap (p.tdiv n - 1) = p.tdiv n - 1 from wrapI (by have := Int.le_ediv_of_mul_le (a := -9223372036854775808) (b := p) hn (by omega); omega), hl.2.2.2]
  · rename_i k1
    refine ⟨by omega, fun z hz => ?_⟩
    conv => whnf
    refine ⟨?_, rfl⟩
    rw [hz, show IntKind.i64.wrap (p.tdiv n) = p.tdiv n from wrapI hq]
    rcases hl with hl | hl
    · rw [hl.2.2.1]
    · omega
def tornB (safe seen : List UInt8) (n : Int) (i : Nat) : UInt8 := if (i : Int) < n then seen.getD i 0 else safe.getD i 0
def tornU (safe seen : List UInt8) (n : Int) (k : Nat) : List UInt8 := (List.range k).map (tornB safe seen n)
theorem tornU_succ (safe seen : List UInt8) (n : Int) (k : Nat) : tornU safe seen n (k + 1) = tornU safe seen n k ++ [tornB safe seen n k] := by rw [tornU, List.range_succ, List.map_append]; rfl
theorem pad_get (m : Nat) (l : List UInt8) (i : Nat) (h : i < max m l.length) : (padTo m l)[i]? = some (l.getD i 0) := by
  unfold padTo
  rcases Nat.lt_or_ge i l.length with h1 | h1
  · rw [List.getElem?_append_left h1, List.getD_eq_getElem?_getD, List.getElem?_eq_getElem h1]; rfl
  · rw [List.getElem?_append_right h1, List.getElem?_replicate, if_pos (by omega), List.getD_eq_getElem?_getD, List.getElem?_eq_none h1]; rfl
theorem tornU_all (safe seen : List UInt8) (p : Int) : tornU safe seen (p % (((max safe.length seen.length + 31) / 32 : Nat) + 1 : Int) * 32) seen.length = tornL safe seen p := by
  have h0 := Int.emod_nonneg p (show (((max safe.length seen.length + 31) / 32 : Nat) : Int) + 1 ≠ 0 by omega)
  have hN : tornN safe seen p = min ((p % (((max safe.length seen.length + 31) / 32 : Nat) + 1 : Int)).toNat * 32) (max safe.length seen.length) := rfl
  unfold tornL
  generalize p % (((max safe.length seen.length + 31) / 32 : Nat) + 1 : Int) = md at *
  generalize tornN safe seen p = nt at *
  have hl1 : (padTo (max safe.length seen.length) seen).length = max safe.length seen.length := pad_length (by omega)
  have hl2 : (padTo (max safe.length seen.length) safe).length = max safe.length seen.length := pad_length (by omega)
  apply List.ext_getElem?
  intro i
  rw [tornU, List.getElem?_map, List.getElem?_take]
  rcases Nat.lt_or_ge i seen.length with h | h
  · rw [if_pos h, List.getElem?_range h]
    show some (tornB safe seen (md * 32) i) = _
    unfold tornB
    by_cases h2 : (i : Int) < md * 32
    · rw [if_pos h2, List.getElem?_append_left (by rw [List.length_take, hl1]; omega), List.getElem?_take, if_pos (by omega), pad_get _ _ _ (by omega)]
    · rw [if_neg h2, List.getElem?_append_right (by rw [List.length_take, hl1]; omega), List.length_take, hl1, List.getElem?_drop, show nt + (i - min nt (max safe.length seen.length)) = i by omega, pad_get _ _ _ (by omega)]
  · rw [if_neg (by omega), List.getElem?_eq_none (by rw [List.length_range]; exact h)]
    rfl
theorem rTorn_ok (f : FD) (h1 : f.safe.length ≤ 1048576) (h2 : f.seen.length ≤ 1048576) (p : Int) (hp : -9223372036854775808 ≤ p ∧ p < 9223372036854775808) :
    ACalls Try.prog 56 [.agg [.d (.str f.name), .d (.sl 1 (u8s f.safe)), .d (.sl 1 (u8s f.seen))], .d (.int .i64 p)] [] (fun av L => av = .d (.sl 1 (u8s (tornL f.safe f.seen p))) ∧ L = []) := by
  have hu1 := u8s_length f.safe
  have hu2 := u8s_length f.seen
  rw [← tornU_all]
  (refine acalls_go ttOk zOk foOk Try.func56 rfl Try.ntmps56 rfl false rfl ?_); (conv => whnf)
  refine rdw ?_; repeat' ((with_reducible apply tw) <;> intro _)
  rw [hu1, hu2, show max ((f.safe.length : Nat) : Int) ((f.seen.length : Nat) : Int) = ((max f.safe.length f.seen.length : Nat) : Int) by omega]
  have hml : max f.safe.length f.seen.length ≤ 1048576 := by omega
  generalize hlg : max f.safe.length f.seen.length = lg at *
  refine rdw ?_; repeat' ((with_reducible apply tw) <;> intro _)
  refine ⟨by decide, ?_⟩
  intro z hz
  have hz' : z = ((lg + 31) / 32 : Nat) := by
    rw [hz, wrapI (by rw [Int.tdiv_eq_ediv_of_nonneg (by omega)]; omega), Int.tdiv_eq_ediv_of_nonneg (by omega)]; omega
  clear hz
  subst hz'
  conv => whnf
  refine rdw ?_; repeat' ((with_reducible apply tw) <;> intro _)
  have hm0 := Int.emod_nonneg p (show (((lg + 31) / 32 : Nat) : Int) + 1 ≠ 0 by omega)
  have hmk := Int.emod_lt_of_pos p (show (0 : Int) < (((lg + 31) / 32 : Nat) : Int) + 1 by omega)
  (refine (rMod_ok p ((((lg + 31) / 32 : Nat) : Int) + 1) (by omega) (by omega) hp).mono ?_; rintro _ _ ⟨rfl, rfl⟩; (conv => whnf))
  generalize p % ((((lg + 31) / 32 : Nat) : Int) + 1) = md at *
  refine rdw ?_; repeat' ((with_reducible apply tw) <;> intro _)
  refine loop_go ttOk zOk foOk (σ := Nat) (fun k => ([(2, .ptr 0 0), (7, .d (.int .i64 (md * 32))), (8, .arr 1), (9, .d (.int .i64 k))], [.cells [.d (.str f.name), .d (.sl 1 (u8s f.safe)), .d (.sl 1 (u8s f.seen))], .row 5 1 (u8s (tornU f.safe f.seen (md * 32) k)) false])) (fun k => k ≤ f.seen.length) (fun k => f.seen.length - k) [2, 7, 8, 9] ?_ ?_
  · conv => whnf
    exact ⟨0, rfl, rfl, Nat.zero_le _⟩
  · rintro k hk
    have hul : (u8s (tornU f.safe f.seen (md * 32) k)).length = k := by rw [u8s_length, tornU, List.length_map, List.length_range]
    have hsucc : ∀ x : UInt8, tornB f.safe f.seen (md * 32) k = x → u8s (tornU f.safe f.seen (md * 32) (k + 1)) = u8s (tornU f.safe f.seen (md * 32) k) ++ [[.int .u8 x.toNat]] := fun x hx => by
      rw [tornU_succ, hx, u8s, List.map_append]; rfl
    conv => whnf
    refine rdw ?_; repeat' ((with_reducible apply tw) <;> intro _)
    · rename_i k1 k2
      obtain ⟨a, ha⟩ : ∃ a, f.seen[k]? = some a := ⟨_, List.getElem?_eq_getElem (by omega)⟩
      have hb : tornB f.safe f.seen (md * 32) k = a := by rw [tornB, if_pos k2, List.getD_eq_getElem?_getD, ha]; rfl
      ((with_reducible refine ix_u8 ha ?_ ?_); (focus (first | rfl | omega)); (conv => whnf))
      refine ⟨by rw [hul]; show (k + 1) * 1 ≤ _; omega, ?_⟩
      conv => whnf
      refine rdw ?_; repeat' ((with_reducible apply tw) <;> intro _)
      exact ⟨k + 1, rfl, by rw [hsucc a hb], by omega, by omega⟩
    · rename_i k1 k2 k3
      obtain ⟨a, ha⟩ : ∃ a, f.safe[k]? = some a := ⟨_, List.getElem?_eq_getElem (by omega)⟩
      have hb : tornB f.safe f.seen (md * 32) k = a := by rw [tornB, if_neg k2, List.getD_eq_getElem?_getD, ha]; rfl
      ((with_reducible refine ix_u8 ha ?_ ?_); (focus (first | rfl | omega)); (conv => whnf))
      refine ⟨by rw [hul]; show (k + 1) * 1 ≤ _; omega, ?_⟩
      conv => whnf
      refine rdw ?_; repeat' ((with_reducible apply tw) <;> intro _)
      exact ⟨k + 1, rfl, by rw [hsucc a hb], by omega, by omega⟩
    · rename_i k1 k2 k3
      have hb : tornB f.safe f.seen (md * 32) k = 0 := by rw [tornB, if_neg k2, List.getD_eq_getElem?_getD, List.getElem?_eq_none (by omega)]; rfl
      refine ⟨by rw [hul]; show (k + 1) * 1 ≤ _; omega, ?_⟩
      conv => whnf
      refine rdw ?_; repeat' ((with_reducible apply tw) <;> intro _)
      exact ⟨k + 1, rfl, by rw [hsucc 0 hb]; rfl, by omega, by omega⟩
    · rename_i k1
      obtain rfl : k = f.seen.length := by omega
      exact ⟨rfl, rfl⟩
theorem rMay_ok (files : List FileS) (hl : files.length ≤ 140737488355328) : ACalls Try.prog 8 [.d (.sl 2 (files.map FileS.cs))] [] (fun av L => av = .d (.bool (mayNew files)) ∧ L = []) := by
  have hfl : (files.map FileS.cs).length = files.length := List.length_map ..
  (refine acalls_go ttOk zOk foOk Try.func8 rfl Try.ntmps8 rfl false rfl ?_); (conv => whnf)
  refine rdw ?_; repeat' ((with_reducible apply tw) <;> intro _)
  · rename_i k1
    have : mayNew files = false := by unfold mayNew; rw [decide_eq_false (show ¬ files.length ≤ 16 by omega)]; simp
    rw [this]
    exact ⟨rfl, rfl⟩
  rename_i k0
  refine loop_go ttOk zOk foOk (σ := Nat) (fun k => ([(0, .d (.sl 2 (files.map FileS.cs))), (3, .d (.int .i64 k))], [])) (fun k => k ≤ files.length ∧ ∀ i, i < k → mayAt files i = true) (fun k => files.length - k) [0, 3] ?_ ?_
  · conv => whnf
    exact ⟨0, rfl, rfl, Nat.zero_le _, fun i h => by omega⟩
  · rintro k ⟨hk, hm⟩
    conv => whnf
    refine rdw ?_; repeat' ((with_reducible apply tw) <;> intro _)
    · rename_i k1
      have hkl : k < files.length := by omega
      obtain ⟨f, hff⟩ : ∃ f, files[k]? = some f := ⟨_, List.getElem?_eq_getElem hkl⟩
      have hma := mayAt_eq hff
      have hno : mayAt files k = false → mayNew files = false := fun h => by
        unfold mayNew
        rw [Bool.and_eq_false_iff]
        refine .inl (List.all_eq_false.2 ⟨k, by simpa using hkl, by rw [h]; decide⟩)
      ((with_reducible refine draw_pl ttOk zOk foOk mixedOk pl8x6 ?_ ?_); (focus kernel_rfl); (conv => whnf))
      refine rdw ?_; repeat' ((with_reducible apply tw) <;> intro _)
      ((with_reducible apply rd_intro); (focus (intro K hK; (conv => whnf); exact ix_map hff (by first | rfl | omega) hK)); (conv => whnf))
      refine rdw ?_; repeat' ((with_reducible apply tw) <;> intro _)
      (refine (name_ok f.name).mono ?_; rintro _ _ ⟨rfl, rfl⟩; (conv => whnf))
      refine rdw ?_; repeat' ((with_reducible apply tw) <;> intro _)
      · rw [hno (by rw [hma]; simp [*])]
        exact ⟨rfl, rfl⟩
      ((with_reducible apply rd_intro); (focus (intro K hK; (conv => whnf); exact ix_map hff (by first | rfl | omega) hK)); (conv => whnf))
      refine rdw ?_; repeat' ((with_reducible apply tw) <;> intro _)
      · rename_i g1 g2
        rw [u8s_length] at g2
        rw [hno (by rw [hma, decide_eq_false (show ¬ f.data.length ≤ 1048576 by omega)]; simp)]
        exact ⟨rfl, rfl⟩
      · rename_i g1 g2 g3
        rw [u8s_length] at g2
        obtain ⟨g, hgg⟩ : ∃ g, files[k - 1]? = some g := ⟨_, List.getElem?_eq_getElem (by omega)⟩
        rw [prevLess_eq hgg, g1, decide_eq_true (show f.data.length ≤ 1048576 by omega), decide_eq_false (show ¬ k = 0 by omega)] at hma
        ((with_reducible apply rd_intro); (focus (intro K hK; (conv => whnf); exact ix_map hgg (by first | rfl | omega) hK)); (conv => whnf))
        refine rdw ?_; repeat' ((with_reducible apply tw) <;> intro _)
        ((with_reducible apply rd_intro); (focus (intro K hK; (conv => whnf); exact ix_map hff (by first | rfl | omega) hK)); (conv => whnf))
        refine rdw ?_; repeat' ((with_reducible apply tw) <;> intro _)
        · rename_i g4
          rw [hno (by rw [hma]; simpa [lessS] using g4)]
          exact ⟨rfl, rfl⟩
        · rename_i g4
          have hmk : mayAt files k = true := by rw [hma]; simpa [lessS] using g4
          exact ⟨k + 1, rfl, rfl, ⟨by omega, fun i hi => by rcases Nat.lt_or_ge i k with h | h; exact hm i h; rw [show i = k by omega]; exact hmk⟩, by omega⟩
      · rename_i g1 g2 g3
        rw [u8s_length] at g2
        have hmk : mayAt files k = true := by rw [hma, g1, decide_eq_true (show f.data.length ≤ 1048576 by omega), decide_eq_true (show k = 0 by omega)]; rfl
        exact ⟨k + 1, rfl, rfl, ⟨by omega, fun i hi => by rcases Nat.lt_or_ge i k with h | h; exact hm i h; rw [show i = k by omega]; exact hmk⟩, by omega⟩
    · rename_i k1
      obtain rfl : k = files.length := by omega
      have : mayNew files = true := by
        unfold mayNew
        rw [decide_eq_true (show files.length ≤ 16 by omega), Bool.and_true, List.all_eq_true]
        intro i hi
        exact hm i (by simpa using hi)
      rw [this]
      exact ⟨rfl, rfl⟩
def FileS.fd (f : FileS) : FD := ⟨f.name, f.data, f.data⟩
def newR (files : List FileS) : RD := ⟨files.map FileS.fd, 0, -1, false⟩
theorem rNew_ok (files : List FileS) (hl : files.length ≤ 16) (hm : ∀ f ∈ files, f.data.length ≤ 1048576) : ACalls Try.prog 11 [.d (.sl 2 (files.map FileS.cs))] [] (fun av L => av = .ptr 0 0 ∧ L = (newR files).L) := by
  have hfl : (files.map FileS.cs).length = files.length := List.length_map ..
  (refine acalls_go ttOk zOk foOk Try.func11 rfl Try.ntmps11 rfl false rfl ?_); (conv => whnf)
  refine loop_go ttOk zOk foOk (σ := Nat) (fun k => ([(0, .d (.sl 2 (files.map FileS.cs))), (3, .ptr 0 0), (4, .d (.int .i64 k))], (newR (files.take k)).L)) (fun k => k ≤ files.length) (fun k => files.length - k) [0, 3, 4] ?_ ?_
  · conv => whnf
    exact ⟨0, rfl, rfl, Nat.zero_le _⟩
  · rintro k hk
    conv => whnf
    refine rdw ?_; repeat' ((with_reducible apply tw) <;> intro _)
    · rename_i k1
      rw [hfl] at k1
      obtain ⟨f, hff⟩ : ∃ f, files[k]? = some f := ⟨_, List.getElem?_eq_getElem (by omega)⟩
      ((with_reducible refine ix_map hff ?_ ?_); (focus (first | rfl | omega)); (conv => whnf))
      (refine (copyBytes_ok f.data (by have := hm f (List.mem_of_getElem? hff); omega)).mono ?_; rintro _ _ ⟨rfl, rfl⟩; (conv => whnf))
      ((with_reducible refine draw_pl ttOk zOk foOk mixedOk pl11x6 ?_ ?_); (focus kernel_rfl); (conv => whnf))
      refine rdw ?_; repeat' ((with_reducible apply tw) <;> intro _)
      ((with_reducible apply rd_intro); (focus (intro K hK; (conv => whnf); exact ix_map hff (by first | rfl | omega) hK)); (conv => whnf))
      refine rdw ?_; repeat' ((with_reducible apply tw) <;> intro _)
      have hkl : (List.map FD.cs (newR (List.take k files)).l).length = k := by rw [List.length_map, newR, List.length_map, List.length_take]; omega
      refine ⟨by rw [hkl]; show (k + 1) * 64 ≤ _; omega, ?_⟩
      conv => whnf
      refine rdw ?_; repeat' ((with_reducible apply tw) <;> intro _)
      refine ⟨k + 1, rfl, ?_, by omega, by omega⟩
      rw [List.take_add_one, hff]
      simp only [RD.L, newR, Option.toList_some, List.map_append]
      rfl
    · rename_i k1
      rw [hfl] at k1
      obtain rfl : k = files.length := by omega
      rw [List.take_length]
      exact ⟨rfl, rfl⟩
theorem tail_drop {x : Int} {picks : List Int} {a : Nat} (h : picks[a]? = some x) : picks.drop a = x :: picks.drop (a + 1) := by
  obtain ⟨h1, rfl⟩ := List.getElem?_eq_some_iff.1 h
  exact List.drop_eq_getElem_cons h1
theorem nums_at {picks : List Int} {a : Nat} {x : Int} (h : picks[a]? = some x) : (nums picks)[(a : Int).toNat]? = some [.int .i64 x] := by rw [Int.toNat_natCast, nums, List.getElem?_map, h]; rfl
theorem crash_next {r : RD} {picks : List Int} {k a' : Nat} {f : FD} {bb : List UInt8} {ps : List Int} (hsu : crashAt r.l picks (k + 1) = ((crashAt r.l picks k).1 ++ [⟨f.name, (stepC f ps).1⟩], (stepC f ps).2)) (hst : stepC f ps = (bb, picks.drop a')) :
    (crashAt r.l picks (k + 1)).2 = picks.drop a' ∧ (crashAt r.l picks (k + 1)).1.map FileS.cs = (crashAt r.l picks k).1.map FileS.cs ++ [[.str f.name, .sl 1 (u8s bb)]] := by
  rw [hsu, hst]
  exact ⟨rfl, by rw [List.map_append]; rfl⟩
theorem rCrash_ok (r : RD) (hr : r.fit) (picks : List Int) (hp : ∀ k ∈ picks, -9223372036854775808 ≤ k ∧ k < 9223372036854775808) (hpl : picks.length ≤ 140737488355328) :
    ACalls Try.prog 40 [.ptr 0 0, .d (.sl 1 (nums picks))] r.L (fun av L => av = .d (.sl 2 ((crashAt r.l picks r.l.length).1.map FileS.cs)) ∧ L = r.L) := by
  have hln := hr.len
  have hfl : (r.l.map FD.cs).length = r.l.length := List.length_map ..
  have hnl : (nums picks).length = picks.length := by simp [nums]
  (refine acalls_go ttOk zOk foOk Try.func40 rfl Try.ntmps40 rfl false rfl ?_); (conv => whnf)
  refine loop_go2 ttOk zOk foOk (σ := Nat) (ρ := Nat) (fun k a => ([(0, .ptr 0 0), (1, .d (.sl 1 (nums picks))), (5, .arr 2), (6, .d (.int .i64 a)), (7, .d (.int .i64 k))], r.L ++ [.row 50 2 ((crashAt r.l picks k).1.map FileS.cs) false]))
    (fun k a => k ≤ r.l.length ∧ a ≤ k ∧ (crashAt r.l picks k).2 = picks.drop a) (fun k _ => r.l.length - k) [0, 1, 5, 6, 7] ?_ ?_
  · conv => whnf
    exact ⟨0, 0, rfl, rfl, ⟨by omega, by omega, rfl⟩⟩
  · rintro k a ⟨hk, hak, hps⟩
    conv => whnf
    refine rdw ?_; repeat' ((with_reducible apply tw) <;> intro _)
    · rename_i k1
      replace k1 : (k : Int) < ((r.l.map FD.cs).length : Int) := k1
      rw [hfl] at k1
      refine Exists.elim (⟨_, List.getElem?_eq_getElem (by omega)⟩ : ∃ f, r.l[k]? = some f) fun f hf => ?_
      have hfb := hr.lens f (List.mem_of_getElem? hf)
      have hcl := crash_length (fs := r.l) (picks := picks) (show k ≤ r.l.length by omega)
      have hfc : ((crashAt r.l picks k).1.map FileS.cs).length = k := by rw [List.length_map, hcl]
      have hsu := crashAt_succ (picks := picks) hf
      rw [hps] at hsu
      refine ⟨by omega, by rw [hfl]; omega, ?_⟩
      conv => whnf
      refine ⟨_, fds_at hf, ?_⟩
      conv => whnf
      refine rdw ?_; repeat' ((with_reducible apply tw) <;> intro _)
      (refine (eqBytes_ok f.safe f.seen (by omega)).mono ?_; rintro _ _ ⟨rfl, rfl⟩; (conv => whnf))
      refine rdw ?_; repeat' ((with_reducible apply tw) <;> intro _)
      · rename_i k2 k3
        obtain ⟨x, hx⟩ : ∃ x, picks[a]? = some x := ⟨_, List.getElem?_eq_getElem (by omega)⟩
        refine ⟨by omega, _, nums_at hx, ?_⟩
        conv => whnf
        refine rdw ?_; repeat' ((with_reducible apply tw) <;> intro _)
        have hxb := hp x (List.mem_of_getElem? hx)
        have hdr := tail_drop hx
        rw [hdr] at hsu
        have hne : ¬ f.safe = f.seen := by simpa using k2
        (refine (rMod_ok x 3 (by decide) (by decide) hxb).mono ?_; rintro _ _ ⟨rfl, rfl⟩; (conv => whnf))
        refine rdw ?_; repeat' ((with_reducible apply tw) <;> intro _)
        · rename_i k4
          have hst : stepC f (x :: picks.drop (a + 1)) = (f.seen, picks.drop (a + 1)) := by
            rw [stepC, if_neg hne, headP, if_neg (by omega), if_neg (by omega)]
            rfl
          obtain ⟨a2, ha2, ha3⟩ : ∃ a2, a + 1 = a2 ∧ a2 ≤ k + 1 := ⟨_, rfl, by omega⟩
          rw [ha2] at hst hsu
          have hbl : f.seen.length ≤ 140737488355328 := by omega
          obtain ⟨hn1, hn2⟩ := crash_next hsu hst
          ((with_reducible refine draw_pl ttOk zOk foOk mixedOk pl40x18 ?_ ?_); (focus kernel_rfl); (conv => whnf))
          refine rdw ?_; repeat' ((with_reducible apply tw) <;> intro _)
          (refine (copyBytes_ok _ hbl).mono ?_; rintro _ _ ⟨rfl, rfl⟩; (conv => whnf))
          refine rdw ?_; repeat' ((with_reducible apply tw) <;> intro _)
          refine ⟨by rw [hfc]; show (k + 1) * 40 ≤ _; omega, ?_⟩
          conv => whnf
          refine rdw ?_; repeat' ((with_reducible apply tw) <;> intro _)
          exact ⟨k + 1, a2, by subst ha2; rfl, by rw [hn2]; rfl, ⟨by omega, by omega, hn1⟩, by omega⟩
        · rename_i k4 k5
          have hst : stepC f (x :: picks.drop (a + 1)) = (tornL f.safe f.seen (x / 3), picks.drop (a + 1)) := by
            rw [stepC, if_neg hne, headP, if_neg (by omega), if_pos (by omega)]
            rfl
          obtain ⟨a2, ha2, ha3⟩ : ∃ a2, a + 1 = a2 ∧ a2 ≤ k + 1 := ⟨_, rfl, by omega⟩
          rw [ha2] at hst hsu
          have htl : (tornL f.safe f.seen (x / 3)).length ≤ f.seen.length := by unfold tornL; rw [List.length_take]; omega
          have hbl : (tornL f.safe f.seen (x / 3)).length ≤ 140737488355328 := by omega
          ((with_reducible refine draw_pl ttOk zOk foOk mixedOk pl40x17 ?_ ?_); (focus kernel_rfl); (conv => whnf))
          refine rdw ?_; repeat' ((with_reducible apply tw) <;> intro _)
          (refine (rDiv_ok x 3 (by decide) (by decide) hxb).mono ?_; rintro _ _ ⟨rfl, rfl⟩; (conv => whnf))
          refine rdw ?_; repeat' ((with_reducible apply tw) <;> intro _)
          (refine (rTorn_ok f (by omega) (by omega) (x / 3) (by omega)).mono ?_; rintro _ _ ⟨rfl, rfl⟩; (conv => whnf))
          refine rdw ?_; repeat' ((with_reducible apply tw) <;> intro _)
          obtain ⟨hn1, hn2⟩ := crash_next hsu hst
          ((with_reducible refine draw_pl ttOk zOk foOk mixedOk pl40x18 ?_ ?_); (focus kernel_rfl); (conv => whnf))
          refine rdw ?_; repeat' ((with_reducible apply tw) <;> intro _)
          (refine (copyBytes_ok _ hbl).mono ?_; rintro _ _ ⟨rfl, rfl⟩; (conv => whnf))
          refine rdw ?_; repeat' ((with_reducible apply tw) <;> intro _)
          refine ⟨by rw [hfc]; show (k + 1) * 40 ≤ _; omega, ?_⟩
          conv => whnf
          refine rdw ?_; repeat' ((with_reducible apply tw) <;> intro _)
          exact ⟨k + 1, a2, by subst ha2; rfl, by rw [hn2]; rfl, ⟨by omega, by omega, hn1⟩, by omega⟩
        · rename_i k4 k5
          have hst : stepC f (x :: picks.drop (a + 1)) = (f.safe, picks.drop (a + 1)) := by
            rw [stepC, if_neg hne, headP, if_pos (by omega)]
            rfl
          obtain ⟨a2, ha2, ha3⟩ : ∃ a2, a + 1 = a2 ∧ a2 ≤ k + 1 := ⟨_, rfl, by omega⟩
          rw [ha2] at hst hsu
          have hbl : f.safe.length ≤ 140737488355328 := by omega
          obtain ⟨hn1, hn2⟩ := crash_next hsu hst
          ((with_reducible refine draw_pl ttOk zOk foOk mixedOk pl40x18 ?_ ?_); (focus kernel_rfl); (conv => whnf))
          refine rdw ?_; repeat' ((with_reducible apply tw) <;> intro _)
          (refine (copyBytes_ok _ hbl).mono ?_; rintro _ _ ⟨rfl, rfl⟩; (conv => whnf))
          refine rdw ?_; repeat' ((with_reducible apply tw) <;> intro _)
          refine ⟨by rw [hfc]; show (k + 1) * 40 ≤ _; omega, ?_⟩
          conv => whnf
          refine rdw ?_; repeat' ((with_reducible apply tw) <;> intro _)
          exact ⟨k + 1, a2, by subst ha2; rfl, by rw [hn2]; rfl, ⟨by omega, by omega, hn1⟩, by omega⟩
      · rename_i k2 k3
        have hdr : picks.drop a = [] := List.drop_eq_nil_of_le (by omega)
        have hne : ¬ f.safe = f.seen := by simpa using k2
        rw [hdr] at hsu
        (refine (rMod_ok 0 3 (by decide) (by decide) (by decide)).mono ?_; rintro _ _ ⟨rfl, rfl⟩; (conv => whnf))
        refine rdw ?_; repeat' ((with_reducible apply tw) <;> intro _)
        have hst : stepC f [] = (f.safe, picks.drop (a + 1)) := by
          rw [stepC, if_neg hne, headP, if_pos (by decide), List.drop_eq_nil_of_le (show picks.length ≤ a + 1 by omega)]
          rfl
        obtain ⟨a2, ha2, ha3⟩ : ∃ a2, a + 1 = a2 ∧ a2 ≤ k + 1 := ⟨_, rfl, by omega⟩
        rw [ha2] at hst
        have hbl : f.safe.length ≤ 140737488355328 := by omega
        obtain ⟨hn1, hn2⟩ := crash_next hsu hst
        ((with_reducible refine draw_pl ttOk zOk foOk mixedOk pl40x18 ?_ ?_); (focus kernel_rfl); (conv => whnf))
        refine rdw ?_; repeat' ((with_reducible apply tw) <;> intro _)
        (refine (copyBytes_ok _ hbl).mono ?_; rintro _ _ ⟨rfl, rfl⟩; (conv => whnf))
        refine rdw ?_; repeat' ((with_reducible apply tw) <;> intro _)
        refine ⟨by rw [hfc]; show (k + 1) * 40 ≤ _; omega, ?_⟩
        conv => whnf
        refine rdw ?_; repeat' ((with_reducible apply tw) <;> intro _)
        exact ⟨k + 1, a2, by subst ha2; rfl, by rw [hn2]; rfl, ⟨by omega, by omega, hn1⟩, by omega⟩
      · rename_i k2
        have heq : f.safe = f.seen := by simpa using k2
        have hst : stepC f (picks.drop a) = (f.safe, picks.drop a) := by rw [stepC, if_pos heq, heq]
        obtain ⟨a2, ha2, ha3⟩ : ∃ a2, a = a2 ∧ a2 ≤ k + 1 := ⟨_, rfl, by omega⟩
        rw [ha2] at hst hsu
        have hbl : f.safe.length ≤ 140737488355328 := by omega
        obtain ⟨hn1, hn2⟩ := crash_next hsu hst
        ((with_reducible refine draw_pl ttOk zOk foOk mixedOk pl40x18 ?_ ?_); (focus kernel_rfl); (conv => whnf))
        refine rdw ?_; repeat' ((with_reducible apply tw) <;> intro _)
        (refine (copyBytes_ok _ hbl).mono ?_; rintro _ _ ⟨rfl, rfl⟩; (conv => whnf))
        refine rdw ?_; repeat' ((with_reducible apply tw) <;> intro _)
        refine ⟨by rw [hfc]; show (k + 1) * 40 ≤ _; omega, ?_⟩
        conv => whnf
        refine rdw ?_; repeat' ((with_reducible apply tw) <;> intro _)
        exact ⟨k + 1, a2, by subst ha2; rfl, by rw [hn2]; rfl, ⟨by omega, by omega, hn1⟩, by omega⟩
    · rename_i k1
      replace k1 : ¬ (k : Int) < ((r.l.map FD.cs).length : Int) := k1
      rw [hfl] at k1
      obtain rfl : k = r.l.length := by omega
      exact ⟨rfl, rfl⟩
def delX (t : ByteArray) (l : List FD) : List FD := match idxN t l with
  | none => l
  | Option.some k => l.eraseIdx k
def renF (t : ByteArray) (i : Nat) (f : FD) (l : List FD) : List FD := insN { f with name := t } (delX t (l.eraseIdx i)) (putK t (delX t (l.eraseIdx i)))
def RD.rename (r : RD) (n t : ByteArray) : Int × RD :=
  if goodS n = false ∨ goodS t = false then (1, r) else r.some n fun i f c => if n = t then (0, c) else (0, c.with (renF t i f c.l))
theorem with_fit {c : RD} (h : c.fit) {l : List FD} (h1 : l.length ≤ 16) (h2 : ∀ f ∈ l, f ∈ c.l) : (c.with l).fit := ⟨h.calls, h.left, h1, fun f hf => h.lens f (h2 f hf)⟩
theorem erase_mem {l : List FD} {i : Nat} {f : FD} (h : f ∈ l.eraseIdx i) : f ∈ l := List.mem_of_mem_eraseIdx h
theorem delX_none {t : ByteArray} {l : List FD} (h : idxN t l = none) : delX t l = l := by rw [delX, h]
theorem delX_some {t : ByteArray} {l : List FD} {k : Nat} (h : idxN t l = Option.some k) : delX t l = l.eraseIdx k := by rw [delX, h]
theorem rRename_ok (r : RD) (hr : r.fit) (hc : r.calls ≤ 999999) (n t : ByteArray) : ACalls Try.prog 30 [.ptr 0 0, .d (.str n), .d (.str t)] r.L (fun av L => av = .d (.int .i64 (r.rename n t).1) ∧ (L = (r.rename n t).2.L ∨ L = (r.rename n t).2.L2)) := by
  have hcf := call_fit hr hc
  have hcl := call_l r
  (refine acalls_go ttOk zOk foOk Try.func30 rfl Try.ntmps30 rfl false rfl ?_); (conv => whnf)
  ((with_reducible refine (name_ok n).mono ?_); rintro _ _ ⟨rfl, rfl⟩; (conv => whnf))
  refine rdz ?_; repeat' ((with_reducible apply tw) <;> intro _)
  · rename_i k1
    rw [RD.rename, if_pos (.inl k1)]
    exact ⟨rfl, .inl rfl⟩
  rename_i k1
  ((with_reducible refine (name_ok t).mono ?_); rintro _ _ ⟨rfl, rfl⟩; (conv => whnf))
  refine rdz ?_; repeat' ((with_reducible apply tw) <;> intro _)
  · rename_i k0
    rw [RD.rename, if_pos (.inr k0)]
    exact ⟨rfl, .inl rfl⟩
  rename_i k0
  rw [RD.rename, if_neg (fun h => h.elim (by rw [k1]; decide) (by rw [k0]; decide))]
  (refine (rCall_ok r hr).mono ?_; rintro _ _ ⟨rfl, rfl⟩; (conv => whnf))
  obtain ⟨kk, hkk⟩ : ∃ kk : Nat → FD → RD → Int × RD, (fun i f c => if n = t then (0, c) else (0, c.with (renF t i f c.l))) = kk := ⟨_, rfl⟩
  rw [hkk]
  obtain ⟨c, hcc⟩ : ∃ c, r.call.2 = c := ⟨_, rfl⟩
  have h9 := some_off (r := r) (n := n) (k := kk)
  have h3 := some_no (r := r) (n := n) (k := kk)
  have h0 := fun i f => some_at (r := r) (n := n) (k := kk) (i := i) (f := f)
  rw [hcc] at hcf hcl h9 h3 h0 ⊢
  rw [← hcl] at h3 h0
  obtain ⟨tt1, ht⟩ : ∃ tt1, r.call.1 = tt1 := ⟨_, rfl⟩
  rw [ht] at h9 h3 h0 ⊢
  have hln := hcf.len
  have hfl : (c.l.map FD.cs).length = c.l.length := List.length_map ..
  refine rdz ?_; repeat' ((with_reducible apply tw) <;> intro _)
  · rename_i k2
    rw [h9 k2]
    exact ⟨rfl, .inl rfl⟩
  rename_i k2
  cases hi : idxN n c.l with
  | none =>
    rw [h3 k2 hi]
    (refine (find_none c hcf n hi).mono ?_; rintro _ _ ⟨rfl, rfl⟩; (conv => whnf))
    refine rdz ?_; repeat' ((with_reducible apply tw) <;> intro _)
    · exact ⟨rfl, .inl rfl⟩
  | some i =>
    obtain ⟨f, hf, hfn⟩ := idx_some hi
    have hil := (List.getElem?_eq_some_iff.1 hf).1
    rw [h0 i f k2 hi hf]
    (refine (find_some c hcf n hi).mono ?_; rintro _ _ ⟨rfl, rfl⟩; (conv => whnf))
    refine rdz ?_; repeat' ((with_reducible apply tw) <;> intro _)
    · rename_i k3
      have e : n = t := toList_inj (by simpa using k3)
      subst hkk
      show _ = AV.d (.int .i64 (if n = t then ((0, c) : Int × RD) else _).1) ∧ (_ = (if n = t then ((0, c) : Int × RD) else _).2.L ∨ _)
      rw [if_pos e]
      exact ⟨rfl, .inl rfl⟩
    rename_i k3
    have e : ¬ n = t := fun e => by rw [e] at k3; simp at k3
    have hk0 : kk i f c = (0, c.with (renF t i f c.l)) := by subst hkk; exact if_neg e
    rw [hk0]
    clear hk0
    refine ⟨by omega, by rw [hfl]; omega, ?_⟩
    conv => whnf
    refine ⟨_, fds_at hf, ?_⟩
    conv => whnf
    refine rdz ?_; repeat' ((with_reducible apply tw) <;> intro _)
    (refine (drop_ok c hcf i hil).mono ?_; rintro _ _ ⟨rfl, rfl⟩; (conv => whnf))
    have hcf1 : (c.with (c.l.eraseIdx i)).fit := with_fit hcf (by have := List.length_eraseIdx_le c.l i; omega) fun _ h => erase_mem h
    obtain ⟨c1, hc1⟩ : ∃ c1, c.with (c.l.eraseIdx i) = c1 := ⟨_, rfl⟩
    rw [hc1] at hcf1 ⊢
    conv => whnf
    cases hj : idxN t c1.l with
    | none =>
      (refine (find_none c1 hcf1 t hj).mono ?_; rintro _ _ ⟨rfl, rfl⟩; (conv => whnf))
      refine rdz ?_; repeat' ((with_reducible apply tw) <;> intro _)
      (refine (put_ok c1 hcf1 { f with name := t }).mono ?_; rintro _ _ ⟨rfl, rfl⟩; (conv => whnf))
      refine rdz ?_; repeat' ((with_reducible apply tw) <;> intro _)
      refine ⟨rfl, .inr ?_⟩
      subst hc1
      show _ = (c.with (renF t i f c.l)).L2
      rw [renF, delX_none (l := c.l.eraseIdx i) hj]
      rfl
    | some j =>
      obtain ⟨g, hg, hgn⟩ := idx_some hj
      have hjl := (List.getElem?_eq_some_iff.1 hg).1
      (refine (find_some c1 hcf1 t hj).mono ?_; rintro _ _ ⟨rfl, rfl⟩; (conv => whnf))
      refine rdz ?_; repeat' ((with_reducible apply tw) <;> intro _)
      (refine (drop_ok c1 hcf1 j hjl).mono ?_; rintro _ _ ⟨rfl, rfl⟩; (conv => whnf))
      have hcf2 : (c1.with (c1.l.eraseIdx j)).fit := with_fit hcf1 (by have := List.length_eraseIdx_le c1.l j; have := hcf1.len; omega) fun _ h => erase_mem h
      obtain ⟨c2, hc2⟩ : ∃ c2, c1.with (c1.l.eraseIdx j) = c2 := ⟨_, rfl⟩
      rw [hc2] at hcf2 ⊢
      refine rdz ?_; repeat' ((with_reducible apply tw) <;> intro _)
      (refine (put_ok c2 hcf2 { f with name := t }).mono ?_; rintro _ _ ⟨rfl, rfl⟩; (conv => whnf))
      refine rdz ?_; repeat' ((with_reducible apply tw) <;> intro _)
      refine ⟨rfl, .inr ?_⟩
      subst hc2
      subst hc1
      show _ = (c.with (renF t i f c.l)).L2
      rw [renF, delX_some (l := c.l.eraseIdx i) hj]
      rfl
end Go.Proofs.Ytgoejddmglgogaa
