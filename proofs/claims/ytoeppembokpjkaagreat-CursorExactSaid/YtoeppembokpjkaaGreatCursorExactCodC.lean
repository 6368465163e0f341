/- Part of the proof of CursorExact: the contracts of the functions. -/
import Derived.Test.YtoeppembokpjkaaGreatCursorExactCodB

set_option linter.unusedVariables false
set_option linter.unusedSimpArgs false
namespace Go.Proofs.YtoeppembokpjkaaGreat
open Go.Ab Go.RowKit Go.MapKept
attribute [local irreducible] ACalls AW ADraw Into fltB fnear
set_option maxRecDepth 100000
theorem clone_ok (l : List Int) (hl : l.length ≤ 1099511627776) : ACalls Tryz.prog 56 [.d (.sl 1 (nums l))] [] (fun av L => av = .arr 0 ∧ L = [.row 3 1 (nums l) false]) := by
  have hll := nums_length l
  refine acalls_go ttOk zOk foOk Tryz.func56 rfl Tryz.ntmps56 rfl true rfl ?_
  conv => whnf
  intro b hb
  conv => whnf
  repeat' (first | ((with_reducible apply rd_intro); (focus (intro K hK; (conv => whnf); first | exact hK | (intro z hz; rw [wrapI (by omega)] at hz; subst hz; exact hK))); (conv => whnf)) | ((with_reducible apply gd_and); (focus ((conv => whnf) <;> first | rfl | (intro K hK; (conv => whnf); first | exact hK | (intro z hz; rw [wrapI (by omega)] at hz; subst hz; exact hK)))); (conv => whnf)) | ((with_reducible apply z_wrap); (focus omega); (conv => whnf)) | ((with_reducible first | apply mt_dec | apply mt_eq | apply mt_ne | apply mt_not | apply mt_any) <;> (intro _; conv => whnf)))
  · rename_i h
    have : l = [] := by simpa [nums] using hb h
    subst this
    exact ⟨rfl, rfl⟩
  · rename_i h
    refine ⟨by rw [hll]; show (0 + l.length) * 8 ≤ _; omega, ?_⟩
    conv => whnf
    exact ⟨rfl, rfl⟩
/-- the program's cursor that goes on -/
structure Wk where
  c : Cursor
  outs : List Int
def Wk.cells (d : Dag) (w : Wk) (i j : Nat) : List AV := [.d (.int .i64 d.nodes), .d (.int .i64 d.low), .d (.sl 6 (certsD d.certs)), .d (.int .i64 w.c.round), .arr i, .d (.int .i64 w.c.count), .arr j]
def Wk.L (d : Dag) (w : Wk) : List AB := [.cells (w.cells d 1 2), .row 3 1 (nums w.c.done) false, .row 3 1 (nums w.outs) false]
def keepB (d : Dag) (r x : Int) : Bool := match (getC d.certs x).bind (fun i => d.certs[i]?) with | some c => decide (c.round > r - 8) | none => false
def keepI (d : Dag) (r : Int) (l : List Int) : List Int := l.filter fun x => keepB d r x
def Wk.put (d : Dag) (w : Wk) (i : Nat) (c : Cert) : Wk :=
  ⟨⟨c.round, sortI (keepI d c.round (w.c.done ++ behindI d i c.round w.c.done)), min (w.c.count + (behindI d i c.round w.c.done).length) 1099511627776⟩, w.outs ++ behindI d i c.round w.c.done⟩
def Wk.L2 (d : Dag) (w : Wk) (old : List Int) : List AB := [.cells (w.cells d 3 4), .row 3 1 (nums old) true, .dead, .row 3 1 (nums w.c.done) false, .row 3 1 (nums w.outs) false]
def putSt (d : Dag) (w : Wk) (r : Int) (l all : List Int) : Nat → AF × List AB
  | j => ([(0, .ptr 0 0), (5, .arr 3), (6, .arr 4), (57, .arr 5), (58, .d (.int .i64 all.length)), (59, .d (.int .i64 j))], [.cells [.d (.int .i64 d.nodes), .d (.int .i64 d.low), .d (.sl 6 (certsD d.certs)), .d (.int .i64 r), .arr 1, .d (.int .i64 w.c.count), .arr 6], .row 3 1 (nums w.c.done) true, .dead, .row 3 1 (nums l) false, .row 3 1 (nums (keepI d r (all.take j))) false, .row 3 1 (nums all) false, .row 3 1 (nums (w.outs ++ l)) false])
theorem keep_snoc {d : Dag} {r : Int} {all : List Int} {j : Nat} {x : Int} (h : all[j]? = some x) : keepI d r (all.take (j + 1)) = if keepB d r x = true then keepI d r (all.take j) ++ [x] else keepI d r (all.take j) := by
  rw [List.take_add_one, h]
  cases hb : keepB d r x <;> simp [keepI, List.filter_append, hb]
theorem put_ok (d : Dag) (hw : d.well) (w : Wk) (a : Int) {i : Nat} {c : Cert} (hg : getC d.certs a = some i) (hc : d.certs[i]? = some c) (hs : risingI w.c.done) (hdl : w.c.done.length ≤ 65536) (hol : w.outs.length ≤ 4294967296) (hcnt : 0 ≤ w.c.count ∧ w.c.count ≤ 1099511627776) :
    ACalls Tryz.prog 84 [.ptr 0 0, .d (.int .i64 a)] (w.L d) (fun av L => av = .tup [] ∧ L = (w.put d i c).L2 d w.c.done) := by
  have hgi : getI d.certs a = i := by rw [getI, hg]; rfl
  have hrc := (hw.fit.fit c (List.mem_of_getElem? hc)).1
  have hr1 := hrc.1
  have hr2 := hrc.2
  refine acalls_go ttOk zOk foOk Tryz.func84 rfl Tryz.ntmps84 rfl true rfl ?_
  conv => whnf
  refine (get_ok d hw.fit.few a).mono ?_
  rintro _ _ ⟨rfl, rfl⟩
  rw [hgi]
  conv => whnf
  ((with_reducible refine draw_pl ttOk zOk foOk mixedOk pl84x1 ?_ ?_); (focus kernel_rfl); (conv => whnf))
  repeat' (first | ((with_reducible apply rd_intro); (focus (intro K hK; (conv => whnf); first | exact hK | (intro z hz; rw [wrapI (by omega)] at hz; subst hz; exact hK))); (conv => whnf)) | ((with_reducible apply gd_and); (focus ((conv => whnf) <;> first | rfl | (intro K hK; (conv => whnf); first | exact hK | (intro z hz; rw [wrapI (by omega)] at hz; subst hz; exact hK)))); (conv => whnf)) | ((with_reducible apply z_wrap); (focus omega); (conv => whnf)) | ((with_reducible first | apply mt_dec | apply mt_eq | apply mt_ne | apply mt_not | apply mt_any) <;> (intro _; conv => whnf)))
  (refine Or.inl ?_; (conv => whnf))
  refine (behind_ok d hw.len hw.pars hw.low i hc hrc w.c.done (by unfold few; omega) hs).mono ?_
  rintro _ _ ⟨rfl, rfl⟩
  obtain ⟨l, hl⟩ : ∃ l, behindI d i c.round w.c.done = l := ⟨_, rfl⟩
  have hll : l.length ≤ 65536 := by
    rw [← hl]
    have h1 := List.length_filter_le (fun x => !decide (x ∈ w.c.done)) (riseI d i (c.round - 8))
    have h2 := rise_len d i (c.round - 8)
    have h3 := hw.len
    unfold behindI
    omega
  rw [hl]
  conv => whnf
  repeat' (first | ((with_reducible apply rd_intro); (focus (intro K hK; (conv => whnf); first | exact hK | (intro z hz; rw [wrapI (by omega)] at hz; subst hz; exact hK))); (conv => whnf)) | ((with_reducible apply gd_and); (focus ((conv => whnf) <;> first | rfl | (intro K hK; (conv => whnf); first | exact hK | (intro z hz; rw [wrapI (by omega)] at hz; subst hz; exact hK)))); (conv => whnf)) | ((with_reducible apply z_wrap); (focus omega); (conv => whnf)) | ((with_reducible first | apply mt_dec | apply mt_eq | apply mt_ne | apply mt_not | apply mt_any) <;> (intro _; conv => whnf)))
  refine ⟨by rw [nums_length, nums_length]; show (w.outs.length + l.length) * 8 ≤ _; omega, ?_⟩
  conv => whnf
  rw [nums_apps]
  repeat' (first | ((with_reducible apply rd_intro); (focus (intro K hK; (conv => whnf); first | exact hK | (intro z hz; rw [wrapI (by omega)] at hz; subst hz; exact hK))); (conv => whnf)) | ((with_reducible apply gd_and); (focus ((conv => whnf) <;> first | rfl | (intro K hK; (conv => whnf); first | exact hK | (intro z hz; rw [wrapI (by omega)] at hz; subst hz; exact hK)))); (conv => whnf)) | ((with_reducible apply z_wrap); (focus omega); (conv => whnf)) | ((with_reducible first | apply mt_dec | apply mt_eq | apply mt_ne | apply mt_not | apply mt_any) <;> (intro _; conv => whnf)))
  refine ⟨by omega, c.cs, certsD_at hc, ?_⟩
  conv => whnf
  repeat' (first | ((with_reducible apply rd_intro); (focus (intro K hK; (conv => whnf); first | exact hK | (intro z hz; rw [wrapI (by omega)] at hz; subst hz; exact hK))); (conv => whnf)) | ((with_reducible apply gd_and); (focus ((conv => whnf) <;> first | rfl | (intro K hK; (conv => whnf); first | exact hK | (intro z hz; rw [wrapI (by omega)] at hz; subst hz; exact hK)))); (conv => whnf)) | ((with_reducible apply z_wrap); (focus omega); (conv => whnf)) | ((with_reducible first | apply mt_dec | apply mt_eq | apply mt_ne | apply mt_not | apply mt_any) <;> (intro _; conv => whnf)))
  (refine Or.inl ?_; (conv => whnf))
  refine (clone_ok w.c.done (by omega)).mono ?_
  rintro _ _ ⟨rfl, rfl⟩
  conv => whnf
  repeat' (first | ((with_reducible apply rd_intro); (focus (intro K hK; (conv => whnf); first | exact hK | (intro z hz; rw [wrapI (by omega)] at hz; subst hz; exact hK))); (conv => whnf)) | ((with_reducible apply gd_and); (focus ((conv => whnf) <;> first | rfl | (intro K hK; (conv => whnf); first | exact hK | (intro z hz; rw [wrapI (by omega)] at hz; subst hz; exact hK)))); (conv => whnf)) | ((with_reducible apply z_wrap); (focus omega); (conv => whnf)) | ((with_reducible first | apply mt_dec | apply mt_eq | apply mt_ne | apply mt_not | apply mt_any) <;> (intro _; conv => whnf)))
  refine ⟨by rw [nums_length, nums_length]; show (w.c.done.length + l.length) * 8 ≤ _; omega, ?_⟩
  conv => whnf
  rw [nums_apps]
  repeat' (first | ((with_reducible apply rd_intro); (focus (intro K hK; (conv => whnf); first | exact hK | (intro z hz; rw [wrapI (by omega)] at hz; subst hz; exact hK))); (conv => whnf)) | ((with_reducible apply gd_and); (focus ((conv => whnf) <;> first | rfl | (intro K hK; (conv => whnf); first | exact hK | (intro z hz; rw [wrapI (by omega)] at hz; subst hz; exact hK)))); (conv => whnf)) | ((with_reducible apply z_wrap); (focus omega); (conv => whnf)) | ((with_reducible first | apply mt_dec | apply mt_eq | apply mt_ne | apply mt_not | apply mt_any) <;> (intro _; conv => whnf)))
  obtain ⟨all, hall⟩ : ∃ all, w.c.done ++ l = all := ⟨_, rfl⟩
  have hal : all.length ≤ 131072 := by rw [← hall, List.length_append]; omega
  have hnl := nums_length all
  rw [hall]
  refine loop_go ttOk zOk foOk (σ := Nat) (putSt d w c.round l all) (fun j => j ≤ all.length) (fun j => all.length - j) [0, 5, 6, 57, 58, 59] ?_ ?_
  · conv => whnf
    exact ⟨0, by rw [hnl]; rfl, rfl, Nat.zero_le _⟩
  · intro j hj
    have hkl : (keepI d c.round (all.take j)).length ≤ 131072 := by
      have h1 : (keepI d c.round (all.take j)).length ≤ (all.take j).length := List.length_filter_le ..
      rw [List.length_take] at h1
      omega
    conv => whnf
    repeat' (first | ((with_reducible apply rd_intro); (focus (intro K hK; (conv => whnf); first | exact hK | (intro z hz; rw [wrapI (by omega)] at hz; subst hz; exact hK))); (conv => whnf)) | ((with_reducible apply gd_and); (focus ((conv => whnf) <;> first | rfl | (intro K hK; (conv => whnf); first | exact hK | (intro z hz; rw [wrapI (by omega)] at hz; subst hz; exact hK)))); (conv => whnf)) | ((with_reducible apply z_wrap); (focus omega); (conv => whnf)) | ((with_reducible first | apply mt_dec | apply mt_eq | apply mt_ne | apply mt_not | apply mt_any) <;> (intro _; conv => whnf)))
    · rename_i h
      obtain ⟨x, hx⟩ : ∃ x, all[j]? = some x := ⟨_, List.getElem?_eq_getElem (by omega)⟩
      have hsn := keep_snoc (d := d) (r := c.round) hx
      refine ⟨by omega, by rw [Int.toNat_natCast]; omega, ?_⟩
      conv => whnf
      refine ⟨_, by rw [Int.toNat_natCast]; exact nums_at hx, ?_⟩
      conv => whnf
      repeat' (first | ((with_reducible apply rd_intro); (focus (intro K hK; (conv => whnf); first | exact hK | (intro z hz; rw [wrapI (by omega)] at hz; subst hz; exact hK))); (conv => whnf)) | ((with_reducible apply gd_and); (focus ((conv => whnf) <;> first | rfl | (intro K hK; (conv => whnf); first | exact hK | (intro z hz; rw [wrapI (by omega)] at hz; subst hz; exact hK)))); (conv => whnf)) | ((with_reducible apply z_wrap); (focus omega); (conv => whnf)) | ((with_reducible first | apply mt_dec | apply mt_eq | apply mt_ne | apply mt_not | apply mt_any) <;> (intro _; conv => whnf)))
      refine (get_ok d hw.fit.few x).mono ?_
      rintro _ _ ⟨rfl, rfl⟩
      cases hg2 : getC d.certs x with
      | none =>
        rw [show getI d.certs x = -1 by rw [getI, hg2]; rfl]
        rw [keepB, hg2] at hsn
        conv => whnf
        ((with_reducible refine draw_pl ttOk zOk foOk mixedOk pl84x9 ?_ ?_); (focus kernel_rfl); (conv => whnf))
        repeat' (first | ((with_reducible apply rd_intro); (focus (intro K hK; (conv => whnf); first | exact hK | (intro z hz; rw [wrapI (by omega)] at hz; subst hz; exact hK))); (conv => whnf)) | ((with_reducible apply gd_and); (focus ((conv => whnf) <;> first | rfl | (intro K hK; (conv => whnf); first | exact hK | (intro z hz; rw [wrapI (by omega)] at hz; subst hz; exact hK)))); (conv => whnf)) | ((with_reducible apply z_wrap); (focus omega); (conv => whnf)) | ((with_reducible first | apply mt_dec | apply mt_eq | apply mt_ne | apply mt_not | apply mt_any) <;> (intro _; conv => whnf)))
        exact ⟨j + 1, rfl, by rw [putSt, hsn]; rfl, by omega, by omega⟩
      | some i2 =>
        rw [show getI d.certs x = i2 by rw [getI, hg2]; rfl]
        have hi2 : i2 < d.certs.length := by
          unfold getC at hg2
          rw [List.findIdx?_eq_some_iff_getElem] at hg2
          exact hg2.1
        obtain ⟨c2, hc2⟩ : ∃ c2, d.certs[i2]? = some c2 := ⟨_, List.getElem?_eq_getElem hi2⟩
        have hrc2 := (hw.fit.fit c2 (List.mem_of_getElem? hc2)).1
        rw [keepB, hg2, Option.bind_some, hc2] at hsn
        conv => whnf
        ((with_reducible refine draw_pl ttOk zOk foOk mixedOk pl84x9 ?_ ?_); (focus kernel_rfl); (conv => whnf))
        repeat' (first | ((with_reducible apply rd_intro); (focus (intro K hK; (conv => whnf); first | exact hK | (intro z hz; rw [wrapI (by omega)] at hz; subst hz; exact hK))); (conv => whnf)) | ((with_reducible apply gd_and); (focus ((conv => whnf) <;> first | rfl | (intro K hK; (conv => whnf); first | exact hK | (intro z hz; rw [wrapI (by omega)] at hz; subst hz; exact hK)))); (conv => whnf)) | ((with_reducible apply z_wrap); (focus omega); (conv => whnf)) | ((with_reducible first | apply mt_dec | apply mt_eq | apply mt_ne | apply mt_not | apply mt_any) <;> (intro _; conv => whnf)))
        ((with_reducible apply rd_intro); (focus (intro K hK; (conv => whnf); exact ⟨by omega, c2.cs, certsD_at hc2, hK⟩)); (conv => whnf))
        repeat' (first | ((with_reducible apply rd_intro); (focus (intro K hK; (conv => whnf); first | exact hK | (intro z hz; rw [wrapI (by omega)] at hz; subst hz; exact hK))); (conv => whnf)) | ((with_reducible apply gd_and); (focus ((conv => whnf) <;> first | rfl | (intro K hK; (conv => whnf); first | exact hK | (intro z hz; rw [wrapI (by omega)] at hz; subst hz; exact hK)))); (conv => whnf)) | ((with_reducible apply z_wrap); (focus omega); (conv => whnf)) | ((with_reducible first | apply mt_dec | apply mt_eq | apply mt_ne | apply mt_not | apply mt_any) <;> (intro _; conv => whnf)))
        · rename_i h5
          simp only [h5, decide_true, if_true] at hsn
          refine ⟨by rw [nums_length, List.length_singleton]; show (_ + 1) * 8 ≤ _; omega, ?_⟩
          conv => whnf
          rw [nums_app]
          repeat' (first | ((with_reducible apply rd_intro); (focus (intro K hK; (conv => whnf); first | exact hK | (intro z hz; rw [wrapI (by omega)] at hz; subst hz; exact hK))); (conv => whnf)) | ((with_reducible apply gd_and); (focus ((conv => whnf) <;> first | rfl | (intro K hK; (conv => whnf); first | exact hK | (intro z hz; rw [wrapI (by omega)] at hz; subst hz; exact hK)))); (conv => whnf)) | ((with_reducible apply z_wrap); (focus omega); (conv => whnf)) | ((with_reducible first | apply mt_dec | apply mt_eq | apply mt_ne | apply mt_not | apply mt_any) <;> (intro _; conv => whnf)))
          exact ⟨j + 1, rfl, by rw [putSt, hsn], by omega, by omega⟩
        · rename_i h5
          simp only [h5, decide_false, Bool.false_eq_true, if_false] at hsn
          exact ⟨j + 1, rfl, by rw [putSt, hsn], by omega, by omega⟩
    · rename_i h
      obtain rfl : j = all.length := by omega
      (refine Or.inr ?_; (conv => whnf))
      refine (sortI_ok (keepI d c.round (all.take all.length)) (by omega)).mono ?_
      rintro _ _ ⟨rfl, rfl⟩
      rw [List.take_length]
      conv => whnf
      repeat' (first | ((with_reducible apply rd_intro); (focus (intro K hK; (conv => whnf); first | exact hK | (intro z hz; rw [wrapI (by omega)] at hz; subst hz; exact hK))); (conv => whnf)) | ((with_reducible apply gd_and); (focus ((conv => whnf) <;> first | rfl | (intro K hK; (conv => whnf); first | exact hK | (intro z hz; rw [wrapI (by omega)] at hz; subst hz; exact hK)))); (conv => whnf)) | ((with_reducible apply z_wrap); (focus omega); (conv => whnf)) | ((with_reducible first | apply mt_dec | apply mt_eq | apply mt_ne | apply mt_not | apply mt_any) <;> (intro _; conv => whnf)))
      intro z hz
      have : z = w.c.count + l.length := by rw [hz, nums_length, wrapI (by omega)]
      clear hz
      subst this
      conv => whnf
      repeat' (first | ((with_reducible apply rd_intro); (focus (intro K hK; (conv => whnf); first | exact hK | (intro z hz; rw [wrapI (by omega)] at hz; subst hz; exact hK))); (conv => whnf)) | ((with_reducible apply gd_and); (focus ((conv => whnf) <;> first | rfl | (intro K hK; (conv => whnf); first | exact hK | (intro z hz; rw [wrapI (by omega)] at hz; subst hz; exact hK)))); (conv => whnf)) | ((with_reducible apply z_wrap); (focus omega); (conv => whnf)) | ((with_reducible first | apply mt_dec | apply mt_eq | apply mt_ne | apply mt_not | apply mt_any) <;> (intro _; conv => whnf)))
      subst hall
      subst hl
      exact ⟨rfl, rfl⟩
/-! ## what a cursor that goes on holds to -/
theorem getC_some {l : List Cert} {x : Int} {i : Nat} (h : getC l x = some i) : ∃ c, l[i]? = some c ∧ c.digest = x := by
  unfold getC at h
  rw [List.findIdx?_eq_some_iff_getElem] at h
  obtain ⟨hi, h1, _⟩ := h
  exact ⟨l[i], List.getElem?_eq_getElem hi, by simpa using h1⟩
theorem down_sub (dl low : Int) : ∀ (l : List Cert) (ks : List Int), (downL dl low l ks).Sublist (l.map (·.digest))
  | [], _ => List.Sublist.refl _
  | c :: r, ks => by
    unfold downL
    split
    · exact List.nil_sublist _
    · split
      · exact (down_sub dl low r _).cons_cons _
      · exact (down_sub dl low r _).cons _
theorem rise_nodup {d : Dag} (h : (d.certs.map (·.digest)).Nodup) (i : Nat) (low : Int) : (riseI d i low).Nodup := by
  unfold riseI downI
  rw [(List.reverse_perm _).nodup_iff]
  refine (down_sub d.low low _ _).nodup ?_
  rw [List.map_reverse, (List.reverse_perm _).nodup_iff, List.map_take]
  exact h.sublist (List.take_sublist ..)
theorem behind_nodup {d : Dag} (h : (d.certs.map (·.digest)).Nodup) (i : Nat) (r : Int) (done : List Int) : (behindI d i r done).Nodup ∧ ∀ x ∈ behindI d i r done, x ∉ done := by
  unfold behindI
  refine ⟨(rise_nodup h i _).sublist List.filter_sublist, fun x hx => ?_⟩
  have := (List.mem_filter.1 hx).2
  simpa using this
theorem sortI_rising {l : List Int} (h : l.Nodup) : risingI (sortI l) := by
  have h1 := List.pairwise_mergeSort (le := fun x y : Int => decide (x ≤ y)) (fun a b c h1 h2 => by simp at *; omega) (fun a b => by simp; omega) l
  have h2 : (sortI l).Nodup := (List.mergeSort_perm l _).nodup_iff.2 h
  exact (h1.and h2).imp fun ⟨h3, h4⟩ => by simp at h3; omega
theorem rising_nodup {l : List Int} (h : risingI l) : l.Nodup := h.imp fun h => by omega
theorem sub_len {α : Type} [DecidableEq α] : ∀ {l m : List α}, l.Nodup → (∀ x ∈ l, x ∈ m) → l.length ≤ m.length
  | [], m, _, _ => Nat.zero_le _
  | x :: r, m, hn, h => by
    have hn' := List.nodup_cons.1 hn
    have hx := h x (by simp)
    have := sub_len (l := r) (m := m.erase x) hn'.2 (fun y hy => (List.mem_erase_of_ne (fun e => hn'.1 (by rw [← e]; exact hy))).2 (h y (by simp [hy])))
    rw [List.length_erase_of_mem hx] at this
    have hp := List.length_pos_of_mem hx
    simp only [List.length_cons]
    omega
theorem keep_len {d : Dag} {r : Int} {l : List Int} (h : l.Nodup) : (keepI d r l).length ≤ d.certs.length := by
  have hsub : ∀ x ∈ keepI d r l, x ∈ d.certs.map (·.digest) := by
    intro x hx
    have h2 := (List.mem_filter.1 hx).2
    unfold keepB at h2
    cases hg : getC d.certs x with
    | none => rw [hg] at h2; cases h2
    | some i =>
      obtain ⟨c, h3, h4⟩ := getC_some hg
      exact List.mem_map.2 ⟨c, List.mem_of_getElem? h3, h4⟩
  have hn : (keepI d r l).Nodup := h.sublist List.filter_sublist
  have := sub_len hn hsub
  simpa using this
structure Wk.fine (d : Dag) (w : Wk) : Prop where
  rising : risingI w.c.done
  few : w.c.done.length ≤ 65536
  count : 0 ≤ w.c.count ∧ w.c.count ≤ 1099511627776
theorem Wk.fine.put {d : Dag} (hw : d.well) {w : Wk} (h : w.fine d) (i : Nat) (c : Cert) : (w.put d i c).fine d := by
  obtain ⟨b1, b2⟩ := behind_nodup hw.dig i c.round w.c.done
  have hnd : (w.c.done ++ behindI d i c.round w.c.done).Nodup := by
    rw [List.nodup_append]
    exact ⟨rising_nodup h.rising, b1, fun x hx y hy e => b2 y hy (e ▸ hx)⟩
  refine ⟨sortI_rising (hnd.sublist List.filter_sublist), ?_, ?_⟩
  · show (sortI _).length ≤ _
    rw [sortI, List.length_mergeSort]
    have := keep_len (d := d) (r := c.round) hnd
    have := hw.len
    omega
  · have := h.count
    show 0 ≤ min _ _ ∧ min _ _ ≤ _
    omega
end Go.Proofs.YtoeppembokpjkaaGreat

namespace Go.Proofs.YtoeppembokpjkaaGreat
open Go.Ab Go.RowKit Go.MapKept
attribute [local irreducible] ACalls AW ADraw Into fltB fnear
set_option maxRecDepth 100000
/-! ## what may be: numbers, headers, certificates -/
theorem tmod_pos {a b : Int} (ha : 0 ≤ a) {z : Int} (hz : z = a.tmod b) : z = a % b := by rw [hz, Int.tmod_eq_emod_of_nonneg ha]
def isN (n : Int) : Bool := decide (1 ≤ n ∧ n ≤ 16 ∧ n % 3 = 1)
theorem is_ok (n : Int) : ACalls Tryz.prog 77 [.d (.int .i64 n)] [] (fun av L => av = .d (.bool (isN n)) ∧ L = []) := by
  unfold isN
  refine acalls_go ttOk zOk foOk Tryz.func77 rfl Tryz.ntmps77 rfl false rfl ?_
  conv => whnf
  repeat' (first | ((with_reducible apply z_wrap); (focus omega); (conv => whnf)) | ((with_reducible first | apply mt_dec | apply mt_eq | apply mt_ne | apply mt_not | apply mt_any) <;> (intro _; conv => whnf)))
  · rename_i h1 h2
    refine ⟨by decide, ?_⟩
    intro z hz
    have hz2 := tmod_pos (by omega) hz
    clear hz
    subst hz2
    conv => whnf
    exact ⟨boolEq (by simp; omega), rfl⟩
  · rename_i h1 h2
    exact ⟨by rw [decide_eq_false (by omega)]; rfl, rfl⟩
  · rename_i h1
    exact ⟨by rw [decide_eq_false (by omega)]; rfl, rfl⟩
theorem digest_ok (n : Int) : ACalls Tryz.prog 102 [.d (.int .i64 n)] [] (fun av L => av = .d (.bool (decide (1 ≤ n ∧ n ≤ 65536))) ∧ L = []) := by
  refine acalls_go ttOk zOk foOk Tryz.func102 rfl Tryz.ntmps102 rfl false rfl ?_
  conv => whnf
  repeat' (first | ((with_reducible apply z_wrap); (focus omega); (conv => whnf)) | ((with_reducible first | apply mt_dec | apply mt_eq | apply mt_ne | apply mt_not | apply mt_any) <;> (intro _; conv => whnf)))
  · rename_i h1
    exact ⟨boolEq (by simp; omega), rfl⟩
  · rename_i h1
    exact ⟨by rw [decide_eq_false (by omega)]; rfl, rfl⟩
theorem q_ok (n : Int) (hn : 0 < n ∧ n ≤ 16) : ACalls Tryz.prog 104 [.d (.int .i64 n)] [] (fun av L => av = .d (.int .i64 (2 * ((n - 1) / 3) + 1)) ∧ L = []) := by
  refine acalls_go ttOk zOk foOk Tryz.func104 rfl Tryz.ntmps104 rfl false rfl ?_
  conv => whnf
  refine (cf_ok n hn).mono ?_
  rintro _ _ ⟨rfl, rfl⟩
  conv => whnf
  repeat' (first | ((with_reducible apply z_wrap); (focus omega); (conv => whnf)) | ((with_reducible first | apply mt_dec | apply mt_eq | apply mt_ne | apply mt_not | apply mt_any) <;> (intro _; conv => whnf)))
  exact ⟨rfl, rfl⟩
theorem rising_snoc {l : List Int} {x : Int} : risingI (l ++ [x]) ↔ risingI l ∧ ∀ y ∈ l, y < x := by
  unfold risingI
  rw [List.pairwise_append]
  simp
theorem rising_last {l : List Int} {j : Nat} {y : Int} (h : risingI (l.take (j + 1))) (hy : l[j]? = some y) : ∀ z ∈ l.take (j + 1), z ≤ y := by
  rw [List.take_add_one, hy] at h ⊢
  intro z hz
  have := (rising_snoc (l := l.take j) (x := y)).1 h
  rcases List.mem_append.1 hz with hz | hz
  · have := this.2 z hz; omega
  · simp at hz; omega
def riseB (l : List Int) (a b : Int) : Prop := risingI l ∧ ∀ x ∈ l, a ≤ x ∧ x ≤ b
theorem riseB_take {l : List Int} {a b : Int} (h : riseB l a b) (j : Nat) : riseB (l.take j) a b := ⟨h.1.sublist (List.take_sublist ..), fun x hx => h.2 x (List.mem_of_mem_take hx)⟩
theorem riseB_succ {l : List Int} {a b x : Int} {j : Nat} (hx : l[j]? = some x) : riseB (l.take (j + 1)) a b ↔ riseB (l.take j) a b ∧ a ≤ x ∧ x ≤ b ∧ ∀ y ∈ l.take j, y < x := by
  unfold riseB
  rw [List.take_add_one, hx, Option.toList_some, rising_snoc]
  constructor
  · rintro ⟨⟨h1, h2⟩, h3⟩
    exact ⟨⟨h1, fun y hy => h3 y (by simp [hy])⟩, (h3 x (by simp)).1, (h3 x (by simp)).2, h2⟩
  · rintro ⟨⟨h1, h2⟩, h3, h4, h5⟩
    refine ⟨⟨h1, h5⟩, fun y hy => ?_⟩
    rcases List.mem_append.1 hy with hy | hy
    · exact h2 y hy
    · rw [List.mem_singleton.1 hy]; exact ⟨h3, h4⟩
theorem take_pred {l : List Int} {j : Nat} (h0 : 0 < j) (hj : j < l.length) : ∃ y, l[j - 1]? = some y ∧ y ∈ l.take j ∧ (risingI (l.take j) → ∀ z ∈ l.take j, z ≤ y) := by
  obtain ⟨m, rfl⟩ : ∃ m, j = m + 1 := ⟨j - 1, by omega⟩
  obtain ⟨y, hy⟩ : ∃ y, l[m]? = some y := ⟨_, List.getElem?_eq_getElem (by omega)⟩
  refine ⟨y, hy, ?_, fun h => rising_last h hy⟩
  rw [List.take_add_one, hy]; simp
open Classical in
theorem crising_ok (l : List Int) (hl : few l) (a b : Int) : ACalls Tryz.prog 103 [.d (.sl 1 (nums l)), .d (.int .i64 a), .d (.int .i64 b)] [] (fun av L => av = .d (.bool (decide (riseB l a b))) ∧ L = []) := by
  have hll := nums_length l
  unfold few at hl
  refine acalls_go ttOk zOk foOk Tryz.func103 rfl Tryz.ntmps103 rfl false rfl ?_
  conv => whnf
  refine loop_go ttOk zOk foOk (σ := Nat) (fun j => ([(0, .d (.sl 1 (nums l))), (1, .d (.int .i64 a)), (2, .d (.int .i64 b)), (9, .d (.sl 1 (nums l))), (10, .d (.int .i64 l.length)), (11, .d (.int .i64 j))], [])) (fun j => j ≤ l.length ∧ riseB (l.take j) a b) (fun j => l.length - j) [0, 1, 2, 9, 10, 11] ?_ ?_
  · conv => whnf
    exact ⟨0, by rw [hll]; rfl, rfl, Nat.zero_le _, by simp [riseB, risingI]⟩
  · rintro j ⟨hj, hr⟩
    conv => whnf
    repeat' (first | ((with_reducible apply z_wrap); (focus omega); (conv => whnf)) | ((with_reducible first | apply mt_dec | apply mt_eq | apply mt_ne | apply mt_not | apply mt_any) <;> (intro _; conv => whnf)))
    · rename_i h
      obtain ⟨x, hx⟩ : ∃ x, l[j]? = some x := ⟨_, List.getElem?_eq_getElem (by omega)⟩
      have hs := riseB_succ (a := a) (b := b) hx
      have hbad : ¬ (a ≤ x ∧ x ≤ b ∧ ∀ y ∈ l.take j, y < x) → ¬ riseB l a b := fun h1 h2 => h1 ((hs.1 (riseB_take h2 (j + 1))).2)
      refine ⟨by omega, [.int .i64 x], nums_at hx, ?_⟩
      conv => whnf
      repeat' (first | ((with_reducible apply z_wrap); (focus omega); (conv => whnf)) | ((with_reducible first | apply mt_dec | apply mt_eq | apply mt_ne | apply mt_not | apply mt_any) <;> (intro _; conv => whnf)))
      · rename_i h2
        exact ⟨by rw [decide_eq_false (hbad fun h3 => by omega)]; rfl, rfl⟩
      · rename_i h2 h3
        exact ⟨by rw [decide_eq_false (hbad fun h4 => by omega)]; rfl, rfl⟩
      · rename_i h2 h3 h4
        obtain ⟨y, hy, hym, hle⟩ := take_pred (l := l) (j := j) (by omega) (by omega)
        refine ⟨by omega, [.int .i64 y], by rw [show ((j : Int) - 1).toNat = j - 1 by omega]; exact nums_at hy, ?_⟩
        conv => whnf
        repeat' (first | ((with_reducible apply z_wrap); (focus omega); (conv => whnf)) | ((with_reducible first | apply mt_dec | apply mt_eq | apply mt_ne | apply mt_not | apply mt_any) <;> (intro _; conv => whnf)))
        · rename_i h5
          exact ⟨by rw [decide_eq_false (hbad fun h6 => by have := h6.2.2 y hym; omega)]; rfl, rfl⟩
        · rename_i h5
          exact ⟨j + 1, rfl, rfl, ⟨by omega, hs.2 ⟨hr, by omega, by omega, fun z hz => by have := hle hr.1 z hz; omega⟩⟩, by omega⟩
      · rename_i h2 h3 h4
        have hj0 : j = 0 := by omega
        subst hj0
        exact ⟨1, rfl, rfl, ⟨by omega, hs.2 ⟨hr, by omega, by omega, by simp⟩⟩, by omega⟩
    · rename_i h
      rw [List.take_of_length_le (by omega)] at hr
      exact ⟨by rw [decide_eq_true hr]; rfl, rfl⟩
open Classical in
theorem digests_ok (l : List Int) (hl : few l) : ACalls Tryz.prog 81 [.d (.sl 1 (nums l))] [] (fun av L => av = .d (.bool (decide (riseB l 1 65536))) ∧ L = []) := by
  refine acalls_go ttOk zOk foOk Tryz.func81 rfl Tryz.ntmps81 rfl false rfl ?_
  conv => whnf
  refine (crising_ok l hl 1 65536).mono ?_
  rintro _ _ ⟨rfl, rfl⟩
  conv => whnf
  exact ⟨rfl, rfl⟩
end Go.Proofs.YtoeppembokpjkaaGreat

namespace Go.Proofs.YtoeppembokpjkaaGreat
open Go.Ab Go.RowKit Go.MapKept
attribute [local irreducible] ACalls AW ADraw Into fltB fnear
set_option maxRecDepth 100000
/-! ## the page's own: numbers, headers, certificates -/
theorem rMay_ok (n : Int) : ACalls Tryz.prog 45 [.d (.int .i64 n)] [] (fun av L => av = .d (.bool (isN n)) ∧ L = []) := by
  unfold isN
  refine acalls_go ttOk zOk foOk Tryz.func45 rfl Tryz.ntmps45 rfl false rfl ?_
  conv => whnf
  repeat' (first | ((with_reducible apply rd_intro); (focus (intro K hK; (conv => whnf); first | exact hK | (intro z hz; rw [wrapI (by omega)] at hz; subst hz; exact hK))); (conv => whnf)) | ((with_reducible apply gd_and); (focus ((conv => whnf) <;> first | rfl | (intro K hK; (conv => whnf); first | exact hK | (intro z hz; rw [wrapI (by omega)] at hz; subst hz; exact hK)))); (conv => whnf)) | ((with_reducible apply z_wrap); (focus omega); (conv => whnf)) | ((with_reducible first | apply mt_dec | apply mt_eq | apply mt_ne | apply mt_not | apply mt_any) <;> (intro _; conv => whnf)))
  · rename_i h1 h2
    refine ⟨by decide, ?_⟩
    intro z hz
    have hz2 := tmod_pos (by omega) hz
    clear hz
    subst hz2
    conv => whnf
    exact ⟨boolEq (by simp; omega), rfl⟩
  · rename_i h1 h2
    exact ⟨by rw [decide_eq_false (by omega)]; rfl, rfl⟩
  · rename_i h1
    exact ⟨by rw [decide_eq_false (by omega)]; rfl, rfl⟩
theorem rQuorum_ok (n : Int) (hn : isN n = true) : ACalls Tryz.prog 72 [.d (.int .i64 n)] [] (fun av L => av = .d (.int .i64 (2 * ((n - 1) / 3) + 1)) ∧ L = []) := by
  have hn' := of_decide_eq_true hn
  refine acalls_go ttOk zOk foOk Tryz.func72 rfl Tryz.ntmps72 rfl false rfl ?_
  conv => whnf
  refine ⟨by decide, ?_⟩
  intro z hz
  have : z = (n - 1) / 3 := by rw [hz, Int.tdiv_eq_ediv_of_nonneg (by omega), wrapI (by omega)]; omega
  clear hz
  subst this
  conv => whnf
  repeat' (first | ((with_reducible apply rd_intro); (focus (intro K hK; (conv => whnf); first | exact hK | (intro z hz; rw [wrapI (by omega)] at hz; subst hz; exact hK))); (conv => whnf)) | ((with_reducible apply gd_and); (focus ((conv => whnf) <;> first | rfl | (intro K hK; (conv => whnf); first | exact hK | (intro z hz; rw [wrapI (by omega)] at hz; subst hz; exact hK)))); (conv => whnf)) | ((with_reducible apply z_wrap); (focus omega); (conv => whnf)) | ((with_reducible first | apply mt_dec | apply mt_eq | apply mt_ne | apply mt_not | apply mt_any) <;> (intro _; conv => whnf)))
  exact ⟨rfl, rfl⟩
theorem rDigest_ok (n : Int) : ACalls Tryz.prog 71 [.d (.int .i64 n)] [] (fun av L => av = .d (.bool (decide (1 ≤ n ∧ n ≤ 65536))) ∧ L = []) := by
  refine acalls_go ttOk zOk foOk Tryz.func71 rfl Tryz.ntmps71 rfl false rfl ?_
  conv => whnf
  repeat' (first | ((with_reducible apply rd_intro); (focus (intro K hK; (conv => whnf); first | exact hK | (intro z hz; rw [wrapI (by omega)] at hz; subst hz; exact hK))); (conv => whnf)) | ((with_reducible apply gd_and); (focus ((conv => whnf) <;> first | rfl | (intro K hK; (conv => whnf); first | exact hK | (intro z hz; rw [wrapI (by omega)] at hz; subst hz; exact hK)))); (conv => whnf)) | ((with_reducible apply z_wrap); (focus omega); (conv => whnf)) | ((with_reducible first | apply mt_dec | apply mt_eq | apply mt_ne | apply mt_not | apply mt_any) <;> (intro _; conv => whnf)))
  · rename_i h1
    exact ⟨boolEq (by simp; omega), rfl⟩
  · rename_i h1
    exact ⟨by rw [decide_eq_false (by omega)]; rfl, rfl⟩
theorem rBefore_ok (r a s b : Int) : ACalls Tryz.prog 47 [.d (.int .i64 r), .d (.int .i64 a), .d (.int .i64 s), .d (.int .i64 b)] [] (fun av L => av = .d (.bool (decide (r < s ∨ r = s ∧ a < b))) ∧ L = []) := by
  refine acalls_go ttOk zOk foOk Tryz.func47 rfl Tryz.ntmps47 rfl false rfl ?_
  conv => whnf
  repeat' (first | ((with_reducible apply rd_intro); (focus (intro K hK; (conv => whnf); first | exact hK | (intro z hz; rw [wrapI (by omega)] at hz; subst hz; exact hK))); (conv => whnf)) | ((with_reducible apply gd_and); (focus ((conv => whnf) <;> first | rfl | (intro K hK; (conv => whnf); first | exact hK | (intro z hz; rw [wrapI (by omega)] at hz; subst hz; exact hK)))); (conv => whnf)) | ((with_reducible apply z_wrap); (focus omega); (conv => whnf)) | ((with_reducible first | apply mt_dec | apply mt_eq | apply mt_ne | apply mt_not | apply mt_any) <;> (intro _; conv => whnf)))
  · rename_i h1
    exact ⟨by rw [decide_eq_true (.inl h1 : r < s ∨ r = s ∧ a < b)]; rfl, rfl⟩
  · rename_i h1 h2
    exact ⟨boolEq (by simp; omega), rfl⟩
  · rename_i h1 h2
    exact ⟨by rw [decide_eq_false (by omega)]; rfl, rfl⟩
theorem rising_take_succ {l : List Int} {j : Nat} {y x : Int} (hy : l[j]? = some y) (hx : l[j + 1]? = some x) : risingI (l.take (j + 2)) ↔ risingI (l.take (j + 1)) ∧ y < x := by
  rw [show l.take (j + 2) = l.take (j + 1) ++ [x] by rw [List.take_add_one, hx]; rfl, rising_snoc]
  constructor
  · rintro ⟨h1, h2⟩
    exact ⟨h1, h2 y (by rw [List.take_add_one, hy]; simp)⟩
  · rintro ⟨h1, h2⟩
    exact ⟨h1, fun z hz => by have := rising_last h1 hy z hz; omega⟩
open Classical in
theorem rRising_ok (l : List Int) (hl : few l) : ACalls Tryz.prog 43 [.d (.sl 1 (nums l))] [] (fun av L => av = .d (.bool (decide (risingI l))) ∧ L = []) := by
  have hll := nums_length l
  unfold few at hl
  refine acalls_go ttOk zOk foOk Tryz.func43 rfl Tryz.ntmps43 rfl false rfl ?_
  conv => whnf
  refine loop_go ttOk zOk foOk (σ := Nat) (fun j => ([(0, .d (.sl 1 (nums l))), (3, .d (.int .i64 ((j : Int) + 1)))], [])) (fun j => j ≤ l.length ∧ risingI (l.take (j + 1))) (fun j => l.length - j) [0, 3] ?_ ?_
  · conv => whnf
    refine ⟨0, rfl, rfl, Nat.zero_le _, ?_⟩
    cases l with
    | nil => simp [risingI]
    | cons a t => simp [risingI]
  · rintro j ⟨hj, hr⟩
    conv => whnf
    repeat' (first | ((with_reducible apply rd_intro); (focus (intro K hK; (conv => whnf); first | exact hK | (intro z hz; rw [wrapI (by omega)] at hz; subst hz; exact hK))); (conv => whnf)) | ((with_reducible apply gd_and); (focus ((conv => whnf) <;> first | rfl | (intro K hK; (conv => whnf); first | exact hK | (intro z hz; rw [wrapI (by omega)] at hz; subst hz; exact hK)))); (conv => whnf)) | ((with_reducible apply z_wrap); (focus omega); (conv => whnf)) | ((with_reducible first | apply mt_dec | apply mt_eq | apply mt_ne | apply mt_not | apply mt_any) <;> (intro _; conv => whnf)))
    · rename_i h
      obtain ⟨y, hy⟩ : ∃ y, l[j]? = some y := ⟨_, List.getElem?_eq_getElem (by omega)⟩
      obtain ⟨x, hx⟩ : ∃ x, l[j + 1]? = some x := ⟨_, List.getElem?_eq_getElem (by omega)⟩
      have hs := rising_take_succ hy hx
      ((with_reducible refine draw_pl ttOk zOk foOk mixedOk pl43x4 ?_ ?_); (focus kernel_rfl); (conv => whnf))
      repeat' (first | ((with_reducible apply rd_intro); (focus (intro K hK; (conv => whnf); first | exact hK | (intro z hz; rw [wrapI (by omega)] at hz; subst hz; exact hK))); (conv => whnf)) | ((with_reducible apply gd_and); (focus ((conv => whnf) <;> first | rfl | (intro K hK; (conv => whnf); first | exact hK | (intro z hz; rw [wrapI (by omega)] at hz; subst hz; exact hK)))); (conv => whnf)) | ((with_reducible apply z_wrap); (focus omega); (conv => whnf)) | ((with_reducible first | apply mt_dec | apply mt_eq | apply mt_ne | apply mt_not | apply mt_any) <;> (intro _; conv => whnf)))
      ((with_reducible apply rd_intro); (focus (intro K hK; (conv => whnf); exact ⟨by omega, [.int .i64 x], (by rw [show ((j : Int) + 1).toNat = j + 1 by omega]; exact nums_at hx), hK⟩)); (conv => whnf))
      repeat' (first | ((with_reducible apply rd_intro); (focus (intro K hK; (conv => whnf); first | exact hK | (intro z hz; rw [wrapI (by omega)] at hz; subst hz; exact hK))); (conv => whnf)) | ((with_reducible apply gd_and); (focus ((conv => whnf) <;> first | rfl | (intro K hK; (conv => whnf); first | exact hK | (intro z hz; rw [wrapI (by omega)] at hz; subst hz; exact hK)))); (conv => whnf)) | ((with_reducible apply z_wrap); (focus omega); (conv => whnf)) | ((with_reducible first | apply mt_dec | apply mt_eq | apply mt_ne | apply mt_not | apply mt_any) <;> (intro _; conv => whnf)))
      ((with_reducible apply rd_intro); (focus (intro K hK; (conv => whnf); exact ⟨by omega, [.int .i64 y], (by rw [show ((j : Int) + 1 - 1).toNat = j by omega]; exact nums_at hy), hK⟩)); (conv => whnf))
      repeat' (first | ((with_reducible apply rd_intro); (focus (intro K hK; (conv => whnf); first | exact hK | (intro z hz; rw [wrapI (by omega)] at hz; subst hz; exact hK))); (conv => whnf)) | ((with_reducible apply gd_and); (focus ((conv => whnf) <;> first | rfl | (intro K hK; (conv => whnf); first | exact hK | (intro z hz; rw [wrapI (by omega)] at hz; subst hz; exact hK)))); (conv => whnf)) | ((with_reducible apply z_wrap); (focus omega); (conv => whnf)) | ((with_reducible first | apply mt_dec | apply mt_eq | apply mt_ne | apply mt_not | apply mt_any) <;> (intro _; conv => whnf)))
      · rename_i h2
        exact ⟨by rw [decide_eq_false (fun h3 => by have := (hs.1 (h3.sublist (List.take_sublist ..))).2; omega)]; rfl, rfl⟩
      · rename_i h2
        exact ⟨j + 1, rfl, rfl, ⟨by omega, hs.2 ⟨hr, by omega⟩⟩, by omega⟩
    · rename_i h
      rw [List.take_of_length_le (by omega)] at hr
      exact ⟨by rw [decide_eq_true hr]; rfl, rfl⟩
open Classical in
theorem rBetween_ok (l : List Int) (hl : few l) (a b : Int) : ACalls Tryz.prog 69 [.d (.sl 1 (nums l)), .d (.int .i64 a), .d (.int .i64 b)] [] (fun av L => av = .d (.bool (decide (∀ x ∈ l, a ≤ x ∧ x ≤ b))) ∧ L = []) := by
  have hll := nums_length l
  unfold few at hl
  refine acalls_go ttOk zOk foOk Tryz.func69 rfl Tryz.ntmps69 rfl false rfl ?_
  conv => whnf
  refine loop_go ttOk zOk foOk (σ := Nat) (fun j => ([(0, .d (.sl 1 (nums l))), (1, .d (.int .i64 a)), (2, .d (.int .i64 b)), (7, .d (.int .i64 j))], [])) (fun j => j ≤ l.length ∧ ∀ x ∈ l.take j, a ≤ x ∧ x ≤ b) (fun j => l.length - j) [0, 1, 2, 7] ?_ ?_
  · conv => whnf
    exact ⟨0, rfl, rfl, Nat.zero_le _, by simp⟩
  · rintro j ⟨hj, hr⟩
    conv => whnf
    repeat' (first | ((with_reducible apply rd_intro); (focus (intro K hK; (conv => whnf); first | exact hK | (intro z hz; rw [wrapI (by omega)] at hz; subst hz; exact hK))); (conv => whnf)) | ((with_reducible apply gd_and); (focus ((conv => whnf) <;> first | rfl | (intro K hK; (conv => whnf); first | exact hK | (intro z hz; rw [wrapI (by omega)] at hz; subst hz; exact hK)))); (conv => whnf)) | ((with_reducible apply z_wrap); (focus omega); (conv => whnf)) | ((with_reducible first | apply mt_dec | apply mt_eq | apply mt_ne | apply mt_not | apply mt_any) <;> (intro _; conv => whnf)))
    · rename_i h
      obtain ⟨x, hx⟩ : ∃ x, l[j]? = some x := ⟨_, List.getElem?_eq_getElem (by omega)⟩
      refine ⟨by omega, [.int .i64 x], nums_at hx, ?_⟩
      conv => whnf
      repeat' (first | ((with_reducible apply rd_intro); (focus (intro K hK; (conv => whnf); first | exact hK | (intro z hz; rw [wrapI (by omega)] at hz; subst hz; exact hK))); (conv => whnf)) | ((with_reducible apply gd_and); (focus ((conv => whnf) <;> first | rfl | (intro K hK; (conv => whnf); first | exact hK | (intro z hz; rw [wrapI (by omega)] at hz; subst hz; exact hK)))); (conv => whnf)) | ((with_reducible apply z_wrap); (focus omega); (conv => whnf)) | ((with_reducible first | apply mt_dec | apply mt_eq | apply mt_ne | apply mt_not | apply mt_any) <;> (intro _; conv => whnf)))
      · rename_i h2
        exact ⟨by rw [decide_eq_false (fun h3 => by have := h3 x (List.mem_of_getElem? hx); omega)]; rfl, rfl⟩
      · rename_i h2
        refine ⟨by omega, [.int .i64 x], nums_at hx, ?_⟩
        conv => whnf
        repeat' (first | ((with_reducible apply rd_intro); (focus (intro K hK; (conv => whnf); first | exact hK | (intro z hz; rw [wrapI (by omega)] at hz; subst hz; exact hK))); (conv => whnf)) | ((with_reducible apply gd_and); (focus ((conv => whnf) <;> first | rfl | (intro K hK; (conv => whnf); first | exact hK | (intro z hz; rw [wrapI (by omega)] at hz; subst hz; exact hK)))); (conv => whnf)) | ((with_reducible apply z_wrap); (focus omega); (conv => whnf)) | ((with_reducible first | apply mt_dec | apply mt_eq | apply mt_ne | apply mt_not | apply mt_any) <;> (intro _; conv => whnf)))
        · rename_i h3
          exact ⟨by rw [decide_eq_false (fun h4 => by have := h4 x (List.mem_of_getElem? hx); omega)]; rfl, rfl⟩
        · rename_i h3
          refine ⟨j + 1, rfl, rfl, ⟨by omega, fun z hz => ?_⟩, by omega⟩
          rw [List.take_add_one, hx] at hz
          rcases List.mem_append.1 hz with hz | hz
          · exact hr z hz
          · simp at hz; omega
    · rename_i h
      rw [List.take_of_length_le (by omega)] at hr
      exact ⟨by rw [decide_eq_true hr]; rfl, rfl⟩
open Classical in
theorem rDigests_ok (l : List Int) (hl : few l) : ACalls Tryz.prog 42 [.d (.sl 1 (nums l))] [] (fun av L => av = .d (.bool (decide (∀ x ∈ l, 1 ≤ x ∧ x ≤ 65536))) ∧ L = []) := by
  refine acalls_go ttOk zOk foOk Tryz.func42 rfl Tryz.ntmps42 rfl false rfl ?_
  conv => whnf
  refine (rBetween_ok l hl 1 65536).mono ?_
  rintro _ _ ⟨rfl, rfl⟩
  conv => whnf
  exact ⟨rfl, rfl⟩
open Classical in
theorem rdigests_ok (l : List Int) (hl : few l) (m : Int) : ACalls Tryz.prog 96 [.d (.sl 1 (nums l)), .d (.int .i64 m)] [] (fun av L => av = .d (.bool (decide ((l.length : Int) ≤ m ∧ riseB l 1 65536))) ∧ L = []) := by
  have hll := nums_length l
  refine acalls_go ttOk zOk foOk Tryz.func96 rfl Tryz.ntmps96 rfl false rfl ?_
  conv => whnf
  rw [hll]
  repeat' (first | ((with_reducible apply rd_intro); (focus (intro K hK; (conv => whnf); first | exact hK | (intro z hz; rw [wrapI (by omega)] at hz; subst hz; exact hK))); (conv => whnf)) | ((with_reducible apply gd_and); (focus ((conv => whnf) <;> first | rfl | (intro K hK; (conv => whnf); first | exact hK | (intro z hz; rw [wrapI (by omega)] at hz; subst hz; exact hK)))); (conv => whnf)) | ((with_reducible apply z_wrap); (focus omega); (conv => whnf)) | ((with_reducible first | apply mt_dec | apply mt_eq | apply mt_ne | apply mt_not | apply mt_any) <;> (intro _; conv => whnf)))
  · rename_i h1
    refine (rDigests_ok l hl).mono ?_
    rintro _ _ ⟨rfl, rfl⟩
    conv => whnf
    repeat' (first | ((with_reducible apply rd_intro); (focus (intro K hK; (conv => whnf); first | exact hK | (intro z hz; rw [wrapI (by omega)] at hz; subst hz; exact hK))); (conv => whnf)) | ((with_reducible apply gd_and); (focus ((conv => whnf) <;> first | rfl | (intro K hK; (conv => whnf); first | exact hK | (intro z hz; rw [wrapI (by omega)] at hz; subst hz; exact hK)))); (conv => whnf)) | ((with_reducible apply z_wrap); (focus omega); (conv => whnf)) | ((with_reducible first | apply mt_dec | apply mt_eq | apply mt_ne | apply mt_not | apply mt_any) <;> (intro _; conv => whnf)))
    · rename_i h2
      refine (rRising_ok l hl).mono ?_
      rintro _ _ ⟨rfl, rfl⟩
      conv => whnf
      exact ⟨boolEq (by simp only [decide_eq_true_iff]; exact ⟨fun h => ⟨h1, h, h2⟩, fun h => h.2.1⟩), rfl⟩
    · rename_i h2
      exact ⟨by rw [decide_eq_false (fun h => h2 h.2.2)]; rfl, rfl⟩
  · rename_i h1
    exact ⟨by rw [decide_eq_false (fun h => h1 h.1)]; rfl, rfl⟩
end Go.Proofs.YtoeppembokpjkaaGreat

namespace Go.Proofs.YtoeppembokpjkaaGreat
open Go.Ab Go.RowKit Go.MapKept
attribute [local irreducible] ACalls AW ADraw Into fltB fnear
set_option maxRecDepth 100000
def quo (n : Int) : Int := 2 * ((n - 1) / 3) + 1
/-- a header that may be -/
structure okHead (n : Int) (c : Cert) : Prop where
  isn : isN n = true
  author : 1 ≤ c.author ∧ c.author ≤ n
  round : 1 ≤ c.round ∧ c.round ≤ 1099511627776
  bats : (c.bats.length : Int) ≤ 8 ∧ riseB c.bats 1 65536
  pars : (c.pars.length : Int) ≤ n ∧ riseB c.pars 1 65536
  one : c.round = 1 → c.pars = []
  many : c.round ≠ 1 → (c.pars.length : Int) ≥ quo n
structure okCert (n : Int) (c : Cert) : Prop where
  head : okHead n c
  digest : 1 ≤ c.digest ∧ c.digest ≤ 65536
  sigs : riseB c.sigs 1 n
  enough : (c.sigs.length : Int) ≥ quo n
structure fewL (c : Cert) : Prop where
  bats : few c.bats
  pars : few c.pars
  sigs : few c.sigs
open Classical in
theorem rHeader_ok (c : Cert) (hf : fewL c) (n : Int) : ACalls Tryz.prog 70 [c.hav, .d (.int .i64 n)] [] (fun av L => av = .d (.bool (decide (okHead n c))) ∧ L = []) := by
  have hpl := nums_length c.pars
  refine acalls_go ttOk zOk foOk Tryz.func70 rfl Tryz.ntmps70 rfl false rfl ?_
  conv => whnf
  refine (rMay_ok n).mono ?_
  rintro _ _ ⟨rfl, rfl⟩
  cases hn : isN n with
  | false =>
    conv => whnf
    exact ⟨by rw [decide_eq_false (fun h => by have := h.isn; rw [hn] at this; cases this)]; rfl, rfl⟩
  | true =>
    have hn' := of_decide_eq_true hn
    conv => whnf
    repeat' (first | ((with_reducible apply rd_intro); (focus (intro K hK; (conv => whnf); first | exact hK | (intro z hz; rw [wrapI (by omega)] at hz; subst hz; exact hK))); (conv => whnf)) | ((with_reducible apply gd_and); (focus ((conv => whnf) <;> first | rfl | (intro K hK; (conv => whnf); first | exact hK | (intro z hz; rw [wrapI (by omega)] at hz; subst hz; exact hK)))); (conv => whnf)) | ((with_reducible apply z_wrap); (focus omega); (conv => whnf)) | ((with_reducible first | apply mt_dec | apply mt_eq | apply mt_ne | apply mt_not | apply mt_any) <;> (intro _; conv => whnf)))
    · rename_i h
      exact ⟨by rw [decide_eq_false (fun h1 => by have := h1.author; omega)]; rfl, rfl⟩
    · rename_i h1 h
      exact ⟨by rw [decide_eq_false (fun h1 => by have := h1.author; omega)]; rfl, rfl⟩
    · rename_i h1 h2 h
      exact ⟨by rw [decide_eq_false (fun h1 => by have := h1.round; omega)]; rfl, rfl⟩
    · rename_i h1 h2 h3 h
      exact ⟨by rw [decide_eq_false (fun h1 => by have := h1.round; omega)]; rfl, rfl⟩
    · rename_i h1 h2 h3 h4
      refine (rdigests_ok c.bats hf.bats 8).mono ?_
      rintro _ _ ⟨rfl, rfl⟩
      conv => whnf
      repeat' (first | ((with_reducible apply rd_intro); (focus (intro K hK; (conv => whnf); first | exact hK | (intro z hz; rw [wrapI (by omega)] at hz; subst hz; exact hK))); (conv => whnf)) | ((with_reducible apply gd_and); (focus ((conv => whnf) <;> first | rfl | (intro K hK; (conv => whnf); first | exact hK | (intro z hz; rw [wrapI (by omega)] at hz; subst hz; exact hK)))); (conv => whnf)) | ((with_reducible apply z_wrap); (focus omega); (conv => whnf)) | ((with_reducible first | apply mt_dec | apply mt_eq | apply mt_ne | apply mt_not | apply mt_any) <;> (intro _; conv => whnf)))
      · rename_i h5
        exact ⟨by rw [decide_eq_false (fun h => of_decide_eq_false h5 h.bats)]; rfl, rfl⟩
      · rename_i h5
        replace h5 := of_decide_eq_true h5
        refine (rdigests_ok c.pars hf.pars n).mono ?_
        rintro _ _ ⟨rfl, rfl⟩
        conv => whnf
        repeat' (first | ((with_reducible apply rd_intro); (focus (intro K hK; (conv => whnf); first | exact hK | (intro z hz; rw [wrapI (by omega)] at hz; subst hz; exact hK))); (conv => whnf)) | ((with_reducible apply gd_and); (focus ((conv => whnf) <;> first | rfl | (intro K hK; (conv => whnf); first | exact hK | (intro z hz; rw [wrapI (by omega)] at hz; subst hz; exact hK)))); (conv => whnf)) | ((with_reducible apply z_wrap); (focus omega); (conv => whnf)) | ((with_reducible first | apply mt_dec | apply mt_eq | apply mt_ne | apply mt_not | apply mt_any) <;> (intro _; conv => whnf)))
        · rename_i h6
          exact ⟨by rw [decide_eq_false (fun h => of_decide_eq_false h6 h.pars)]; rfl, rfl⟩
        · rename_i h6 h7
          replace h6 := of_decide_eq_true h6
          refine ⟨boolEq ?_, rfl⟩
          simp only [beq_iff_eq, decide_eq_true_iff, hpl]
          constructor
          · intro h8
            exact ⟨hn, by omega, by omega, h5, h6, fun _ => List.eq_nil_of_length_eq_zero (by omega), fun h => absurd h7 h⟩
          · intro h8
            rw [h8.one h7]; rfl
        · rename_i h6 h7
          replace h6 := of_decide_eq_true h6
          ((with_reducible refine draw_pl ttOk zOk foOk mixedOk pl70x5 ?_ ?_); (focus kernel_rfl); (conv => whnf))
          repeat' (first | ((with_reducible apply rd_intro); (focus (intro K hK; (conv => whnf); first | exact hK | (intro z hz; rw [wrapI (by omega)] at hz; subst hz; exact hK))); (conv => whnf)) | ((with_reducible apply gd_and); (focus ((conv => whnf) <;> first | rfl | (intro K hK; (conv => whnf); first | exact hK | (intro z hz; rw [wrapI (by omega)] at hz; subst hz; exact hK)))); (conv => whnf)) | ((with_reducible apply z_wrap); (focus omega); (conv => whnf)) | ((with_reducible first | apply mt_dec | apply mt_eq | apply mt_ne | apply mt_not | apply mt_any) <;> (intro _; conv => whnf)))
          refine (rQuorum_ok n hn).mono ?_
          rintro _ _ ⟨rfl, rfl⟩
          conv => whnf
          repeat' (first | ((with_reducible apply rd_intro); (focus (intro K hK; (conv => whnf); first | exact hK | (intro z hz; rw [wrapI (by omega)] at hz; subst hz; exact hK))); (conv => whnf)) | ((with_reducible apply gd_and); (focus ((conv => whnf) <;> first | rfl | (intro K hK; (conv => whnf); first | exact hK | (intro z hz; rw [wrapI (by omega)] at hz; subst hz; exact hK)))); (conv => whnf)) | ((with_reducible apply z_wrap); (focus omega); (conv => whnf)) | ((with_reducible first | apply mt_dec | apply mt_eq | apply mt_ne | apply mt_not | apply mt_any) <;> (intro _; conv => whnf)))
          refine ⟨boolEq ?_, rfl⟩
          simp only [decide_eq_true_iff, hpl]
          constructor
          · intro h8
            exact ⟨hn, by omega, by omega, h5, h6, fun h => absurd h h7, fun _ => h8⟩
          · intro h8
            exact h8.many h7
open Classical in
theorem rCert_ok (c : Cert) (hf : fewL c) (n : Int) : ACalls Tryz.prog 46 [c.av, .d (.int .i64 n)] [] (fun av L => av = .d (.bool (decide (okCert n c))) ∧ L = []) := by
  have hsl := nums_length c.sigs
  refine acalls_go ttOk zOk foOk Tryz.func46 rfl Tryz.ntmps46 rfl false rfl ?_
  conv => whnf
  ((with_reducible refine draw_pl ttOk zOk foOk mixedOk pl46x1 ?_ ?_); (focus kernel_rfl); (conv => whnf))
  repeat' (first | ((with_reducible apply rd_intro); (focus (intro K hK; (conv => whnf); first | exact hK | (intro z hz; rw [wrapI (by omega)] at hz; subst hz; exact hK))); (conv => whnf)) | ((with_reducible apply gd_and); (focus ((conv => whnf) <;> first | rfl | (intro K hK; (conv => whnf); first | exact hK | (intro z hz; rw [wrapI (by omega)] at hz; subst hz; exact hK)))); (conv => whnf)) | ((with_reducible apply z_wrap); (focus omega); (conv => whnf)) | ((with_reducible first | apply mt_dec | apply mt_eq | apply mt_ne | apply mt_not | apply mt_any) <;> (intro _; conv => whnf)))
  refine (rHeader_ok c hf n).mono ?_
  rintro _ _ ⟨rfl, rfl⟩
  conv => whnf
  repeat' (first | ((with_reducible apply rd_intro); (focus (intro K hK; (conv => whnf); first | exact hK | (intro z hz; rw [wrapI (by omega)] at hz; subst hz; exact hK))); (conv => whnf)) | ((with_reducible apply gd_and); (focus ((conv => whnf) <;> first | rfl | (intro K hK; (conv => whnf); first | exact hK | (intro z hz; rw [wrapI (by omega)] at hz; subst hz; exact hK)))); (conv => whnf)) | ((with_reducible apply z_wrap); (focus omega); (conv => whnf)) | ((with_reducible first | apply mt_dec | apply mt_eq | apply mt_ne | apply mt_not | apply mt_any) <;> (intro _; conv => whnf)))
  · rename_i h1
    refine (rDigest_ok c.digest).mono ?_
    rintro _ _ ⟨rfl, rfl⟩
    conv => whnf
    repeat' (first | ((with_reducible apply rd_intro); (focus (intro K hK; (conv => whnf); first | exact hK | (intro z hz; rw [wrapI (by omega)] at hz; subst hz; exact hK))); (conv => whnf)) | ((with_reducible apply gd_and); (focus ((conv => whnf) <;> first | rfl | (intro K hK; (conv => whnf); first | exact hK | (intro z hz; rw [wrapI (by omega)] at hz; subst hz; exact hK)))); (conv => whnf)) | ((with_reducible apply z_wrap); (focus omega); (conv => whnf)) | ((with_reducible first | apply mt_dec | apply mt_eq | apply mt_ne | apply mt_not | apply mt_any) <;> (intro _; conv => whnf)))
    · rename_i h2
      refine (rRising_ok c.sigs hf.sigs).mono ?_
      rintro _ _ ⟨rfl, rfl⟩
      conv => whnf
      repeat' (first | ((with_reducible apply rd_intro); (focus (intro K hK; (conv => whnf); first | exact hK | (intro z hz; rw [wrapI (by omega)] at hz; subst hz; exact hK))); (conv => whnf)) | ((with_reducible apply gd_and); (focus ((conv => whnf) <;> first | rfl | (intro K hK; (conv => whnf); first | exact hK | (intro z hz; rw [wrapI (by omega)] at hz; subst hz; exact hK)))); (conv => whnf)) | ((with_reducible apply z_wrap); (focus omega); (conv => whnf)) | ((with_reducible first | apply mt_dec | apply mt_eq | apply mt_ne | apply mt_not | apply mt_any) <;> (intro _; conv => whnf)))
      · rename_i h3
        refine (rBetween_ok c.sigs hf.sigs 1 n).mono ?_
        rintro _ _ ⟨rfl, rfl⟩
        conv => whnf
        repeat' (first | ((with_reducible apply rd_intro); (focus (intro K hK; (conv => whnf); first | exact hK | (intro z hz; rw [wrapI (by omega)] at hz; subst hz; exact hK))); (conv => whnf)) | ((with_reducible apply gd_and); (focus ((conv => whnf) <;> first | rfl | (intro K hK; (conv => whnf); first | exact hK | (intro z hz; rw [wrapI (by omega)] at hz; subst hz; exact hK)))); (conv => whnf)) | ((with_reducible apply z_wrap); (focus omega); (conv => whnf)) | ((with_reducible first | apply mt_dec | apply mt_eq | apply mt_ne | apply mt_not | apply mt_any) <;> (intro _; conv => whnf)))
        · rename_i h4
          refine (rQuorum_ok n h1.isn).mono ?_
          rintro _ _ ⟨rfl, rfl⟩
          conv => whnf
          repeat' (first | ((with_reducible apply rd_intro); (focus (intro K hK; (conv => whnf); first | exact hK | (intro z hz; rw [wrapI (by omega)] at hz; subst hz; exact hK))); (conv => whnf)) | ((with_reducible apply gd_and); (focus ((conv => whnf) <;> first | rfl | (intro K hK; (conv => whnf); first | exact hK | (intro z hz; rw [wrapI (by omega)] at hz; subst hz; exact hK)))); (conv => whnf)) | ((with_reducible apply z_wrap); (focus omega); (conv => whnf)) | ((with_reducible first | apply mt_dec | apply mt_eq | apply mt_ne | apply mt_not | apply mt_any) <;> (intro _; conv => whnf)))
          refine ⟨boolEq ?_, rfl⟩
          simp only [decide_eq_true_iff, hsl]
          exact ⟨fun h => ⟨h1, h2, ⟨h3, h4⟩, h⟩, fun h => h.enough⟩
        · rename_i h4
          exact ⟨by rw [decide_eq_false (fun h => h4 h.sigs.2)]; rfl, rfl⟩
      · rename_i h3
        exact ⟨by rw [decide_eq_false (fun h => h3 h.sigs.1)]; rfl, rfl⟩
    · rename_i h2
      exact ⟨by rw [decide_eq_false (fun h => h2 h.digest)]; rfl, rfl⟩
  · rename_i h1
    exact ⟨by rw [decide_eq_false (fun h => h1 h.head)]; rfl, rfl⟩
end Go.Proofs.YtoeppembokpjkaaGreat

namespace Go.Proofs.YtoeppembokpjkaaGreat
open Go.Ab Go.RowKit Go.MapKept
attribute [local irreducible] ACalls AW ADraw Into fltB fnear
set_option maxRecDepth 100000
structure okForm (n : Int) (c : Cert) : Prop where
  author : 1 ≤ c.author ∧ c.author ≤ n
  round : 1 ≤ c.round ∧ c.round ≤ 1099511627776
  bats : (c.bats.length : Int) ≤ 8 ∧ riseB c.bats 1 65536
  pars : (c.pars.length : Int) ≤ n ∧ riseB c.pars 1 65536
  one : c.round = 1 → c.pars = []
open Classical in
theorem form_ok (c : Cert) (hf : fewL c) (n : Int) : ACalls Tryz.prog 120 [c.hav, .d (.int .i64 n)] [] (fun av L => av = .d (.bool (decide (okForm n c))) ∧ L = []) := by
  have hpl := nums_length c.pars
  have hbl := nums_length c.bats
  refine acalls_go ttOk zOk foOk Tryz.func120 rfl Tryz.ntmps120 rfl false rfl ?_
  conv => whnf
  repeat' (first | ((with_reducible apply rd_intro); (focus (intro K hK; (conv => whnf); first | exact hK | (intro z hz; rw [wrapI (by omega)] at hz; subst hz; exact hK))); (conv => whnf)) | ((with_reducible apply gd_and); (focus ((conv => whnf) <;> first | rfl | (intro K hK; (conv => whnf); first | exact hK | (intro z hz; rw [wrapI (by omega)] at hz; subst hz; exact hK)))); (conv => whnf)) | ((with_reducible apply z_wrap); (focus omega); (conv => whnf)) | ((with_reducible first | apply mt_dec | apply mt_eq | apply mt_ne | apply mt_not | apply mt_any) <;> (intro _; conv => whnf)))
  · rename_i h
    exact ⟨by rw [decide_eq_false (fun h1 => by have := h1.author; omega)]; rfl, rfl⟩
  · rename_i h1 h
    exact ⟨by rw [decide_eq_false (fun h1 => by have := h1.author; omega)]; rfl, rfl⟩
  · rename_i h1 h2 h
    exact ⟨by rw [decide_eq_false (fun h1 => by have := h1.round; omega)]; rfl, rfl⟩
  · rename_i h1 h2 h3 h
    exact ⟨by rw [decide_eq_false (fun h1 => by have := h1.round; omega)]; rfl, rfl⟩
  · rename_i h1 h2 h3 h4 h
    exact ⟨by rw [decide_eq_false (fun h1 => by have := h1.bats.1; omega)]; rfl, rfl⟩
  · rename_i h1 h2 h3 h4 h5
    refine (digests_ok c.bats hf.bats).mono ?_
    rintro _ _ ⟨rfl, rfl⟩
    conv => whnf
    repeat' (first | ((with_reducible apply rd_intro); (focus (intro K hK; (conv => whnf); first | exact hK | (intro z hz; rw [wrapI (by omega)] at hz; subst hz; exact hK))); (conv => whnf)) | ((with_reducible apply gd_and); (focus ((conv => whnf) <;> first | rfl | (intro K hK; (conv => whnf); first | exact hK | (intro z hz; rw [wrapI (by omega)] at hz; subst hz; exact hK)))); (conv => whnf)) | ((with_reducible apply z_wrap); (focus omega); (conv => whnf)) | ((with_reducible first | apply mt_dec | apply mt_eq | apply mt_ne | apply mt_not | apply mt_any) <;> (intro _; conv => whnf)))
    · rename_i h6
      refine (digests_ok c.pars hf.pars).mono ?_
      rintro _ _ ⟨rfl, rfl⟩
      conv => whnf
      repeat' (first | ((with_reducible apply rd_intro); (focus (intro K hK; (conv => whnf); first | exact hK | (intro z hz; rw [wrapI (by omega)] at hz; subst hz; exact hK))); (conv => whnf)) | ((with_reducible apply gd_and); (focus ((conv => whnf) <;> first | rfl | (intro K hK; (conv => whnf); first | exact hK | (intro z hz; rw [wrapI (by omega)] at hz; subst hz; exact hK)))); (conv => whnf)) | ((with_reducible apply z_wrap); (focus omega); (conv => whnf)) | ((with_reducible first | apply mt_dec | apply mt_eq | apply mt_ne | apply mt_not | apply mt_any) <;> (intro _; conv => whnf)))
      · rename_i h7 h8 h9
        exact ⟨by rw [decide_eq_true ⟨by omega, by omega, ⟨by omega, h6⟩, ⟨by omega, h7⟩, fun h => absurd h (by omega)⟩]; rfl, rfl⟩
      · rename_i h7 h8 h9
        refine ⟨boolEq ?_, rfl⟩
        simp only [beq_iff_eq, decide_eq_true_iff, hpl]
        exact ⟨fun h => ⟨by omega, by omega, ⟨by omega, h6⟩, ⟨by omega, h7⟩, fun _ => List.eq_nil_of_length_eq_zero (by omega)⟩, fun h => by rw [h.one (by omega)]; rfl⟩
      · rename_i h7 h8
        exact ⟨by rw [decide_eq_false (fun h => by have := h.pars.1; omega)]; rfl, rfl⟩
      · rename_i h7
        exact ⟨by rw [decide_eq_false (fun h => h7 h.pars.2)]; rfl, rfl⟩
    · rename_i h6
      exact ⟨by rw [decide_eq_false (fun h => h6 h.bats.2)]; rfl, rfl⟩
open Classical in
theorem hMay_ok (c : Cert) (hf : fewL c) (n : Int) : ACalls Tryz.prog 101 [c.hav, .d (.int .i64 n)] [] (fun av L => av = .d (.bool (decide (okHead n c))) ∧ L = []) := by
  have hpl := nums_length c.pars
  refine acalls_go ttOk zOk foOk Tryz.func101 rfl Tryz.ntmps101 rfl false rfl ?_
  conv => whnf
  ((with_reducible refine draw_pl ttOk zOk foOk mixedOk pl101x1 ?_ ?_); (focus kernel_rfl); (conv => whnf))
  repeat' (first | ((with_reducible apply rd_intro); (focus (intro K hK; (conv => whnf); first | exact hK | (intro z hz; rw [wrapI (by omega)] at hz; subst hz; exact hK))); (conv => whnf)) | ((with_reducible apply gd_and); (focus ((conv => whnf) <;> first | rfl | (intro K hK; (conv => whnf); first | exact hK | (intro z hz; rw [wrapI (by omega)] at hz; subst hz; exact hK)))); (conv => whnf)) | ((with_reducible apply z_wrap); (focus omega); (conv => whnf)) | ((with_reducible first | apply mt_dec | apply mt_eq | apply mt_ne | apply mt_not | apply mt_any) <;> (intro _; conv => whnf)))
  refine (is_ok n).mono ?_
  rintro _ _ ⟨rfl, rfl⟩
  obtain ⟨b, hb⟩ : ∃ b, isN n = b := ⟨_, rfl⟩
  rw [hb]
  conv => whnf
  repeat' (first | ((with_reducible apply rd_intro); (focus (intro K hK; (conv => whnf); first | exact hK | (intro z hz; rw [wrapI (by omega)] at hz; subst hz; exact hK))); (conv => whnf)) | ((with_reducible apply gd_and); (focus ((conv => whnf) <;> first | rfl | (intro K hK; (conv => whnf); first | exact hK | (intro z hz; rw [wrapI (by omega)] at hz; subst hz; exact hK)))); (conv => whnf)) | ((with_reducible apply z_wrap); (focus omega); (conv => whnf)) | ((with_reducible first | apply mt_dec | apply mt_eq | apply mt_ne | apply mt_not | apply mt_any) <;> (intro _; conv => whnf)))
  · rename_i h1
    rw [h1] at hb
    have hn' := of_decide_eq_true hb
    refine (form_ok c hf n).mono ?_
    rintro _ _ ⟨rfl, rfl⟩
    conv => whnf
    repeat' (first | ((with_reducible apply rd_intro); (focus (intro K hK; (conv => whnf); first | exact hK | (intro z hz; rw [wrapI (by omega)] at hz; subst hz; exact hK))); (conv => whnf)) | ((with_reducible apply gd_and); (focus ((conv => whnf) <;> first | rfl | (intro K hK; (conv => whnf); first | exact hK | (intro z hz; rw [wrapI (by omega)] at hz; subst hz; exact hK)))); (conv => whnf)) | ((with_reducible apply z_wrap); (focus omega); (conv => whnf)) | ((with_reducible first | apply mt_dec | apply mt_eq | apply mt_ne | apply mt_not | apply mt_any) <;> (intro _; conv => whnf)))
    · rename_i h2 h3
      exact ⟨by rw [decide_eq_true ⟨hb, h2.author, h2.round, h2.bats, h2.pars, h2.one, fun h => absurd h3 h⟩]; rfl, rfl⟩
    · rename_i h2 h3
      refine (q_ok n ⟨by omega, by omega⟩).mono ?_
      rintro _ _ ⟨rfl, rfl⟩
      conv => whnf
      repeat' (first | ((with_reducible apply rd_intro); (focus (intro K hK; (conv => whnf); first | exact hK | (intro z hz; rw [wrapI (by omega)] at hz; subst hz; exact hK))); (conv => whnf)) | ((with_reducible apply gd_and); (focus ((conv => whnf) <;> first | rfl | (intro K hK; (conv => whnf); first | exact hK | (intro z hz; rw [wrapI (by omega)] at hz; subst hz; exact hK)))); (conv => whnf)) | ((with_reducible apply z_wrap); (focus omega); (conv => whnf)) | ((with_reducible first | apply mt_dec | apply mt_eq | apply mt_ne | apply mt_not | apply mt_any) <;> (intro _; conv => whnf)))
      refine ⟨boolEq ?_, rfl⟩
      simp only [decide_eq_true_iff, hpl]
      exact ⟨fun h => ⟨hb, h2.author, h2.round, h2.bats, h2.pars, h2.one, fun _ => h⟩, fun h => h.many h3⟩
    · rename_i h2
      exact ⟨by rw [decide_eq_false (fun h => h2 ⟨h.author, h.round, h.bats, h.pars, h.one⟩)]; rfl, rfl⟩
  · rename_i h1
    rw [h1] at hb
    exact ⟨by rw [decide_eq_false (fun h => by have := h.isn; rw [hb] at this; cases this)]; rfl, rfl⟩
open Classical in
theorem mayCert_ok (c : Cert) (hf : fewL c) (n : Int) : ACalls Tryz.prog 78 [c.av, .d (.int .i64 n)] [] (fun av L => av = .d (.bool (decide (okCert n c))) ∧ L = []) := by
  have hsl := nums_length c.sigs
  refine acalls_go ttOk zOk foOk Tryz.func78 rfl Tryz.ntmps78 rfl false rfl ?_
  conv => whnf
  ((with_reducible refine draw_pl ttOk zOk foOk mixedOk pl78x1 ?_ ?_); (focus kernel_rfl); (conv => whnf))
  repeat' (first | ((with_reducible apply rd_intro); (focus (intro K hK; (conv => whnf); first | exact hK | (intro z hz; rw [wrapI (by omega)] at hz; subst hz; exact hK))); (conv => whnf)) | ((with_reducible apply gd_and); (focus ((conv => whnf) <;> first | rfl | (intro K hK; (conv => whnf); first | exact hK | (intro z hz; rw [wrapI (by omega)] at hz; subst hz; exact hK)))); (conv => whnf)) | ((with_reducible apply z_wrap); (focus omega); (conv => whnf)) | ((with_reducible first | apply mt_dec | apply mt_eq | apply mt_ne | apply mt_not | apply mt_any) <;> (intro _; conv => whnf)))
  refine (hMay_ok c hf n).mono ?_
  rintro _ _ ⟨rfl, rfl⟩
  conv => whnf
  repeat' (first | ((with_reducible apply rd_intro); (focus (intro K hK; (conv => whnf); first | exact hK | (intro z hz; rw [wrapI (by omega)] at hz; subst hz; exact hK))); (conv => whnf)) | ((with_reducible apply gd_and); (focus ((conv => whnf) <;> first | rfl | (intro K hK; (conv => whnf); first | exact hK | (intro z hz; rw [wrapI (by omega)] at hz; subst hz; exact hK)))); (conv => whnf)) | ((with_reducible apply z_wrap); (focus omega); (conv => whnf)) | ((with_reducible first | apply mt_dec | apply mt_eq | apply mt_ne | apply mt_not | apply mt_any) <;> (intro _; conv => whnf)))
  · rename_i h1
    have hn' := of_decide_eq_true h1.isn
    refine (digest_ok c.digest).mono ?_
    rintro _ _ ⟨rfl, rfl⟩
    conv => whnf
    repeat' (first | ((with_reducible apply rd_intro); (focus (intro K hK; (conv => whnf); first | exact hK | (intro z hz; rw [wrapI (by omega)] at hz; subst hz; exact hK))); (conv => whnf)) | ((with_reducible apply gd_and); (focus ((conv => whnf) <;> first | rfl | (intro K hK; (conv => whnf); first | exact hK | (intro z hz; rw [wrapI (by omega)] at hz; subst hz; exact hK)))); (conv => whnf)) | ((with_reducible apply z_wrap); (focus omega); (conv => whnf)) | ((with_reducible first | apply mt_dec | apply mt_eq | apply mt_ne | apply mt_not | apply mt_any) <;> (intro _; conv => whnf)))
    · rename_i h2
      refine (crising_ok c.sigs hf.sigs 1 n).mono ?_
      rintro _ _ ⟨rfl, rfl⟩
      conv => whnf
      repeat' (first | ((with_reducible apply rd_intro); (focus (intro K hK; (conv => whnf); first | exact hK | (intro z hz; rw [wrapI (by omega)] at hz; subst hz; exact hK))); (conv => whnf)) | ((with_reducible apply gd_and); (focus ((conv => whnf) <;> first | rfl | (intro K hK; (conv => whnf); first | exact hK | (intro z hz; rw [wrapI (by omega)] at hz; subst hz; exact hK)))); (conv => whnf)) | ((with_reducible apply z_wrap); (focus omega); (conv => whnf)) | ((with_reducible first | apply mt_dec | apply mt_eq | apply mt_ne | apply mt_not | apply mt_any) <;> (intro _; conv => whnf)))
      · rename_i h3
        refine (q_ok n ⟨by omega, by omega⟩).mono ?_
        rintro _ _ ⟨rfl, rfl⟩
        conv => whnf
        repeat' (first | ((with_reducible apply rd_intro); (focus (intro K hK; (conv => whnf); first | exact hK | (intro z hz; rw [wrapI (by omega)] at hz; subst hz; exact hK))); (conv => whnf)) | ((with_reducible apply gd_and); (focus ((conv => whnf) <;> first | rfl | (intro K hK; (conv => whnf); first | exact hK | (intro z hz; rw [wrapI (by omega)] at hz; subst hz; exact hK)))); (conv => whnf)) | ((with_reducible apply z_wrap); (focus omega); (conv => whnf)) | ((with_reducible first | apply mt_dec | apply mt_eq | apply mt_ne | apply mt_not | apply mt_any) <;> (intro _; conv => whnf)))
        refine ⟨boolEq ?_, rfl⟩
        simp only [decide_eq_true_iff, hsl]
        exact ⟨fun h => ⟨h1, h2, h3, h⟩, fun h => h.enough⟩
      · rename_i h3
        exact ⟨by rw [decide_eq_false (fun h => h3 h.sigs)]; rfl, rfl⟩
    · rename_i h2
      exact ⟨by rw [decide_eq_false (fun h => h2 h.digest)]; rfl, rfl⟩
  · rename_i h1
    exact ⟨by rw [decide_eq_false (fun h => h1 h.head)]; rfl, rfl⟩
end Go.Proofs.YtoeppembokpjkaaGreat

namespace Go.Proofs.YtoeppembokpjkaaGreat
open Go.Ab Go.RowKit
/-! ## chains of anchors -/
theorem dig_inj {l : List Cert} (h : (l.map (·.digest)).Nodup) {x y : Cert} (hx : x ∈ l) (hy : y ∈ l) (e : x.digest = y.digest) : x = y := by
  induction l with
  | nil => cases hx
  | cons z r ih =>
    rw [List.map_cons, List.nodup_cons] at h
    rcases List.mem_cons.1 hx with hx1 | hx1
    · rcases List.mem_cons.1 hy with hy1 | hy1
      · rw [hx1, hy1]
      · exact absurd (List.mem_map.2 ⟨y, hy1, by rw [← e, hx1]⟩) h.1
    · rcases List.mem_cons.1 hy with hy1 | hy1
      · exact absurd (List.mem_map.2 ⟨x, hx1, by rw [e, hy1]⟩) h.1
      · exact ih h.2 hx1 hy1
/-- the certificate of a digest -/
def certOf (d : Dag) (x : Int) : Option Cert := (getC d.certs x).bind fun i => d.certs[i]?
theorem certOf_mem {d : Dag} (h : (d.certs.map (·.digest)).Nodup) {c : Cert} (hc : c ∈ d.certs) : certOf d c.digest = some c := by
  unfold certOf
  cases hg : getC d.certs c.digest with
  | none =>
    unfold getC at hg
    rw [List.findIdx?_eq_none_iff] at hg
    have := hg c hc
    simp at this
  | some i =>
    obtain ⟨c', h1, h2⟩ := getC_some hg
    rw [Option.bind_some, h1, dig_inj h (List.mem_of_getElem? h1) hc h2]
theorem certOf_some {d : Dag} {x : Int} {c : Cert} (h : certOf d x = some c) : c ∈ d.certs ∧ c.digest = x ∧ ∃ i, getC d.certs x = some i ∧ d.certs[i]? = some c := by
  unfold certOf at h
  cases hg : getC d.certs x with
  | none => rw [hg] at h; cases h
  | some i =>
    rw [hg, Option.bind_some] at h
    obtain ⟨c', h1, h2⟩ := getC_some hg
    rw [h1] at h; cases h
    exact ⟨List.mem_of_getElem? h1, h2, i, rfl, h1⟩
theorem anchor_cert {d : Dag} (hw : d.well) {r : Int} (h : anchorI d r ≠ 0) : ∃ c, certOf d (anchorI d r) = some c ∧ c.round = r ∧ c.author = leadI d.nodes r := by
  unfold anchorI at h ⊢
  cases hc : atC d.certs r (leadI d.nodes r) with
  | none => rw [hc] at h; exact absurd rfl h
  | some c =>
    have h1 := List.find?_some hc
    simp only [decide_eq_true_eq] at h1
    exact ⟨c, certOf_mem hw.dig (List.mem_of_find?_eq_some hc), h1⟩
theorem anchor_pos {d : Dag} (hw : d.well) {r : Int} : anchorI d r ≠ 0 ↔ (atC d.certs r (leadI d.nodes r)).isSome = true := by
  unfold anchorI
  cases hc : atC d.certs r (leadI d.nodes r) with
  | none => simp
  | some c =>
    have := hw.pos c (List.mem_of_find?_eq_some hc)
    show c.digest ≠ 0 ↔ _
    simp
    omega
/-- the round of a digest's certificate -/
def roundOf (d : Dag) (x : Int) : Int := (certOf d x).elim 0 (·.round)
theorem anchor_round {d : Dag} (hw : d.well) {r : Int} (h : anchorI d r ≠ 0) : roundOf d (anchorI d r) = r := by
  obtain ⟨c, h1, h2, _⟩ := anchor_cert hw h
  rw [roundOf, h1]; exact h2
/-- digests of certificates that are there, of rounds in between, each above the next one -/
theorem backR_all {d : Dag} (hw : d.well) (after : Int) : ∀ (r : Int) (i : Nat), (∀ x ∈ backR d after r i, ∃ q, after < q ∧ q ≤ r - 2 ∧ x = anchorI d q ∧ anchorI d q ≠ 0) ∧ (backR d after r i).Pairwise fun x y => roundOf d y < roundOf d x := by
  intro r i
  induction r, i using backR.induct (d := d) (after := after) with
  | case1 r i h => rw [back_end h]; exact ⟨by simp, List.Pairwise.nil⟩
  | case2 r i h h2 ih =>
    rw [back_no h h2]
    exact ⟨fun x hx => by obtain ⟨q, h3, h4, h5⟩ := ih.1 x hx; exact ⟨q, h3, by omega, h5⟩, ih.2⟩
  | case3 r i h h2 h3 =>
    obtain ⟨j, c, h4, _⟩ := anchor_get h2
    rw [h3] at h4; cases h4
  | case4 r i h h2 j h3 h4 ih =>
    rw [back_yes h h2 h3, if_pos h4]
    refine ⟨fun x hx => ?_, List.pairwise_cons.2 ⟨fun y hy => ?_, ih.2⟩⟩
    · rcases List.mem_cons.1 hx with rfl | hx
      · exact ⟨r - 2, by omega, by omega, rfl, h2⟩
      · obtain ⟨q, h5, h6, h7⟩ := ih.1 x hx; exact ⟨q, h5, by omega, h7⟩
    · obtain ⟨q, h5, h6, rfl, h8⟩ := ih.1 y hy
      rw [anchor_round hw h2, anchor_round hw h8]
      omega
  | case5 r i h h2 j h3 h4 ih =>
    rw [back_yes h h2 h3, if_neg h4]
    exact ⟨fun x hx => by obtain ⟨q, h5, h6, h7⟩ := ih.1 x hx; exact ⟨q, h5, by omega, h7⟩, ih.2⟩
theorem backI_all {d : Dag} (hw : d.well) {after r : Int} (hr : after < r) (h0 : anchorI d r ≠ 0) : (∀ x ∈ backI d after r, ∃ q, after < q ∧ q ≤ r ∧ x = anchorI d q ∧ anchorI d q ≠ 0) ∧ (backI d after r).Pairwise (fun x y => roundOf d x < roundOf d y) ∧ (backI d after r).getLast? = some (anchorI d r) := by
  unfold backI
  obtain ⟨h1, h2⟩ := backR_all hw after r ((getC d.certs (anchorI d r)).getD 0)
  refine ⟨fun x hx => ?_, ?_, by simp⟩
  · rcases List.mem_cons.1 (List.mem_reverse.1 hx) with rfl | hx
    · exact ⟨r, hr, Int.le_refl _, rfl, h0⟩
    · obtain ⟨q, h3, h4, h5⟩ := h1 x hx; exact ⟨q, h3, by omega, h5⟩
  · rw [List.pairwise_reverse]
    refine List.pairwise_cons.2 ⟨fun y hy => ?_, h2⟩
    obtain ⟨q, h3, h4, rfl, h6⟩ := h1 y hy
    rw [anchor_round hw h0, anchor_round hw h6]
    omega
/-! ## putting out -/
def Wk.putA (d : Dag) (w : Wk) (a : Int) : Wk := match getC d.certs a with | some i => (match d.certs[i]? with | some c => w.put d i c | none => w) | none => w
theorem putA_eq {d : Dag} {w : Wk} {a : Int} {i : Nat} {c : Cert} (h : getC d.certs a = some i) (h2 : d.certs[i]? = some c) : w.putA d a = w.put d i c := by unfold Wk.putA; rw [h]; simp only [h2]
def Wk.putL (d : Dag) (w : Wk) (l : List Int) : Wk := l.foldl (fun w a => w.putA d a) w
def below (d : Dag) (r : Int) : Nat := (d.certs.filter fun c => decide (c.round ≤ r)).length
theorem below_lt {d : Dag} {c : Cert} (h : c ∈ d.certs) {r : Int} (hr : r < c.round) : below d r + 1 ≤ below d c.round := by
  unfold below
  obtain ⟨l, hl⟩ : ∃ l, d.certs = l := ⟨_, rfl⟩
  rw [hl] at h ⊢
  clear hl
  induction l with
  | nil => cases h
  | cons x t ih =>
    have hmono : (t.filter fun c' => decide (c'.round ≤ r)).length ≤ (t.filter fun c' => decide (c'.round ≤ c.round)).length := by
      rw [← List.countP_eq_length_filter, ← List.countP_eq_length_filter]
      exact List.countP_mono_left fun y _ hy => by simp at hy ⊢; omega
    rcases List.mem_cons.1 h with rfl | h
    · simp only [List.filter_cons, decide_eq_true_eq]
      rw [if_neg (by omega), if_pos (by omega), List.length_cons]
      omega
    · have := ih h
      simp only [List.filter_cons, decide_eq_true_eq]
      by_cases h1 : x.round ≤ r
      · rw [if_pos h1, if_pos (by omega), List.length_cons, List.length_cons]; omega
      · rw [if_neg h1]
        split
        · rw [List.length_cons]; omega
        · exact this
theorem below_le (d : Dag) (r : Int) : below d r ≤ d.certs.length := List.length_filter_le ..
/-- what holds of one that goes on -/
structure Wk.okay (d : Dag) (w : Wk) : Prop where
  fine : w.fine d
  outs : w.outs.length ≤ 65536 * below d w.c.round
theorem Wk.okay.put {d : Dag} (hw : d.well) {w : Wk} (h : w.okay d) {i : Nat} {c : Cert} (hc : d.certs[i]? = some c) (hr : w.c.round < c.round) : (w.put d i c).okay d := by
  refine ⟨h.fine.put hw i c, ?_⟩
  have h1 := below_lt (List.mem_of_getElem? hc) hr
  have h2 : (behindI d i c.round w.c.done).length ≤ 65536 := by
    have h1 := List.length_filter_le (fun x => !decide (x ∈ w.c.done)) (riseI d i (c.round - 8))
    have h2 := rise_len d i (c.round - 8)
    have h3 := hw.len
    unfold behindI
    omega
  have h3 := h.outs
  show (w.outs ++ _).length ≤ 65536 * below d c.round
  rw [List.length_append]
  omega
theorem Wk.okay.outs' {d : Dag} (hw : d.well) {w : Wk} (h : w.okay d) : w.outs.length ≤ 4294967296 := by
  have h1 := h.outs
  have h2 := below_le d w.c.round
  have h3 := hw.len
  omega
end Go.Proofs.YtoeppembokpjkaaGreat

namespace Go.Proofs.YtoeppembokpjkaaGreat
open Go.Ab Go.RowKit Go.MapKept
attribute [local irreducible] ACalls AW ADraw Into fltB fnear
set_option maxRecDepth 100000
/-! ## maps of numbers to numbers -/
def mapP (ps : List (Int × Int)) : List (KV × MV) := ps.map fun p => (.one (.int .i64 p.1), .v (.one (.int .i64 p.2)))
def lookP (k : Int) : List (Int × Int) → Option Int
  | [] => none
  | p :: r => if p.1 = k then some p.2 else lookP k r
theorem mapP_find (k : Int) : ∀ (ps : List (Int × Int)) (j : Nat), ∃ r, mfind (.one (.int .i64 k)) (mapP ps) j = some r ∧ ((∃ v i, lookP k ps = some v ∧ r = some (i, .v (.one (.int .i64 v)))) ∨ (lookP k ps = none ∧ r = none))
  | [], j => ⟨none, rfl, .inr ⟨rfl, rfl⟩⟩
  | p :: t, j => by
    obtain ⟨r, h1, h2⟩ := mapP_find k t (j + 1)
    have e : mfind (.one (.int .i64 k)) (mapP (p :: t)) j = match some (k == p.1) with
        | some true => some (some (j, .v (.one (.int .i64 p.2))))
        | some false => mfind (.one (.int .i64 k)) (mapP t) (j + 1)
        | none => none := rfl
    by_cases h : p.1 = k
    · rw [e, show (k == p.1) = true by simp [h]]
      exact ⟨_, rfl, .inl ⟨p.2, j, by rw [lookP, if_pos h], rfl⟩⟩
    · rw [e, show (k == p.1) = false by simpa using Ne.symm h]
      refine ⟨r, h1, ?_⟩
      rw [lookP, if_neg h]
      exact h2
theorem lookP_none {k : Int} : ∀ {ps : List (Int × Int)}, (∀ p ∈ ps, p.1 ≠ k) → lookP k ps = none
  | [], _ => rfl
  | p :: r, h => by rw [lookP, if_neg (h p (by simp)), lookP_none fun q hq => h q (by simp [hq])]
theorem lookP_some {k v : Int} : ∀ {ps : List (Int × Int)}, (ps.map (·.1)).Nodup → (k, v) ∈ ps → lookP k ps = some v
  | p :: r, hn, h => by
    rw [List.map_cons, List.nodup_cons] at hn
    rcases List.mem_cons.1 h with h | h
    · subst h; rw [lookP, if_pos rfl]
    · rw [lookP, if_neg (fun e => hn.1 (List.mem_map.2 ⟨_, h, e.symm⟩)), lookP_some hn.2 h]
theorem mapP_new {k v : Int} {ps : List (Int × Int)} (h : lookP k ps = none) : ∃ r, mfind (.one (.int .i64 k)) (mapP ps) 0 = some r ∧ mputAt (mapP ps) r (.one (.int .i64 k)) (.v (.one (.int .i64 v))) = mapP (ps ++ [(k, v)]) := by
  obtain ⟨r, h1, ⟨w, i, h2, _⟩ | ⟨_, rfl⟩⟩ := mapP_find k ps 0
  · rw [h] at h2; cases h2
  · exact ⟨none, h1, by simp [mputAt, mapP]⟩
/-! ## a DAG that may be -/
structure Valid (d : Dag) : Prop where
  nodes : isN d.nodes = true
  low : 0 ≤ d.low ∧ d.low ≤ 1099511627776
  len : d.certs.length ≤ 65536
  certs : ∀ c ∈ d.certs, okCert d.nodes c
  above : ∀ c ∈ d.certs, d.low < c.round
  sorted : sortedC d.certs
  dig : (d.certs.map (·.digest)).Nodup
  here : ∀ c ∈ d.certs, c.round > d.low + 1 → ∀ x ∈ c.pars, ∃ c' ∈ d.certs, c'.digest = x ∧ c'.round = c.round - 1
theorem Valid.well {d : Dag} (h : Valid d) : d.well := by
  have hn := of_decide_eq_true h.nodes
  have hr : ∀ c ∈ d.certs, 1 ≤ c.round ∧ c.round ≤ 1099511627776 := fun c hc => (h.certs c hc).head.round
  have ha : ∀ c ∈ d.certs, 1 ≤ c.author ∧ c.author ≤ d.nodes := fun c hc => (h.certs c hc).head.author
  have hl := h.len
  refine ⟨⟨by unfold few; omega, h.sorted, fun c hc => ⟨⟨by have := hr c hc; omega, by have := hr c hc; omega⟩, ⟨by have := ha c hc; omega, by have := ha c hc; omega⟩⟩, fun c hc => ⟨(ha c hc).1, by have := ha c hc; omega⟩⟩, ⟨by omega, by omega⟩, fun c hc => by have := (h.certs c hc).head.pars.1; unfold few; omega, h.low, ?_, h.len, h.dig, fun c hc => (h.certs c hc).digest.1⟩
  unfold topR
  cases hg : d.certs.getLast? with
  | none => decide
  | some c => exact (hr c (List.mem_of_getLast? hg)).2
theorem Valid.fewL {d : Dag} (h : Valid d) {c : Cert} (hc : c ∈ d.certs) : fewL c := by
  have hn := of_decide_eq_true h.nodes
  have h1 := h.certs c hc
  have h2 := h1.head.bats.1
  have h3 := h1.head.pars.1
  refine ⟨by unfold few; omega, by unfold few; omega, ?_⟩
  have := rising_nodup h1.sigs.1
  have := sub_len (m := (List.range 17).map fun n : Nat => (n : Int)) this fun x hx => by
    have := h1.sigs.2 x hx
    exact List.mem_map.2 ⟨x.toNat, by simp; omega, by omega⟩
  simp at this
  unfold few
  omega
def seenP (l : List Cert) : List (Int × Int) := l.map fun c => (c.digest, c.round)
theorem seen_keys (l : List Cert) : (seenP l).map (·.1) = l.map (·.digest) := by simp [seenP]
theorem Valid.fresh {d : Dag} (h : Valid d) {j : Nat} {c : Cert} (hc : d.certs[j]? = some c) : lookP c.digest (seenP (d.certs.take j)) = none := by
  refine lookP_none fun p hp e => ?_
  obtain ⟨c', hc', rfl⟩ := List.mem_map.1 hp
  have h1 := h.dig
  have h2 : d.certs.take (j + 1) = d.certs.take j ++ [c] := by rw [List.take_add_one, hc]; rfl
  have h3 : ((d.certs.take (j + 1)).map (·.digest)).Nodup := h1.sublist ((List.take_sublist ..).map _)
  rw [h2, List.map_append, List.nodup_append] at h3
  exact h3.2.2 c'.digest (List.mem_map.2 ⟨c', hc', rfl⟩) c.digest (by simp) e
theorem Valid.parent {d : Dag} (h : Valid d) {j : Nat} {c : Cert} (hc : d.certs[j]? = some c) (hr : c.round > d.low + 1) {x : Int} (hx : x ∈ c.pars) : lookP x (seenP (d.certs.take j)) = some (c.round - 1) := by
  obtain ⟨c', h1, h2, h3⟩ := h.here c (List.mem_of_getElem? hc) hr x hx
  obtain ⟨i, hi⟩ := List.getElem?_of_mem h1
  have hjl : j < d.certs.length := by
    rcases Nat.lt_or_ge j d.certs.length with h | h
    · exact h
    · rw [List.getElem?_eq_none h] at hc; cases hc
  have hil : i < d.certs.length := by
    rcases Nat.lt_or_ge i d.certs.length with h | h
    · exact h
    · rw [List.getElem?_eq_none h] at hi; cases hi
  have hij : i < j := by
    rcases Nat.lt_trichotomy i j with h4 | h4 | h4
    · exact h4
    · subst h4; rw [hc] at hi; cases hi; omega
    · have := List.pairwise_iff_getElem.1 h.sorted j i hjl hil h4
      rw [List.getElem?_eq_getElem hjl] at hc
      rw [List.getElem?_eq_getElem hil] at hi
      cases hc; cases hi
      have := before_iff.1 this
      omega
  refine lookP_some ?_ ?_
  · rw [seen_keys]; exact h.dig.sublist ((List.take_sublist ..).map _)
  · refine List.mem_map.2 ⟨c', ?_, by rw [h2, h3]⟩
    rw [List.mem_take_iff_getElem]
    rw [List.getElem?_eq_getElem hil] at hi
    exact ⟨i, by omega, Option.some.inj hi⟩
end Go.Proofs.YtoeppembokpjkaaGreat

namespace Go.Proofs.YtoeppembokpjkaaGreat
open Go.Ab Go.RowKit Go.MapKept
attribute [local irreducible] ACalls AW ADraw Into fltB fnear
set_option maxRecDepth 100000
theorem getC_no {l : List Cert} {x : Int} (h : ∀ c ∈ l, c.digest ≠ x) : getC l x = none := by
  unfold getC
  rw [List.findIdx?_eq_none_iff]
  intro c hc
  simp [h c hc]
theorem getC_here {l : List Cert} {x : Int} {j : Nat} {c : Cert} (hc : l[j]? = some c) (hx : c.digest = x) (h : ∀ c ∈ l.take j, c.digest ≠ x) : getC l x = some j := by
  unfold getC
  rw [List.findIdx?_eq_some_iff_getElem]
  obtain ⟨hj, rfl⟩ := List.getElem?_eq_some_iff.1 hc
  refine ⟨hj, by simpa using hx, fun i hi => ?_⟩
  have := h l[i] (List.mem_take_iff_getElem.2 ⟨i, by omega, rfl⟩)
  simpa using this
theorem rFind_ok (d : Dag) (hd : few d.certs) (x : Int) : ACalls Tryz.prog 52 [d.av, .d (.int .i64 x)] [] (fun av L => av = .d (.int .i64 (getI d.certs x)) ∧ L = []) := by
  have hcl := certsD_length d.certs
  unfold few at hd
  refine acalls_go ttOk zOk foOk Tryz.func52 rfl Tryz.ntmps52 rfl false rfl ?_
  conv => whnf
  refine loop_go ttOk zOk foOk (σ := Nat) (fun j => ([(1, .d (.int .i64 x)), (2, .ptr 0 0), (5, .d (.int .i64 j))], [.cells d.cells])) (fun j => j ≤ d.certs.length ∧ ∀ c ∈ d.certs.take j, c.digest ≠ x) (fun j => d.certs.length - j) [1, 2, 5] ?_ ?_
  · conv => whnf
    exact ⟨0, rfl, rfl, Nat.zero_le _, by simp⟩
  · rintro j ⟨hj, hall⟩
    conv => whnf
    rw [hcl]
    repeat' (first | ((with_reducible apply z_wrap); (focus omega); (conv => whnf)) | ((with_reducible first | apply mt_dec | apply mt_eq | apply mt_ne | apply mt_not | apply mt_any) <;> (intro _; conv => whnf)))
    · rename_i h
      refine Exists.elim (⟨_, List.getElem?_eq_getElem (by omega)⟩ : ∃ c, d.certs[j]? = some c) fun c hc => ?_
      refine ⟨by omega, c.cs, certsD_at hc, ?_⟩
      conv => whnf
      repeat' (first | ((with_reducible apply z_wrap); (focus omega); (conv => whnf)) | ((with_reducible first | apply mt_dec | apply mt_eq | apply mt_ne | apply mt_not | apply mt_any) <;> (intro _; conv => whnf)))
      · rename_i h2
        rw [getI, getC_here hc h2 hall]
        exact ⟨rfl, rfl⟩
      · rename_i h2
        refine ⟨j + 1, rfl, rfl, ⟨by omega, fun y hy => ?_⟩, by omega⟩
        rw [List.take_add_one, hc] at hy
        rcases List.mem_append.1 hy with hy | hy
        · exact hall y hy
        · simp at hy; rw [hy]; exact h2
    · rename_i h
      rw [List.take_of_length_le (by omega)] at hall
      rw [getI, getC_no hall]
      exact ⟨rfl, rfl⟩
end Go.Proofs.YtoeppembokpjkaaGreat
