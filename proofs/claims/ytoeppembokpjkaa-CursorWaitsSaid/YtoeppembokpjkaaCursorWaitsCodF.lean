/- CursorWaits: for every Ask the law returns true, and its argument reads behind the call as it read before. No condition of ours. -/
import Derived.Test.YtoeppembokpjkaaCursorWaitsCodE
import Derived.Test.YtoeppembokpjkaaRows

set_option linter.unusedVariables false
set_option linter.unusedSimpArgs false
namespace Go.Proofs.Ytoeppembokpjkaa
open Go.Ab Go.RowKit Go.MapKept
attribute [local irreducible] ACalls AW ADraw Into fltB fnear
set_option maxRecDepth 100000
/-! ## the layers 16 and 17 by their public calls -/
theorem anchors_ok (r : Int) (hr : 2 ≤ r ∧ r ≤ 1099511627776) (h2 : r % 2 = 0) : ACalls Try.prog 64 [.d (.int .i64 r)] [] (fun av L => av = .d (.bool true) ∧ L = []) := by
  refine acalls_go ttOk zOk foOk Try.func64 rfl Try.ntmps64 rfl false rfl ?_
  conv => whnf
  repeat' (first | ((with_reducible apply rd_intro); (focus (intro K hK; (conv => whnf); first | exact hK | (intro z hz; rw [wrapI (by omega)] at hz; subst hz; exact hK))); (conv => whnf)) | ((with_reducible apply gd_and); (focus ((conv => whnf) <;> first | rfl | (intro K hK; (conv => whnf); first | exact hK | (intro z hz; rw [wrapI (by omega)] at hz; subst hz; exact hK)))); (conv => whnf)) | ((with_reducible apply z_wrap); (focus omega); (conv => whnf)) | ((with_reducible refine mt_dec (fun _ => ?_) (fun _ => ?_)) <;> (conv => whnf)) | ((with_reducible refine mt_eq (fun _ => ?_) (fun _ => ?_)) <;> (conv => whnf)) | ((with_reducible refine mt_ne (fun _ => ?_) (fun _ => ?_)) <;> (conv => whnf)) | ((with_reducible refine mt_not (fun _ => ?_) (fun _ => ?_)) <;> (conv => whnf)) | ((with_reducible refine mt_any (fun _ => ?_) (fun _ => ?_)) <;> (conv => whnf)))
  · refine ⟨by decide, ?_⟩
    intro z hz
    have hz2 := tmod_pos (by omega) hz
    clear hz
    subst hz2
    rw [h2]
    conv => whnf
    exact ⟨rfl, rfl⟩
  · rename_i h1 h2; exact absurd hr.2 h2
  · rename_i h1; exact absurd hr.1 h1
theorem ask_ok (d : Dag) (h : Valid d) (r : Int) (hr : 2 ≤ r ∧ r ≤ 1099511627776) (h2 : r % 2 = 0) : ACalls Try.prog 42 [d.av, .d (.int .i64 r)] [] (fun av L => av = .d (.bool true) ∧ L = []) := by
  have hm := dagMay_ok d h
  refine acalls_go ttOk zOk foOk Try.func42 rfl Try.ntmps42 rfl false rfl ?_
  conv => whnf
  refine hm.mono ?_
  rintro _ _ ⟨rfl, rfl⟩
  conv => whnf
  refine (anchors_ok r hr h2).mono ?_
  rintro _ _ ⟨rfl, rfl⟩
  conv => whnf
  exact ⟨rfl, rfl⟩
theorem direct_ok (d : Dag) (h : Valid d) (r : Int) (hr : 2 ≤ r ∧ r ≤ 1099511627776) (h2 : r % 2 = 0) : ACalls Try.prog 26 [d.av, .d (.int .i64 r)] [] (fun av L => av = .tup [.d (.bool (settled d r)), .d (.int .i64 0)] ∧ L = []) := by
  have hw := h.well
  have ha := ask_ok d h r hr h2
  refine acalls_go ttOk zOk foOk Try.func26 rfl Try.ntmps26 rfl false rfl ?_
  conv => whnf
  refine ha.mono ?_
  rintro _ _ ⟨rfl, rfl⟩
  conv => whnf
  refine (settled_ok d hw.fit hw.nodes hw.pars r hr).mono ?_
  rintro _ _ ⟨rfl, rfl⟩
  conv => whnf
  exact ⟨rfl, rfl⟩
theorem chain_ok (d : Dag) (h : Valid d) (after r : Int) (ha : 0 ≤ after) (ha2 : after % 2 = 0) (har : after < r) (hr : 2 ≤ r ∧ r ≤ 1099511627776) (h2 : r % 2 = 0) (h0 : anchorI d r ≠ 0) : ACalls Try.prog 27 [d.av, .d (.int .i64 after), .d (.int .i64 r)] [] (fun av L => av = .tup [.d (.sl 1 (nums (backI d after r))), .d (.int .i64 0)] ∧ L = []) := by
  have hw := h.well
  have hask := ask_ok d h r hr h2
  refine acalls_go ttOk zOk foOk Try.func27 rfl Try.ntmps27 rfl false rfl ?_
  conv => whnf
  refine hask.mono ?_
  rintro _ _ ⟨rfl, rfl⟩
  conv => whnf
  repeat' (first | ((with_reducible apply rd_intro); (focus (intro K hK; (conv => whnf); first | exact hK | (intro z hz; rw [wrapI (by omega)] at hz; subst hz; exact hK))); (conv => whnf)) | ((with_reducible apply gd_and); (focus ((conv => whnf) <;> first | rfl | (intro K hK; (conv => whnf); first | exact hK | (intro z hz; rw [wrapI (by omega)] at hz; subst hz; exact hK)))); (conv => whnf)) | ((with_reducible apply z_wrap); (focus omega); (conv => whnf)) | ((with_reducible refine mt_dec (fun _ => ?_) (fun _ => ?_)) <;> (conv => whnf)) | ((with_reducible refine mt_eq (fun _ => ?_) (fun _ => ?_)) <;> (conv => whnf)) | ((with_reducible refine mt_ne (fun _ => ?_) (fun _ => ?_)) <;> (conv => whnf)) | ((with_reducible refine mt_not (fun _ => ?_) (fun _ => ?_)) <;> (conv => whnf)) | ((with_reducible refine mt_any (fun _ => ?_) (fun _ => ?_)) <;> (conv => whnf)))
  · rename_i hx; exact absurd hx (by omega)
  refine ⟨by decide, ?_⟩
  intro z hz
  have hz2 := tmod_pos ha hz
  clear hz
  subst hz2
  rw [ha2]
  conv => whnf
  repeat' (first | ((with_reducible apply rd_intro); (focus (intro K hK; (conv => whnf); first | exact hK | (intro z hz; rw [wrapI (by omega)] at hz; subst hz; exact hK))); (conv => whnf)) | ((with_reducible apply gd_and); (focus ((conv => whnf) <;> first | rfl | (intro K hK; (conv => whnf); first | exact hK | (intro z hz; rw [wrapI (by omega)] at hz; subst hz; exact hK)))); (conv => whnf)) | ((with_reducible apply z_wrap); (focus omega); (conv => whnf)) | ((with_reducible refine mt_dec (fun _ => ?_) (fun _ => ?_)) <;> (conv => whnf)) | ((with_reducible refine mt_eq (fun _ => ?_) (fun _ => ?_)) <;> (conv => whnf)) | ((with_reducible refine mt_ne (fun _ => ?_) (fun _ => ?_)) <;> (conv => whnf)) | ((with_reducible refine mt_not (fun _ => ?_) (fun _ => ?_)) <;> (conv => whnf)) | ((with_reducible refine mt_any (fun _ => ?_) (fun _ => ?_)) <;> (conv => whnf)))
  · rename_i hx; exact absurd hx (by omega)
  refine (anchorOf_ok d hw.fit hw.nodes r ⟨hr.1, by omega⟩).mono ?_
  rintro _ _ ⟨rfl, rfl⟩
  conv => whnf
  repeat' (first | ((with_reducible apply rd_intro); (focus (intro K hK; (conv => whnf); first | exact hK | (intro z hz; rw [wrapI (by omega)] at hz; subst hz; exact hK))); (conv => whnf)) | ((with_reducible apply gd_and); (focus ((conv => whnf) <;> first | rfl | (intro K hK; (conv => whnf); first | exact hK | (intro z hz; rw [wrapI (by omega)] at hz; subst hz; exact hK)))); (conv => whnf)) | ((with_reducible apply z_wrap); (focus omega); (conv => whnf)) | ((with_reducible refine mt_dec (fun _ => ?_) (fun _ => ?_)) <;> (conv => whnf)) | ((with_reducible refine mt_eq (fun _ => ?_) (fun _ => ?_)) <;> (conv => whnf)) | ((with_reducible refine mt_ne (fun _ => ?_) (fun _ => ?_)) <;> (conv => whnf)) | ((with_reducible refine mt_not (fun _ => ?_) (fun _ => ?_)) <;> (conv => whnf)) | ((with_reducible refine mt_any (fun _ => ?_) (fun _ => ?_)) <;> (conv => whnf)))
  · rename_i hx; exact absurd hx h0
  refine (back_ok d hw after r ha har h2 hr h0).mono ?_
  rintro _ _ ⟨rfl, rfl⟩
  conv => whnf
  exact ⟨rfl, rfl⟩
theorem orising_ok (l : List Int) (hl : few l) (h : risingI l) : ACalls Try.prog 46 [.d (.sl 1 (nums l))] [] (fun av L => av = .d (.bool true) ∧ L = []) := by
  have hll := nums_length l
  unfold few at hl
  refine acalls_go ttOk zOk foOk Try.func46 rfl Try.ntmps46 rfl false rfl ?_
  conv => whnf
  refine scope_go ttOk zOk foOk (σ := Nat) (fun j => ([(0, .d (.sl 1 (nums l))), (3, .d (.int .i64 ((j : Int) + 1)))], [])) (fun k j => k = 0 ∧ j ≤ l.length) (fun _ j => l.length - j) ?_ ?_
  · rintro k rest hk j ⟨rfl, hj⟩
    have e := Option.some.inj (show some _ = some rest from hk)
    subst e
    clear hk
    conv => whnf
    repeat' (first | ((with_reducible apply rd_intro); (focus (intro K hK; (conv => whnf); first | exact hK | (intro z hz; rw [wrapI (by omega)] at hz; subst hz; exact hK))); (conv => whnf)) | ((with_reducible apply gd_and); (focus ((conv => whnf) <;> first | rfl | (intro K hK; (conv => whnf); first | exact hK | (intro z hz; rw [wrapI (by omega)] at hz; subst hz; exact hK)))); (conv => whnf)) | ((with_reducible apply z_wrap); (focus omega); (conv => whnf)) | ((with_reducible refine mt_dec (fun _ => ?_) (fun _ => ?_)) <;> (conv => whnf)) | ((with_reducible refine mt_eq (fun _ => ?_) (fun _ => ?_)) <;> (conv => whnf)) | ((with_reducible refine mt_ne (fun _ => ?_) (fun _ => ?_)) <;> (conv => whnf)) | ((with_reducible refine mt_not (fun _ => ?_) (fun _ => ?_)) <;> (conv => whnf)) | ((with_reducible refine mt_any (fun _ => ?_) (fun _ => ?_)) <;> (conv => whnf)))
    · exact ⟨rfl, rfl⟩
    · rename_i hjl
      obtain ⟨y, hy⟩ : ∃ y, l[j]? = some y := ⟨_, List.getElem?_eq_getElem (by omega)⟩
      obtain ⟨x, hx⟩ : ∃ x, l[j + 1]? = some x := ⟨_, List.getElem?_eq_getElem (by omega)⟩
      have hyx : y < x := by
        obtain ⟨h1, rfl⟩ := List.getElem?_eq_some_iff.1 hy
        obtain ⟨h2, rfl⟩ := List.getElem?_eq_some_iff.1 hx
        exact List.pairwise_iff_getElem.1 h j (j + 1) h1 h2 (by omega)
      ((with_reducible refine draw_pl ttOk zOk foOk mixedOk pl46x4 ?_ ?_); (focus kernel_rfl); (conv => whnf))
      repeat' (first | ((with_reducible apply rd_intro); (focus (intro K hK; (conv => whnf); first | exact hK | (intro z hz; rw [wrapI (by omega)] at hz; subst hz; exact hK))); (conv => whnf)) | ((with_reducible apply gd_and); (focus ((conv => whnf) <;> first | rfl | (intro K hK; (conv => whnf); first | exact hK | (intro z hz; rw [wrapI (by omega)] at hz; subst hz; exact hK)))); (conv => whnf)) | ((with_reducible apply z_wrap); (focus omega); (conv => whnf)) | ((with_reducible refine mt_dec (fun _ => ?_) (fun _ => ?_)) <;> (conv => whnf)) | ((with_reducible refine mt_eq (fun _ => ?_) (fun _ => ?_)) <;> (conv => whnf)) | ((with_reducible refine mt_ne (fun _ => ?_) (fun _ => ?_)) <;> (conv => whnf)) | ((with_reducible refine mt_not (fun _ => ?_) (fun _ => ?_)) <;> (conv => whnf)) | ((with_reducible refine mt_any (fun _ => ?_) (fun _ => ?_)) <;> (conv => whnf)))
      ((with_reducible apply rd_intro); (focus (intro K hK; (conv => whnf); exact ⟨by omega, [.int .i64 y], (by rw [show ((j : Int) + 1 - 1).toNat = j by omega]; exact nums_at hy), hK⟩)); (conv => whnf))
      repeat' (first | ((with_reducible apply rd_intro); (focus (intro K hK; (conv => whnf); first | exact hK | (intro z hz; rw [wrapI (by omega)] at hz; subst hz; exact hK))); (conv => whnf)) | ((with_reducible apply gd_and); (focus ((conv => whnf) <;> first | rfl | (intro K hK; (conv => whnf); first | exact hK | (intro z hz; rw [wrapI (by omega)] at hz; subst hz; exact hK)))); (conv => whnf)) | ((with_reducible apply z_wrap); (focus omega); (conv => whnf)) | ((with_reducible refine mt_dec (fun _ => ?_) (fun _ => ?_)) <;> (conv => whnf)) | ((with_reducible refine mt_eq (fun _ => ?_) (fun _ => ?_)) <;> (conv => whnf)) | ((with_reducible refine mt_ne (fun _ => ?_) (fun _ => ?_)) <;> (conv => whnf)) | ((with_reducible refine mt_not (fun _ => ?_) (fun _ => ?_)) <;> (conv => whnf)) | ((with_reducible refine mt_any (fun _ => ?_) (fun _ => ?_)) <;> (conv => whnf)))
      ((with_reducible apply rd_intro); (focus (intro K hK; (conv => whnf); exact ⟨by omega, [.int .i64 x], (by rw [show ((j : Int) + 1).toNat = j + 1 by omega]; exact nums_at hx), hK⟩)); (conv => whnf))
      repeat' (first | ((with_reducible apply rd_intro); (focus (intro K hK; (conv => whnf); first | exact hK | (intro z hz; rw [wrapI (by omega)] at hz; subst hz; exact hK))); (conv => whnf)) | ((with_reducible apply gd_and); (focus ((conv => whnf) <;> first | rfl | (intro K hK; (conv => whnf); first | exact hK | (intro z hz; rw [wrapI (by omega)] at hz; subst hz; exact hK)))); (conv => whnf)) | ((with_reducible apply z_wrap); (focus omega); (conv => whnf)) | ((with_reducible refine mt_dec (fun _ => ?_) (fun _ => ?_)) <;> (conv => whnf)) | ((with_reducible refine mt_eq (fun _ => ?_) (fun _ => ?_)) <;> (conv => whnf)) | ((with_reducible refine mt_ne (fun _ => ?_) (fun _ => ?_)) <;> (conv => whnf)) | ((with_reducible refine mt_not (fun _ => ?_) (fun _ => ?_)) <;> (conv => whnf)) | ((with_reducible refine mt_any (fun _ => ?_) (fun _ => ?_)) <;> (conv => whnf)))
      · refine into_of [0, 3] ?_
        conv => whnf
        exact ⟨j + 1, rfl, rfl, ⟨rfl, by omega⟩, by show l.length - (j + 1) < l.length - j; omega⟩
      · rename_i hx; exact absurd hyx hx
  · intro pass
    conv => whnf
    refine aw_at (σ := Unit) (fun _ => ([(0, .d (.sl 1 (nums l))), (3, .d (.int .i64 1))], [])) (fun _ => True) [0, 3] ?_ ?_
    · conv => whnf
      exact ⟨(), rfl, rfl, trivial⟩
    · intro _ _
      exact pass 0 _ rfl 0 ⟨rfl, Nat.zero_le _⟩
theorem order_ok (d : Dag) (h : Valid d) (h0 : d.low = 0) {i : Nat} {c : Cert} (hg : getC d.certs c.digest = some i) (hc : d.certs[i]? = some c) (done : List Int) (hdl : few done) (hdr : risingI done) : ACalls Try.prog 28 [d.av, .d (.int .i64 c.digest), .d (.sl 1 (nums done))] [] (fun av L => av = .tup [.d (.sl 1 (nums (behindI d i c.round done))), .d (.int .i64 0)] ∧ L = []) := by
  have hw := h.well
  have hlen := h.len
  have hcl := certsD_length d.certs
  have hcr := (h.certs c (List.mem_of_getElem? hc)).head.round
  have hil := (List.getElem?_eq_some_iff.1 hc).1
  have hgi : getI d.certs c.digest = i := by rw [getI, hg]; rfl
  have hm := dagMay_ok d h
  refine acalls_go ttOk zOk foOk Try.func28 rfl Try.ntmps28 rfl false rfl ?_
  conv => whnf
  refine hm.mono ?_
  rintro _ _ ⟨rfl, rfl⟩
  conv => whnf
  refine (orising_ok done hdl hdr).mono ?_
  rintro _ _ ⟨rfl, rfl⟩
  conv => whnf
  repeat' (first | ((with_reducible apply rd_intro); (focus (intro K hK; (conv => whnf); first | exact hK | (intro z hz; rw [wrapI (by omega)] at hz; subst hz; exact hK))); (conv => whnf)) | ((with_reducible apply gd_and); (focus ((conv => whnf) <;> first | rfl | (intro K hK; (conv => whnf); first | exact hK | (intro z hz; rw [wrapI (by omega)] at hz; subst hz; exact hK)))); (conv => whnf)) | ((with_reducible apply z_wrap); (focus omega); (conv => whnf)) | ((with_reducible refine mt_dec (fun _ => ?_) (fun _ => ?_)) <;> (conv => whnf)) | ((with_reducible refine mt_eq (fun _ => ?_) (fun _ => ?_)) <;> (conv => whnf)) | ((with_reducible refine mt_ne (fun _ => ?_) (fun _ => ?_)) <;> (conv => whnf)) | ((with_reducible refine mt_not (fun _ => ?_) (fun _ => ?_)) <;> (conv => whnf)) | ((with_reducible refine mt_any (fun _ => ?_) (fun _ => ?_)) <;> (conv => whnf)))
  refine (get_ok d hw.fit.few c.digest).mono ?_
  rintro _ _ ⟨rfl, rfl⟩
  rw [hgi]
  conv => whnf
  repeat' (first | ((with_reducible apply rd_intro); (focus (intro K hK; (conv => whnf); first | exact hK | (intro z hz; rw [wrapI (by omega)] at hz; subst hz; exact hK))); (conv => whnf)) | ((with_reducible apply gd_and); (focus ((conv => whnf) <;> first | rfl | (intro K hK; (conv => whnf); first | exact hK | (intro z hz; rw [wrapI (by omega)] at hz; subst hz; exact hK)))); (conv => whnf)) | ((with_reducible apply z_wrap); (focus omega); (conv => whnf)) | ((with_reducible refine mt_dec (fun _ => ?_) (fun _ => ?_)) <;> (conv => whnf)) | ((with_reducible refine mt_eq (fun _ => ?_) (fun _ => ?_)) <;> (conv => whnf)) | ((with_reducible refine mt_ne (fun _ => ?_) (fun _ => ?_)) <;> (conv => whnf)) | ((with_reducible refine mt_not (fun _ => ?_) (fun _ => ?_)) <;> (conv => whnf)) | ((with_reducible refine mt_any (fun _ => ?_) (fun _ => ?_)) <;> (conv => whnf)))
  ((with_reducible refine draw_pl ttOk zOk foOk mixedOk pl28x6 ?_ ?_); (focus kernel_rfl); (conv => whnf))
  repeat' (first | ((with_reducible apply rd_intro); (focus (intro K hK; (conv => whnf); first | exact hK | (intro z hz; rw [wrapI (by omega)] at hz; subst hz; exact hK))); (conv => whnf)) | ((with_reducible apply gd_and); (focus ((conv => whnf) <;> first | rfl | (intro K hK; (conv => whnf); first | exact hK | (intro z hz; rw [wrapI (by omega)] at hz; subst hz; exact hK)))); (conv => whnf)) | ((with_reducible apply z_wrap); (focus omega); (conv => whnf)) | ((with_reducible refine mt_dec (fun _ => ?_) (fun _ => ?_)) <;> (conv => whnf)) | ((with_reducible refine mt_eq (fun _ => ?_) (fun _ => ?_)) <;> (conv => whnf)) | ((with_reducible refine mt_ne (fun _ => ?_) (fun _ => ?_)) <;> (conv => whnf)) | ((with_reducible refine mt_not (fun _ => ?_) (fun _ => ?_)) <;> (conv => whnf)) | ((with_reducible refine mt_any (fun _ => ?_) (fun _ => ?_)) <;> (conv => whnf)))
  ((with_reducible apply rd_intro); (focus (intro K hK; (conv => whnf); exact ⟨by omega, c.cs, certsD_at hc, hK⟩)); (conv => whnf))
  repeat' (first | ((with_reducible apply rd_intro); (focus (intro K hK; (conv => whnf); first | exact hK | (intro z hz; rw [wrapI (by omega)] at hz; subst hz; exact hK))); (conv => whnf)) | ((with_reducible apply gd_and); (focus ((conv => whnf) <;> first | rfl | (intro K hK; (conv => whnf); first | exact hK | (intro z hz; rw [wrapI (by omega)] at hz; subst hz; exact hK)))); (conv => whnf)) | ((with_reducible apply z_wrap); (focus omega); (conv => whnf)) | ((with_reducible refine mt_dec (fun _ => ?_) (fun _ => ?_)) <;> (conv => whnf)) | ((with_reducible refine mt_eq (fun _ => ?_) (fun _ => ?_)) <;> (conv => whnf)) | ((with_reducible refine mt_ne (fun _ => ?_) (fun _ => ?_)) <;> (conv => whnf)) | ((with_reducible refine mt_not (fun _ => ?_) (fun _ => ?_)) <;> (conv => whnf)) | ((with_reducible refine mt_any (fun _ => ?_) (fun _ => ?_)) <;> (conv => whnf)))
  · rename_i hx; exact absurd hx (by omega)
  refine (behind_ok d hw.len hw.pars hw.low i hc ⟨by omega, by omega⟩ done hdl hdr).mono ?_
  rintro _ _ ⟨rfl, rfl⟩
  conv => whnf
  exact ⟨rfl, rfl⟩
theorem rTop_ok (d : Dag) (hd : few d.certs) : ACalls Try.prog 25 [d.av] [] (fun av L => av = .d (.int .i64 (topR d.certs)) ∧ L = []) := by
  have hcl := certsD_length d.certs
  unfold few at hd
  refine acalls_go ttOk zOk foOk Try.func25 rfl Try.ntmps25 rfl false rfl ?_
  conv => whnf
  repeat' (first | ((with_reducible apply rd_intro); (focus (intro K hK; (conv => whnf); first | exact hK | (intro z hz; rw [wrapI (by omega)] at hz; subst hz; exact hK))); (conv => whnf)) | ((with_reducible apply gd_and); (focus ((conv => whnf) <;> first | rfl | (intro K hK; (conv => whnf); first | exact hK | (intro z hz; rw [wrapI (by omega)] at hz; subst hz; exact hK)))); (conv => whnf)) | ((with_reducible apply z_wrap); (focus omega); (conv => whnf)) | ((with_reducible refine mt_dec (fun _ => ?_) (fun _ => ?_)) <;> (conv => whnf)) | ((with_reducible refine mt_eq (fun _ => ?_) (fun _ => ?_)) <;> (conv => whnf)) | ((with_reducible refine mt_ne (fun _ => ?_) (fun _ => ?_)) <;> (conv => whnf)) | ((with_reducible refine mt_not (fun _ => ?_) (fun _ => ?_)) <;> (conv => whnf)) | ((with_reducible refine mt_any (fun _ => ?_) (fun _ => ?_)) <;> (conv => whnf)))
  · rename_i hx
    have : d.certs = [] := List.eq_nil_of_length_eq_zero (by omega)
    rw [this]
    exact ⟨rfl, rfl⟩
  · rename_i hx
    obtain ⟨c, hc⟩ : ∃ c, d.certs[d.certs.length - 1]? = some c := ⟨_, List.getElem?_eq_getElem (by omega)⟩
    refine ⟨by omega, c.cs, (by rw [show (((certsD d.certs).length : Int) - 1).toNat = d.certs.length - 1 by omega]; exact certsD_at hc), ?_⟩
    conv => whnf
    have : topR d.certs = c.round := by
      unfold topR
      rw [List.getLast?_eq_getElem?, hc]; rfl
    rw [this]
    exact ⟨rfl, rfl⟩
end Go.Proofs.Ytoeppembokpjkaa

namespace Go.Proofs.Ytoeppembokpjkaa
open Go.Ab Go.RowKit Go.MapKept
attribute [local irreducible] ACalls AW ADraw Into fltB fnear
set_option maxRecDepth 100000
def wRS (p : AskG) (n : Nat) : List Cert × Nat → AF × List AB
  | ([], r) => ([(1, .ptr 0 0), (3, .d (.int .i64 (n : Int))), (4, .ptr 1 0), (5, .d (.int .i64 ((n * (r - 1) : Nat) : Int))), (6, .arr 2), (7, .d (.int .i64 (r : Int)))], [.cells p.cells, .cells [.d (.int .i64 (n : Int)), .d (.int .i64 0), .d .nils], .row 3 1 (nums (wtA n r)) false])
  | (c :: l, r) => ([(1, .ptr 0 0), (3, .d (.int .i64 (n : Int))), (4, .ptr 1 0), (5, .d (.int .i64 ((n * (r - 1) : Nat) : Int))), (6, .arr 2), (7, .d (.int .i64 (r : Int)))], [.cells p.cells, .cells [.d (.int .i64 (n : Int)), .d (.int .i64 0), .arr 3], .row 3 1 (nums (wtA n r)) false, .row 46 6 (certsD (c :: l)) true])
def wAS (p : AskG) (n r : Nat) : List Cert × Nat → AF × List AB
  | ([], a) => ([(1, .ptr 0 0), (3, .d (.int .i64 (n : Int))), (4, .ptr 1 0), (5, .d (.int .i64 ((n * (r - 1) + a : Nat) : Int))), (6, .d (.sl 1 (nums (wtA n r)))), (7, .d (.int .i64 (r : Int))), (8, .arr 2), (9, .d (.int .i64 ((a : Int) + 1)))], [.cells p.cells, .cells [.d (.int .i64 (n : Int)), .d (.int .i64 0), .d .nils], .row 3 1 (nums ((wtP n r).take a)) false])
  | (c :: l, a) => ([(1, .ptr 0 0), (3, .d (.int .i64 (n : Int))), (4, .ptr 1 0), (5, .d (.int .i64 ((n * (r - 1) + a : Nat) : Int))), (6, .d (.sl 1 (nums (wtA n r)))), (7, .d (.int .i64 (r : Int))), (8, .arr 2), (9, .d (.int .i64 ((a : Int) + 1)))], [.cells p.cells, .cells [.d (.int .i64 (n : Int)), .d (.int .i64 0), .arr 3], .row 3 1 (nums ((wtP n r).take a)) false, .row 46 6 (certsD (c :: l)) true])
def wIS (p : AskG) (n r a : Nat) : List Cert × Nat → AF × List AB
  | ([], i) => ([(1, .ptr 0 0), (3, .d (.int .i64 (n : Int))), (4, .ptr 1 0), (5, .d (.int .i64 ((n * (r - 1) + a + 1 : Nat) : Int))), (6, .d (.sl 1 (nums (wtA n r)))), (7, .d (.int .i64 (r : Int))), (8, .arr 2), (9, .d (.int .i64 ((a : Int) + 1))), (10, .arr 3), (11, .d (.int .i64 ((i : Int) + 1)))], [.cells p.cells, .cells [.d (.int .i64 (n : Int)), .d (.int .i64 0), .d .nils], .row 3 1 (nums ((wtP n r).take a)) false, .row 3 1 (nums ((wtS n).take i)) false])
  | (c :: l, i) => ([(1, .ptr 0 0), (3, .d (.int .i64 (n : Int))), (4, .ptr 1 0), (5, .d (.int .i64 ((n * (r - 1) + a + 1 : Nat) : Int))), (6, .d (.sl 1 (nums (wtA n r)))), (7, .d (.int .i64 (r : Int))), (8, .arr 2), (9, .d (.int .i64 ((a : Int) + 1))), (10, .arr 3), (11, .d (.int .i64 ((i : Int) + 1)))], [.cells p.cells, .cells [.d (.int .i64 (n : Int)), .d (.int .i64 0), .arr 4], .row 3 1 (nums ((wtP n r).take a)) false, .row 3 1 (nums ((wtS n).take i)) false, .row 46 6 (certsD (c :: l)) true])
def wJS (p : AskG) (n r a : Nat) : List Cert → AF × List AB
  | [] => ([(1, .ptr 0 0), (3, .d (.int .i64 (n : Int))), (4, .ptr 1 0), (5, .d (.int .i64 ((n * (r - 1) + a + 1 : Nat) : Int))), (6, .d (.sl 1 (nums (wtA n r)))), (7, .d (.int .i64 (r : Int))), (8, .arr 2), (9, .d (.int .i64 ((a : Int) + 1))), (10, .arr 3)], [.cells p.cells, .cells [.d (.int .i64 (n : Int)), .d (.int .i64 0), .d .nils], .row 3 1 (nums ((wtP n r).take a)) false, .row 3 1 (nums (wtS n)) false])
  | c :: l => ([(1, .ptr 0 0), (3, .d (.int .i64 (n : Int))), (4, .ptr 1 0), (5, .d (.int .i64 ((n * (r - 1) + a + 1 : Nat) : Int))), (6, .d (.sl 1 (nums (wtA n r)))), (7, .d (.int .i64 (r : Int))), (8, .arr 2), (9, .d (.int .i64 ((a : Int) + 1))), (10, .arr 3)], [.cells p.cells, .cells [.d (.int .i64 (n : Int)), .d (.int .i64 0), .arr 4], .row 3 1 (nums ((wtP n r).take a)) false, .row 3 1 (nums (wtS n)) false, .row 46 6 (certsD (c :: l)) true])
theorem wtS_at {n i : Nat} (h : i < n) : (wtS n).take (i + 1) = (wtS n).take i ++ [(i : Int) + 1] := by
  rw [List.take_add_one, show (wtS n)[i]? = some ((i : Int) + 1) by simp [wtS, h]]; rfl
theorem wtP_at {n r i : Nat} (h : i < n) : (wtP n r).take (i + 1) = (wtP n r).take i ++ [((n * (r - 1) + i + 1 : Nat) : Int)] := by
  rw [List.take_add_one, show (wtP n r)[i]? = some ((n * (r - 1) + i + 1 : Nat) : Int) by simp [wtP, h]]; rfl
theorem wtS_len (n : Nat) : (wtS n).length = n := by simp [wtS]
theorem wtP_len (n r : Nat) : (wtP n r).length = n := by simp [wtP]
theorem wtA_len (n r : Nat) : (wtA n r).length ≤ n := by
  unfold wtA; split
  · exact Nat.zero_le _
  · rw [wtP_len]; omega
theorem certsD_new (c : Cert) (l : List Cert) (x : Cert) : certsD (c :: (l ++ [x])) = certsD (c :: l) ++ [x.cs] := by simp [certsD]
set_option maxHeartbeats 1000000 in
theorem cursorWaits_ok (p : AskG) (hp : p.ok) : ACalls Try.prog 7 [p.av] [] (fun av L => av = .d (.bool true) ∧ L = []) := by
  refine acalls_go ttOk zOk foOk Try.func7 rfl Try.ntmps7 rfl false rfl ?_
  conv => whnf
  refine loop_go ttOk zOk foOk (σ := Nat) (fun n => ([(1, .ptr 0 0), (3, .d (.int .i64 (n : Int)))], [.cells p.cells])) (fun n => wtN n ∨ n = 10) (fun n => 10 - n) [1, 3] ?_ ?_
  · conv => whnf
    exact ⟨1, rfl, rfl, .inl (.inl rfl)⟩
  · intro n hn
    have hn10 : n ≤ 10 := by rcases hn with (rfl | rfl | rfl) | rfl <;> decide
    conv => whnf
    repeat' (first | ((with_reducible apply rd_intro); (focus (intro K hK; (conv => whnf); first | exact hK | (intro z hz; rw [wrapI (by omega)] at hz; subst hz; exact hK))); (conv => whnf)) | ((with_reducible apply gd_and); (focus ((conv => whnf) <;> first | rfl | (intro K hK; (conv => whnf); first | exact hK | (intro z hz; rw [wrapI (by omega)] at hz; subst hz; exact hK)))); (conv => whnf)) | ((with_reducible apply z_wrap); (focus omega); (conv => whnf)) | ((with_reducible refine mt_dec (fun _ => ?_) (fun _ => ?_)) <;> (conv => whnf)) | ((with_reducible refine mt_eq (fun _ => ?_) (fun _ => ?_)) <;> (conv => whnf)) | ((with_reducible refine mt_ne (fun _ => ?_) (fun _ => ?_)) <;> (conv => whnf)) | ((with_reducible refine mt_not (fun _ => ?_) (fun _ => ?_)) <;> (conv => whnf)) | ((with_reducible refine mt_any (fun _ => ?_) (fun _ => ?_)) <;> (conv => whnf)))
    · rename_i hn7
      have hn' : wtN n := by rcases hn with h | rfl; exact h; exact absurd hn7 (by decide)
      refine loop_go ttOk zOk foOk (σ := List Cert × Nat) (wRS p n) (fun s => s.1 = wtL n (n * (s.2 - 1)) ∧ 1 ≤ s.2 ∧ s.2 ≤ 8) (fun s => 8 - s.2) [1, 3, 4, 5, 6, 7] ?_ ?_
      · conv => whnf
        exact ⟨([], 1), rfl, rfl, rfl, by decide, by decide⟩
      · rintro ⟨lc, r⟩ ⟨hlc, hr1, hr8⟩
        replace hlc : lc = wtL n (n * (r - 1)) := hlc
        replace hr1 : 1 ≤ r := hr1
        replace hr8 : r ≤ 8 := hr8
        have hm56 : n * (r - 1) ≤ 7 * 7 := Nat.mul_le_mul (by omega) (by omega)
        cases lc with
        | nil =>
          conv => whnf
          repeat' (first | ((with_reducible apply rd_intro); (focus (intro K hK; (conv => whnf); first | exact hK | (intro z hz; rw [wrapI (by omega)] at hz; subst hz; exact hK))); (conv => whnf)) | ((with_reducible apply gd_and); (focus ((conv => whnf) <;> first | rfl | (intro K hK; (conv => whnf); first | exact hK | (intro z hz; rw [wrapI (by omega)] at hz; subst hz; exact hK)))); (conv => whnf)) | ((with_reducible apply z_wrap); (focus omega); (conv => whnf)) | ((with_reducible refine mt_dec (fun _ => ?_) (fun _ => ?_)) <;> (conv => whnf)) | ((with_reducible refine mt_eq (fun _ => ?_) (fun _ => ?_)) <;> (conv => whnf)) | ((with_reducible refine mt_ne (fun _ => ?_) (fun _ => ?_)) <;> (conv => whnf)) | ((with_reducible refine mt_not (fun _ => ?_) (fun _ => ?_)) <;> (conv => whnf)) | ((with_reducible refine mt_any (fun _ => ?_) (fun _ => ?_)) <;> (conv => whnf)))
          · rename_i hr7
            refine aw_seal 6 ?_
            conv => whnf
            refine loop_go ttOk zOk foOk (σ := List Cert × Nat) (wAS p n r) (fun s => s.1 = wtL n (n * (r - 1) + s.2) ∧ s.2 ≤ n) (fun s => n - s.2) [1, 3, 4, 5, 6, 7, 8, 9] ?_ ?_
            · conv => whnf
              exact ⟨([], 0), rfl, rfl, hlc, Nat.zero_le _⟩
            · have hlc0 := hlc
              clear hlc
              rintro ⟨lc, a⟩ ⟨hlc, ha⟩
              replace hlc : lc = wtL n (n * (r - 1) + a) := hlc
              replace ha : a ≤ n := ha
              cases lc with
              | nil =>
                conv => whnf
                repeat' (first | ((with_reducible apply rd_intro); (focus (intro K hK; (conv => whnf); first | exact hK | (intro z hz; rw [wrapI (by omega)] at hz; subst hz; exact hK))); (conv => whnf)) | ((with_reducible apply gd_and); (focus ((conv => whnf) <;> first | rfl | (intro K hK; (conv => whnf); first | exact hK | (intro z hz; rw [wrapI (by omega)] at hz; subst hz; exact hK)))); (conv => whnf)) | ((with_reducible apply z_wrap); (focus omega); (conv => whnf)) | ((with_reducible refine mt_dec (fun _ => ?_) (fun _ => ?_)) <;> (conv => whnf)) | ((with_reducible refine mt_eq (fun _ => ?_) (fun _ => ?_)) <;> (conv => whnf)) | ((with_reducible refine mt_ne (fun _ => ?_) (fun _ => ?_)) <;> (conv => whnf)) | ((with_reducible refine mt_not (fun _ => ?_) (fun _ => ?_)) <;> (conv => whnf)) | ((with_reducible refine mt_any (fun _ => ?_) (fun _ => ?_)) <;> (conv => whnf)))
                · rename_i han
                  have hlen := congrArg List.length hlc
                  rw [wtL_len] at hlen
                  refine loop_out ttOk zOk foOk (σ := Nat) (τ := Unit) (fun i => wIS p n r a ([], i)) (fun i => i ≤ n) (fun i => n - i) [1, 3, 4, 5, 6, 7, 8, 9, 10, 11] 6 (fun _ => wJS p n r a ([])) (fun _ => True) [1, 3, 4, 5, 6, 7, 8, 9, 10] ?_ ?_ ?_
                  · conv => whnf
                    exact ⟨0, rfl, rfl, Nat.zero_le _⟩
                  · intro _ _
                    conv => whnf
                    ((with_reducible refine draw_pl ttOk zOk foOk mixedOk pl7x20 ?_ ?_); (focus kernel_rfl); (conv => whnf))
                    repeat' (first | ((with_reducible apply rd_intro); (focus (intro K hK; (conv => whnf); first | exact hK | (intro z hz; rw [wrapI (by omega)] at hz; subst hz; exact hK))); (conv => whnf)) | ((with_reducible apply gd_and); (focus ((conv => whnf) <;> first | rfl | (intro K hK; (conv => whnf); first | exact hK | (intro z hz; rw [wrapI (by omega)] at hz; subst hz; exact hK)))); (conv => whnf)) | ((with_reducible apply z_wrap); (focus omega); (conv => whnf)) | ((with_reducible refine mt_dec (fun _ => ?_) (fun _ => ?_)) <;> (conv => whnf)) | ((with_reducible refine mt_eq (fun _ => ?_) (fun _ => ?_)) <;> (conv => whnf)) | ((with_reducible refine mt_ne (fun _ => ?_) (fun _ => ?_)) <;> (conv => whnf)) | ((with_reducible refine mt_not (fun _ => ?_) (fun _ => ?_)) <;> (conv => whnf)) | ((with_reducible refine mt_any (fun _ => ?_) (fun _ => ?_)) <;> (conv => whnf)))
                    refine (copyNumbers_ok (wtA n r) (by unfold tiny; have := wtA_len n r; omega)).mono ?_
                    rintro _ _ ⟨rfl, rfl⟩
                    conv => whnf
                    repeat' (first | ((with_reducible apply rd_intro); (focus (intro K hK; (conv => whnf); first | exact hK | (intro z hz; rw [wrapI (by omega)] at hz; subst hz; exact hK))); (conv => whnf)) | ((with_reducible apply gd_and); (focus ((conv => whnf) <;> first | rfl | (intro K hK; (conv => whnf); first | exact hK | (intro z hz; rw [wrapI (by omega)] at hz; subst hz; exact hK)))); (conv => whnf)) | ((with_reducible apply z_wrap); (focus omega); (conv => whnf)) | ((with_reducible refine mt_dec (fun _ => ?_) (fun _ => ?_)) <;> (conv => whnf)) | ((with_reducible refine mt_eq (fun _ => ?_) (fun _ => ?_)) <;> (conv => whnf)) | ((with_reducible refine mt_ne (fun _ => ?_) (fun _ => ?_)) <;> (conv => whnf)) | ((with_reducible refine mt_not (fun _ => ?_) (fun _ => ?_)) <;> (conv => whnf)) | ((with_reducible refine mt_any (fun _ => ?_) (fun _ => ?_)) <;> (conv => whnf)))
                    refine ⟨by show (1 : Nat) * 96 ≤ 140737488355328; decide, ?_⟩
                    conv => whnf
                    repeat' (first | ((with_reducible apply rd_intro); (focus (intro K hK; (conv => whnf); first | exact hK | (intro z hz; rw [wrapI (by omega)] at hz; subst hz; exact hK))); (conv => whnf)) | ((with_reducible apply gd_and); (focus ((conv => whnf) <;> first | rfl | (intro K hK; (conv => whnf); first | exact hK | (intro z hz; rw [wrapI (by omega)] at hz; subst hz; exact hK)))); (conv => whnf)) | ((with_reducible apply z_wrap); (focus omega); (conv => whnf)) | ((with_reducible refine mt_dec (fun _ => ?_) (fun _ => ?_)) <;> (conv => whnf)) | ((with_reducible refine mt_eq (fun _ => ?_) (fun _ => ?_)) <;> (conv => whnf)) | ((with_reducible refine mt_ne (fun _ => ?_) (fun _ => ?_)) <;> (conv => whnf)) | ((with_reducible refine mt_not (fun _ => ?_) (fun _ => ?_)) <;> (conv => whnf)) | ((with_reducible refine mt_any (fun _ => ?_) (fun _ => ?_)) <;> (conv => whnf)))
                    refine ⟨by rw [nums_length, List.length_singleton, List.length_take, wtP_len]; show (_ + 1) * 8 ≤ _; omega, ?_⟩
                    conv => whnf
                    repeat' (first | ((with_reducible apply rd_intro); (focus (intro K hK; (conv => whnf); first | exact hK | (intro z hz; rw [wrapI (by omega)] at hz; subst hz; exact hK))); (conv => whnf)) | ((with_reducible apply gd_and); (focus ((conv => whnf) <;> first | rfl | (intro K hK; (conv => whnf); first | exact hK | (intro z hz; rw [wrapI (by omega)] at hz; subst hz; exact hK)))); (conv => whnf)) | ((with_reducible apply z_wrap); (focus omega); (conv => whnf)) | ((with_reducible refine mt_dec (fun _ => ?_) (fun _ => ?_)) <;> (conv => whnf)) | ((with_reducible refine mt_eq (fun _ => ?_) (fun _ => ?_)) <;> (conv => whnf)) | ((with_reducible refine mt_ne (fun _ => ?_) (fun _ => ?_)) <;> (conv => whnf)) | ((with_reducible refine mt_not (fun _ => ?_) (fun _ => ?_)) <;> (conv => whnf)) | ((with_reducible refine mt_any (fun _ => ?_) (fun _ => ?_)) <;> (conv => whnf)))
                    refine acalls_deep ?_
                    conv => whnf
                    refine Exists.elim (wt_step hn' (r := r) (a := a) ⟨hr1, by omega⟩ (by omega)) fun done h => Exists.elim h fun cnt h => Exists.elim h fun os h => ?_
                    have hst := h.1
                    have hos := h.2
                    clear h
                    rw [← hlc] at hst
                    refine hst.mono ?_
                    rintro _ _ ⟨rfl, rfl⟩
                    conv => whnf
                    repeat' (first | ((with_reducible apply rd_intro); (focus (intro K hK; (conv => whnf); first | exact hK | (intro z hz; rw [wrapI (by omega)] at hz; subst hz; exact hK))); (conv => whnf)) | ((with_reducible apply gd_and); (focus ((conv => whnf) <;> first | rfl | (intro K hK; (conv => whnf); first | exact hK | (intro z hz; rw [wrapI (by omega)] at hz; subst hz; exact hK)))); (conv => whnf)) | ((with_reducible apply z_wrap); (focus omega); (conv => whnf)) | ((with_reducible refine mt_dec (fun _ => ?_) (fun _ => ?_)) <;> (conv => whnf)) | ((with_reducible refine mt_eq (fun _ => ?_) (fun _ => ?_)) <;> (conv => whnf)) | ((with_reducible refine mt_ne (fun _ => ?_) (fun _ => ?_)) <;> (conv => whnf)) | ((with_reducible refine mt_not (fun _ => ?_) (fun _ => ?_)) <;> (conv => whnf)) | ((with_reducible refine mt_any (fun _ => ?_) (fun _ => ?_)) <;> (conv => whnf)))
                    · rename_i hr3
                      refine ⟨by decide, ?_⟩
                      intro z hz
                      replace hz := tmod_pos (by omega) hz
                      conv => whnf
                      repeat' (first | ((with_reducible apply rd_intro); (focus (intro K hK; (conv => whnf); first | exact hK | (intro z hz; rw [wrapI (by omega)] at hz; subst hz; exact hK))); (conv => whnf)) | ((with_reducible apply gd_and); (focus ((conv => whnf) <;> first | rfl | (intro K hK; (conv => whnf); first | exact hK | (intro z hz; rw [wrapI (by omega)] at hz; subst hz; exact hK)))); (conv => whnf)) | ((with_reducible apply z_wrap); (focus omega); (conv => whnf)) | ((with_reducible refine mt_dec (fun _ => ?_) (fun _ => ?_)) <;> (conv => whnf)) | ((with_reducible refine mt_eq (fun _ => ?_) (fun _ => ?_)) <;> (conv => whnf)) | ((with_reducible refine mt_ne (fun _ => ?_) (fun _ => ?_)) <;> (conv => whnf)) | ((with_reducible refine mt_not (fun _ => ?_) (fun _ => ?_)) <;> (conv => whnf)) | ((with_reducible refine mt_any (fun _ => ?_) (fun _ => ?_)) <;> (conv => whnf)))
                      refine ⟨by decide, ?_⟩
                      intro z2 hz2
                      replace hz2 := tmod_pos (by omega) hz2
                      conv => whnf
                      repeat' (first | ((with_reducible apply rd_intro); (focus (intro K hK; (conv => whnf); first | exact hK | (intro z hz; rw [wrapI (by omega)] at hz; subst hz; exact hK))); (conv => whnf)) | ((with_reducible apply gd_and); (focus ((conv => whnf) <;> first | rfl | (intro K hK; (conv => whnf); first | exact hK | (intro z hz; rw [wrapI (by omega)] at hz; subst hz; exact hK)))); (conv => whnf)) | ((with_reducible apply z_wrap); (focus omega); (conv => whnf)) | ((with_reducible refine mt_dec (fun _ => ?_) (fun _ => ?_)) <;> (conv => whnf)) | ((with_reducible refine mt_eq (fun _ => ?_) (fun _ => ?_)) <;> (conv => whnf)) | ((with_reducible refine mt_ne (fun _ => ?_) (fun _ => ?_)) <;> (conv => whnf)) | ((with_reducible refine mt_not (fun _ => ?_) (fun _ => ?_)) <;> (conv => whnf)) | ((with_reducible refine mt_any (fun _ => ?_) (fun _ => ?_)) <;> (conv => whnf)))
                      · rename_i hodd
                        refine ⟨by decide, ?_⟩
                        intro z3 hz3
                        replace hz3 : z3 = ((n / 3 : Nat) : Int) := by rw [hz3, Int.tdiv_eq_ediv_of_nonneg (by omega), wrapI (by omega)]; omega
                        conv => whnf
                        repeat' (first | ((with_reducible apply rd_intro); (focus (intro K hK; (conv => whnf); first | exact hK | (intro z hz; rw [wrapI (by omega)] at hz; subst hz; exact hK))); (conv => whnf)) | ((with_reducible apply gd_and); (focus ((conv => whnf) <;> first | rfl | (intro K hK; (conv => whnf); first | exact hK | (intro z hz; rw [wrapI (by omega)] at hz; subst hz; exact hK)))); (conv => whnf)) | ((with_reducible apply z_wrap); (focus omega); (conv => whnf)) | ((with_reducible refine mt_dec (fun _ => ?_) (fun _ => ?_)) <;> (conv => whnf)) | ((with_reducible refine mt_eq (fun _ => ?_) (fun _ => ?_)) <;> (conv => whnf)) | ((with_reducible refine mt_ne (fun _ => ?_) (fun _ => ?_)) <;> (conv => whnf)) | ((with_reducible refine mt_not (fun _ => ?_) (fun _ => ?_)) <;> (conv => whnf)) | ((with_reducible refine mt_any (fun _ => ?_) (fun _ => ?_)) <;> (conv => whnf)))
                        · rename_i hlt
                          have hW : wtW n r (a + 1) = (r : Int) - 1 - z - 2 := by unfold wtW; rw [if_pos (by omega), if_pos (by omega)]; omega
                          refine (num_ok 0).mono ?_
                          rintro _ _ ⟨rfl, rfl⟩
                          conv => whnf
                          repeat' (first | ((with_reducible apply rd_intro); (focus (intro K hK; (conv => whnf); first | exact hK | (intro z hz; rw [wrapI (by omega)] at hz; subst hz; exact hK))); (conv => whnf)) | ((with_reducible apply gd_and); (focus ((conv => whnf) <;> first | rfl | (intro K hK; (conv => whnf); first | exact hK | (intro z hz; rw [wrapI (by omega)] at hz; subst hz; exact hK)))); (conv => whnf)) | ((with_reducible apply z_wrap); (focus omega); (conv => whnf)) | ((with_reducible refine mt_dec (fun _ => ?_) (fun _ => ?_)) <;> (conv => whnf)) | ((with_reducible refine mt_eq (fun _ => ?_) (fun _ => ?_)) <;> (conv => whnf)) | ((with_reducible refine mt_ne (fun _ => ?_) (fun _ => ?_)) <;> (conv => whnf)) | ((with_reducible refine mt_not (fun _ => ?_) (fun _ => ?_)) <;> (conv => whnf)) | ((with_reducible refine mt_any (fun _ => ?_) (fun _ => ?_)) <;> (conv => whnf)))
                          · rename_i hx; exact absurd hW hx
                          · rename_i hx
                            refine absurd hx ?_
                            rw [Bool.not_eq_false, beq_iff_eq, decide_eq_decide, nums_length]
                            omega
                          · refine ⟨([wtC n r (a + 1)], a + 1), rfl, ?_, ⟨?_, by show a + 1 ≤ n; omega⟩, by show n - (a + 1) < n - a; omega⟩
                            · show _ = (wAS p n r ([wtC n r (a + 1)], a + 1)).2
                              simp only [wAS, wtP_at (show a < n by omega), ← nums_apps]
                              rfl
                            · show [wtC n r (a + 1)] = wtL n (n * (r - 1) + (a + 1))
                              rw [← Nat.add_assoc, wtL_next hr1 (by omega), ← hlc]; rfl
                        · rename_i hlt
                          have hW : wtW n r (a + 1) = (r : Int) - 1 - z := by unfold wtW; rw [if_pos (by omega), if_neg (by omega)]; omega
                          refine (num_ok 0).mono ?_
                          rintro _ _ ⟨rfl, rfl⟩
                          conv => whnf
                          repeat' (first | ((with_reducible apply rd_intro); (focus (intro K hK; (conv => whnf); first | exact hK | (intro z hz; rw [wrapI (by omega)] at hz; subst hz; exact hK))); (conv => whnf)) | ((with_reducible apply gd_and); (focus ((conv => whnf) <;> first | rfl | (intro K hK; (conv => whnf); first | exact hK | (intro z hz; rw [wrapI (by omega)] at hz; subst hz; exact hK)))); (conv => whnf)) | ((with_reducible apply z_wrap); (focus omega); (conv => whnf)) | ((with_reducible refine mt_dec (fun _ => ?_) (fun _ => ?_)) <;> (conv => whnf)) | ((with_reducible refine mt_eq (fun _ => ?_) (fun _ => ?_)) <;> (conv => whnf)) | ((with_reducible refine mt_ne (fun _ => ?_) (fun _ => ?_)) <;> (conv => whnf)) | ((with_reducible refine mt_not (fun _ => ?_) (fun _ => ?_)) <;> (conv => whnf)) | ((with_reducible refine mt_any (fun _ => ?_) (fun _ => ?_)) <;> (conv => whnf)))
                          · rename_i hx; exact absurd hW hx
                          · rename_i hx
                            refine absurd hx ?_
                            rw [Bool.not_eq_false, beq_iff_eq, decide_eq_decide, nums_length]
                            omega
                          · refine ⟨([wtC n r (a + 1)], a + 1), rfl, ?_, ⟨?_, by show a + 1 ≤ n; omega⟩, by show n - (a + 1) < n - a; omega⟩
                            · show _ = (wAS p n r ([wtC n r (a + 1)], a + 1)).2
                              simp only [wAS, wtP_at (show a < n by omega), ← nums_apps]
                              rfl
                            · show [wtC n r (a + 1)] = wtL n (n * (r - 1) + (a + 1))
                              rw [← Nat.add_assoc, wtL_next hr1 (by omega), ← hlc]; rfl
                      · rename_i hodd
                        have hW : wtW n r (a + 1) = (r : Int) - 1 - z := by unfold wtW; rw [if_pos (by omega), if_neg (by omega)]; omega
                        refine (num_ok 0).mono ?_
                        rintro _ _ ⟨rfl, rfl⟩
                        conv => whnf
                        repeat' (first | ((with_reducible apply rd_intro); (focus (intro K hK; (conv => whnf); first | exact hK | (intro z hz; rw [wrapI (by omega)] at hz; subst hz; exact hK))); (conv => whnf)) | ((with_reducible apply gd_and); (focus ((conv => whnf) <;> first | rfl | (intro K hK; (conv => whnf); first | exact hK | (intro z hz; rw [wrapI (by omega)] at hz; subst hz; exact hK)))); (conv => whnf)) | ((with_reducible apply z_wrap); (focus omega); (conv => whnf)) | ((with_reducible refine mt_dec (fun _ => ?_) (fun _ => ?_)) <;> (conv => whnf)) | ((with_reducible refine mt_eq (fun _ => ?_) (fun _ => ?_)) <;> (conv => whnf)) | ((with_reducible refine mt_ne (fun _ => ?_) (fun _ => ?_)) <;> (conv => whnf)) | ((with_reducible refine mt_not (fun _ => ?_) (fun _ => ?_)) <;> (conv => whnf)) | ((with_reducible refine mt_any (fun _ => ?_) (fun _ => ?_)) <;> (conv => whnf)))
                        · rename_i hx; exact absurd hW hx
                        · rename_i hx
                          refine absurd hx ?_
                          rw [Bool.not_eq_false, beq_iff_eq, decide_eq_decide, nums_length]
                          omega
                        · refine ⟨([wtC n r (a + 1)], a + 1), rfl, ?_, ⟨?_, by show a + 1 ≤ n; omega⟩, by show n - (a + 1) < n - a; omega⟩
                          · show _ = (wAS p n r ([wtC n r (a + 1)], a + 1)).2
                            simp only [wAS, wtP_at (show a < n by omega), ← nums_apps]
                            rfl
                          · show [wtC n r (a + 1)] = wtL n (n * (r - 1) + (a + 1))
                            rw [← Nat.add_assoc, wtL_next hr1 (by omega), ← hlc]; rfl
                    · rename_i hr3
                      have hW : wtW n r (a + 1) = 0 := by unfold wtW; rw [if_neg (by omega)]
                      refine (num_ok 0).mono ?_
                      rintro _ _ ⟨rfl, rfl⟩
                      conv => whnf
                      repeat' (first | ((with_reducible apply rd_intro); (focus (intro K hK; (conv => whnf); first | exact hK | (intro z hz; rw [wrapI (by omega)] at hz; subst hz; exact hK))); (conv => whnf)) | ((with_reducible apply gd_and); (focus ((conv => whnf) <;> first | rfl | (intro K hK; (conv => whnf); first | exact hK | (intro z hz; rw [wrapI (by omega)] at hz; subst hz; exact hK)))); (conv => whnf)) | ((with_reducible apply z_wrap); (focus omega); (conv => whnf)) | ((with_reducible refine mt_dec (fun _ => ?_) (fun _ => ?_)) <;> (conv => whnf)) | ((with_reducible refine mt_eq (fun _ => ?_) (fun _ => ?_)) <;> (conv => whnf)) | ((with_reducible refine mt_ne (fun _ => ?_) (fun _ => ?_)) <;> (conv => whnf)) | ((with_reducible refine mt_not (fun _ => ?_) (fun _ => ?_)) <;> (conv => whnf)) | ((with_reducible refine mt_any (fun _ => ?_) (fun _ => ?_)) <;> (conv => whnf)))
                      · rename_i hx; exact absurd hW hx
                      · rename_i hx
                        refine absurd hx ?_
                        rw [Bool.not_eq_false, beq_iff_eq, decide_eq_decide, nums_length]
                        omega
                      · refine ⟨([wtC n r (a + 1)], a + 1), rfl, ?_, ⟨?_, by show a + 1 ≤ n; omega⟩, by show n - (a + 1) < n - a; omega⟩
                        · show _ = (wAS p n r ([wtC n r (a + 1)], a + 1)).2
                          simp only [wAS, wtP_at (show a < n by omega), ← nums_apps]
                          rfl
                        · show [wtC n r (a + 1)] = wtL n (n * (r - 1) + (a + 1))
                          rw [← Nat.add_assoc, wtL_next hr1 (by omega), ← hlc]; rfl
                  · intro i hi
                    conv => whnf
                    repeat' (first | ((with_reducible apply rd_intro); (focus (intro K hK; (conv => whnf); first | exact hK | (intro z hz; rw [wrapI (by omega)] at hz; subst hz; exact hK))); (conv => whnf)) | ((with_reducible apply gd_and); (focus ((conv => whnf) <;> first | rfl | (intro K hK; (conv => whnf); first | exact hK | (intro z hz; rw [wrapI (by omega)] at hz; subst hz; exact hK)))); (conv => whnf)) | ((with_reducible apply z_wrap); (focus omega); (conv => whnf)) | ((with_reducible refine mt_dec (fun _ => ?_) (fun _ => ?_)) <;> (conv => whnf)) | ((with_reducible refine mt_eq (fun _ => ?_) (fun _ => ?_)) <;> (conv => whnf)) | ((with_reducible refine mt_ne (fun _ => ?_) (fun _ => ?_)) <;> (conv => whnf)) | ((with_reducible refine mt_not (fun _ => ?_) (fun _ => ?_)) <;> (conv => whnf)) | ((with_reducible refine mt_any (fun _ => ?_) (fun _ => ?_)) <;> (conv => whnf)))
                    · rename_i hil
                      refine ⟨by rw [nums_length, List.length_singleton, List.length_take, wtS_len]; show (_ + 1) * 8 ≤ _; omega, ?_⟩
                      conv => whnf
                      repeat' (first | ((with_reducible apply rd_intro); (focus (intro K hK; (conv => whnf); first | exact hK | (intro z hz; rw [wrapI (by omega)] at hz; subst hz; exact hK))); (conv => whnf)) | ((with_reducible apply gd_and); (focus ((conv => whnf) <;> first | rfl | (intro K hK; (conv => whnf); first | exact hK | (intro z hz; rw [wrapI (by omega)] at hz; subst hz; exact hK)))); (conv => whnf)) | ((with_reducible apply z_wrap); (focus omega); (conv => whnf)) | ((with_reducible refine mt_dec (fun _ => ?_) (fun _ => ?_)) <;> (conv => whnf)) | ((with_reducible refine mt_eq (fun _ => ?_) (fun _ => ?_)) <;> (conv => whnf)) | ((with_reducible refine mt_ne (fun _ => ?_) (fun _ => ?_)) <;> (conv => whnf)) | ((with_reducible refine mt_not (fun _ => ?_) (fun _ => ?_)) <;> (conv => whnf)) | ((with_reducible refine mt_any (fun _ => ?_) (fun _ => ?_)) <;> (conv => whnf)))
                      refine ⟨i + 1, rfl, ?_, by omega, by omega⟩
                      show _ = (wIS p n r a ([], i + 1)).2
                      simp only [wIS, wtS_at (show i < n by omega), ← nums_apps]
                      rfl
                    · rename_i hil
                      have hin : i = n := by omega
                      refine ⟨(), rfl, ?_, trivial⟩
                      show _ = (wJS p n r a ([])).2
                      simp only [wJS, hin, List.take_of_length_le (show (wtS n).length ≤ n by rw [wtS_len]; omega)]
                      rfl
                · rename_i han
                  have han' : a = n := by omega
                  have e : n * (r - 1) + a = n * (r + 1 - 1) := by
                    obtain ⟨k, rfl⟩ : ∃ k, r = k + 1 := ⟨r - 1, by omega⟩
                    rw [han', Nat.add_sub_cancel, Nat.add_sub_cancel, Nat.mul_succ]
                  have hlen := congrArg List.length hlc
                  rw [wtL_len] at hlen
                  have : ([] : List Cert).length = 0 := rfl
                  rcases hn' with h | h | h <;> omega
              | cons c l =>
                conv => whnf
                repeat' (first | ((with_reducible apply rd_intro); (focus (intro K hK; (conv => whnf); first | exact hK | (intro z hz; rw [wrapI (by omega)] at hz; subst hz; exact hK))); (conv => whnf)) | ((with_reducible apply gd_and); (focus ((conv => whnf) <;> first | rfl | (intro K hK; (conv => whnf); first | exact hK | (intro z hz; rw [wrapI (by omega)] at hz; subst hz; exact hK)))); (conv => whnf)) | ((with_reducible apply z_wrap); (focus omega); (conv => whnf)) | ((with_reducible refine mt_dec (fun _ => ?_) (fun _ => ?_)) <;> (conv => whnf)) | ((with_reducible refine mt_eq (fun _ => ?_) (fun _ => ?_)) <;> (conv => whnf)) | ((with_reducible refine mt_ne (fun _ => ?_) (fun _ => ?_)) <;> (conv => whnf)) | ((with_reducible refine mt_not (fun _ => ?_) (fun _ => ?_)) <;> (conv => whnf)) | ((with_reducible refine mt_any (fun _ => ?_) (fun _ => ?_)) <;> (conv => whnf)))
                · rename_i han
                  have hlen := congrArg List.length hlc
                  rw [wtL_len] at hlen
                  refine loop_out ttOk zOk foOk (σ := Nat) (τ := Unit) (fun i => wIS p n r a (c :: l, i)) (fun i => i ≤ n) (fun i => n - i) [1, 3, 4, 5, 6, 7, 8, 9, 10, 11] 6 (fun _ => wJS p n r a (c :: l)) (fun _ => True) [1, 3, 4, 5, 6, 7, 8, 9, 10] ?_ ?_ ?_
                  · conv => whnf
                    exact ⟨0, rfl, rfl, Nat.zero_le _⟩
                  · intro _ _
                    conv => whnf
                    ((with_reducible refine draw_pl ttOk zOk foOk mixedOk pl7x20 ?_ ?_); (focus kernel_rfl); (conv => whnf))
                    repeat' (first | ((with_reducible apply rd_intro); (focus (intro K hK; (conv => whnf); first | exact hK | (intro z hz; rw [wrapI (by omega)] at hz; subst hz; exact hK))); (conv => whnf)) | ((with_reducible apply gd_and); (focus ((conv => whnf) <;> first | rfl | (intro K hK; (conv => whnf); first | exact hK | (intro z hz; rw [wrapI (by omega)] at hz; subst hz; exact hK)))); (conv => whnf)) | ((with_reducible apply z_wrap); (focus omega); (conv => whnf)) | ((with_reducible refine mt_dec (fun _ => ?_) (fun _ => ?_)) <;> (conv => whnf)) | ((with_reducible refine mt_eq (fun _ => ?_) (fun _ => ?_)) <;> (conv => whnf)) | ((with_reducible refine mt_ne (fun _ => ?_) (fun _ => ?_)) <;> (conv => whnf)) | ((with_reducible refine mt_not (fun _ => ?_) (fun _ => ?_)) <;> (conv => whnf)) | ((with_reducible refine mt_any (fun _ => ?_) (fun _ => ?_)) <;> (conv => whnf)))
                    refine (copyNumbers_ok (wtA n r) (by unfold tiny; have := wtA_len n r; omega)).mono ?_
                    rintro _ _ ⟨rfl, rfl⟩
                    conv => whnf
                    repeat' (first | ((with_reducible apply rd_intro); (focus (intro K hK; (conv => whnf); first | exact hK | (intro z hz; rw [wrapI (by omega)] at hz; subst hz; exact hK))); (conv => whnf)) | ((with_reducible apply gd_and); (focus ((conv => whnf) <;> first | rfl | (intro K hK; (conv => whnf); first | exact hK | (intro z hz; rw [wrapI (by omega)] at hz; subst hz; exact hK)))); (conv => whnf)) | ((with_reducible apply z_wrap); (focus omega); (conv => whnf)) | ((with_reducible refine mt_dec (fun _ => ?_) (fun _ => ?_)) <;> (conv => whnf)) | ((with_reducible refine mt_eq (fun _ => ?_) (fun _ => ?_)) <;> (conv => whnf)) | ((with_reducible refine mt_ne (fun _ => ?_) (fun _ => ?_)) <;> (conv => whnf)) | ((with_reducible refine mt_not (fun _ => ?_) (fun _ => ?_)) <;> (conv => whnf)) | ((with_reducible refine mt_any (fun _ => ?_) (fun _ => ?_)) <;> (conv => whnf)))
                    refine ⟨by rw [certsD_length, List.length_singleton, hlen]; show (_ + 1) * 96 ≤ _; omega, ?_⟩
                    conv => whnf
                    repeat' (first | ((with_reducible apply rd_intro); (focus (intro K hK; (conv => whnf); first | exact hK | (intro z hz; rw [wrapI (by omega)] at hz; subst hz; exact hK))); (conv => whnf)) | ((with_reducible apply gd_and); (focus ((conv => whnf) <;> first | rfl | (intro K hK; (conv => whnf); first | exact hK | (intro z hz; rw [wrapI (by omega)] at hz; subst hz; exact hK)))); (conv => whnf)) | ((with_reducible apply z_wrap); (focus omega); (conv => whnf)) | ((with_reducible refine mt_dec (fun _ => ?_) (fun _ => ?_)) <;> (conv => whnf)) | ((with_reducible refine mt_eq (fun _ => ?_) (fun _ => ?_)) <;> (conv => whnf)) | ((with_reducible refine mt_ne (fun _ => ?_) (fun _ => ?_)) <;> (conv => whnf)) | ((with_reducible refine mt_not (fun _ => ?_) (fun _ => ?_)) <;> (conv => whnf)) | ((with_reducible refine mt_any (fun _ => ?_) (fun _ => ?_)) <;> (conv => whnf)))
                    refine ⟨by rw [nums_length, List.length_singleton, List.length_take, wtP_len]; show (_ + 1) * 8 ≤ _; omega, ?_⟩
                    conv => whnf
                    repeat' (first | ((with_reducible apply rd_intro); (focus (intro K hK; (conv => whnf); first | exact hK | (intro z hz; rw [wrapI (by omega)] at hz; subst hz; exact hK))); (conv => whnf)) | ((with_reducible apply gd_and); (focus ((conv => whnf) <;> first | rfl | (intro K hK; (conv => whnf); first | exact hK | (intro z hz; rw [wrapI (by omega)] at hz; subst hz; exact hK)))); (conv => whnf)) | ((with_reducible apply z_wrap); (focus omega); (conv => whnf)) | ((with_reducible refine mt_dec (fun _ => ?_) (fun _ => ?_)) <;> (conv => whnf)) | ((with_reducible refine mt_eq (fun _ => ?_) (fun _ => ?_)) <;> (conv => whnf)) | ((with_reducible refine mt_ne (fun _ => ?_) (fun _ => ?_)) <;> (conv => whnf)) | ((with_reducible refine mt_not (fun _ => ?_) (fun _ => ?_)) <;> (conv => whnf)) | ((with_reducible refine mt_any (fun _ => ?_) (fun _ => ?_)) <;> (conv => whnf)))
                    refine acalls_deep ?_
                    conv => whnf
                    refine Exists.elim (wt_step hn' (r := r) (a := a) ⟨hr1, by omega⟩ (by omega)) fun done h => Exists.elim h fun cnt h => Exists.elim h fun os h => ?_
                    have hst := h.1
                    have hos := h.2
                    clear h
                    rw [← hlc] at hst
                    refine hst.mono ?_
                    rintro _ _ ⟨rfl, rfl⟩
                    conv => whnf
                    repeat' (first | ((with_reducible apply rd_intro); (focus (intro K hK; (conv => whnf); first | exact hK | (intro z hz; rw [wrapI (by omega)] at hz; subst hz; exact hK))); (conv => whnf)) | ((with_reducible apply gd_and); (focus ((conv => whnf) <;> first | rfl | (intro K hK; (conv => whnf); first | exact hK | (intro z hz; rw [wrapI (by omega)] at hz; subst hz; exact hK)))); (conv => whnf)) | ((with_reducible apply z_wrap); (focus omega); (conv => whnf)) | ((with_reducible refine mt_dec (fun _ => ?_) (fun _ => ?_)) <;> (conv => whnf)) | ((with_reducible refine mt_eq (fun _ => ?_) (fun _ => ?_)) <;> (conv => whnf)) | ((with_reducible refine mt_ne (fun _ => ?_) (fun _ => ?_)) <;> (conv => whnf)) | ((with_reducible refine mt_not (fun _ => ?_) (fun _ => ?_)) <;> (conv => whnf)) | ((with_reducible refine mt_any (fun _ => ?_) (fun _ => ?_)) <;> (conv => whnf)))
                    · rename_i hr3
                      refine ⟨by decide, ?_⟩
                      intro z hz
                      replace hz := tmod_pos (by omega) hz
                      conv => whnf
                      repeat' (first | ((with_reducible apply rd_intro); (focus (intro K hK; (conv => whnf); first | exact hK | (intro z hz; rw [wrapI (by omega)] at hz; subst hz; exact hK))); (conv => whnf)) | ((with_reducible apply gd_and); (focus ((conv => whnf) <;> first | rfl | (intro K hK; (conv => whnf); first | exact hK | (intro z hz; rw [wrapI (by omega)] at hz; subst hz; exact hK)))); (conv => whnf)) | ((with_reducible apply z_wrap); (focus omega); (conv => whnf)) | ((with_reducible refine mt_dec (fun _ => ?_) (fun _ => ?_)) <;> (conv => whnf)) | ((with_reducible refine mt_eq (fun _ => ?_) (fun _ => ?_)) <;> (conv => whnf)) | ((with_reducible refine mt_ne (fun _ => ?_) (fun _ => ?_)) <;> (conv => whnf)) | ((with_reducible refine mt_not (fun _ => ?_) (fun _ => ?_)) <;> (conv => whnf)) | ((with_reducible refine mt_any (fun _ => ?_) (fun _ => ?_)) <;> (conv => whnf)))
                      refine ⟨by decide, ?_⟩
                      intro z2 hz2
                      replace hz2 := tmod_pos (by omega) hz2
                      conv => whnf
                      repeat' (first | ((with_reducible apply rd_intro); (focus (intro K hK; (conv => whnf); first | exact hK | (intro z hz; rw [wrapI (by omega)] at hz; subst hz; exact hK))); (conv => whnf)) | ((with_reducible apply gd_and); (focus ((conv => whnf) <;> first | rfl | (intro K hK; (conv => whnf); first | exact hK | (intro z hz; rw [wrapI (by omega)] at hz; subst hz; exact hK)))); (conv => whnf)) | ((with_reducible apply z_wrap); (focus omega); (conv => whnf)) | ((with_reducible refine mt_dec (fun _ => ?_) (fun _ => ?_)) <;> (conv => whnf)) | ((with_reducible refine mt_eq (fun _ => ?_) (fun _ => ?_)) <;> (conv => whnf)) | ((with_reducible refine mt_ne (fun _ => ?_) (fun _ => ?_)) <;> (conv => whnf)) | ((with_reducible refine mt_not (fun _ => ?_) (fun _ => ?_)) <;> (conv => whnf)) | ((with_reducible refine mt_any (fun _ => ?_) (fun _ => ?_)) <;> (conv => whnf)))
                      · rename_i hodd
                        refine ⟨by decide, ?_⟩
                        intro z3 hz3
                        replace hz3 : z3 = ((n / 3 : Nat) : Int) := by rw [hz3, Int.tdiv_eq_ediv_of_nonneg (by omega), wrapI (by omega)]; omega
                        conv => whnf
                        repeat' (first | ((with_reducible apply rd_intro); (focus (intro K hK; (conv => whnf); first | exact hK | (intro z hz; rw [wrapI (by omega)] at hz; subst hz; exact hK))); (conv => whnf)) | ((with_reducible apply gd_and); (focus ((conv => whnf) <;> first | rfl | (intro K hK; (conv => whnf); first | exact hK | (intro z hz; rw [wrapI (by omega)] at hz; subst hz; exact hK)))); (conv => whnf)) | ((with_reducible apply z_wrap); (focus omega); (conv => whnf)) | ((with_reducible refine mt_dec (fun _ => ?_) (fun _ => ?_)) <;> (conv => whnf)) | ((with_reducible refine mt_eq (fun _ => ?_) (fun _ => ?_)) <;> (conv => whnf)) | ((with_reducible refine mt_ne (fun _ => ?_) (fun _ => ?_)) <;> (conv => whnf)) | ((with_reducible refine mt_not (fun _ => ?_) (fun _ => ?_)) <;> (conv => whnf)) | ((with_reducible refine mt_any (fun _ => ?_) (fun _ => ?_)) <;> (conv => whnf)))
                        · rename_i hlt
                          have hW : wtW n r (a + 1) = (r : Int) - 1 - z - 2 := by unfold wtW; rw [if_pos (by omega), if_pos (by omega)]; omega
                          refine (num_ok 0).mono ?_
                          rintro _ _ ⟨rfl, rfl⟩
                          conv => whnf
                          repeat' (first | ((with_reducible apply rd_intro); (focus (intro K hK; (conv => whnf); first | exact hK | (intro z hz; rw [wrapI (by omega)] at hz; subst hz; exact hK))); (conv => whnf)) | ((with_reducible apply gd_and); (focus ((conv => whnf) <;> first | rfl | (intro K hK; (conv => whnf); first | exact hK | (intro z hz; rw [wrapI (by omega)] at hz; subst hz; exact hK)))); (conv => whnf)) | ((with_reducible apply z_wrap); (focus omega); (conv => whnf)) | ((with_reducible refine mt_dec (fun _ => ?_) (fun _ => ?_)) <;> (conv => whnf)) | ((with_reducible refine mt_eq (fun _ => ?_) (fun _ => ?_)) <;> (conv => whnf)) | ((with_reducible refine mt_ne (fun _ => ?_) (fun _ => ?_)) <;> (conv => whnf)) | ((with_reducible refine mt_not (fun _ => ?_) (fun _ => ?_)) <;> (conv => whnf)) | ((with_reducible refine mt_any (fun _ => ?_) (fun _ => ?_)) <;> (conv => whnf)))
                          · rename_i hx; exact absurd hW hx
                          · rename_i hx
                            refine absurd hx ?_
                            rw [Bool.not_eq_false, beq_iff_eq, decide_eq_decide, nums_length]
                            omega
                          · refine ⟨(c :: (l ++ [wtC n r (a + 1)]), a + 1), rfl, ?_, ⟨?_, by show a + 1 ≤ n; omega⟩, by show n - (a + 1) < n - a; omega⟩
                            · show _ = (wAS p n r (c :: (l ++ [wtC n r (a + 1)]), a + 1)).2
                              simp only [wAS, wtP_at (show a < n by omega), ← nums_apps, certsD_new]
                              rfl
                            · show c :: (l ++ [wtC n r (a + 1)]) = wtL n (n * (r - 1) + (a + 1))
                              rw [← Nat.add_assoc, wtL_next hr1 (by omega), ← hlc]; rfl
                        · rename_i hlt
                          have hW : wtW n r (a + 1) = (r : Int) - 1 - z := by unfold wtW; rw [if_pos (by omega), if_neg (by omega)]; omega
                          refine (num_ok 0).mono ?_
                          rintro _ _ ⟨rfl, rfl⟩
                          conv => whnf
                          repeat' (first | ((with_reducible apply rd_intro); (focus (intro K hK; (conv => whnf); first | exact hK | (intro z hz; rw [wrapI (by omega)] at hz; subst hz; exact hK))); (conv => whnf)) | ((with_reducible apply gd_and); (focus ((conv => whnf) <;> first | rfl | (intro K hK; (conv => whnf); first | exact hK | (intro z hz; rw [wrapI (by omega)] at hz; subst hz; exact hK)))); (conv => whnf)) | ((with_reducible apply z_wrap); (focus omega); (conv => whnf)) | ((with_reducible refine mt_dec (fun _ => ?_) (fun _ => ?_)) <;> (conv => whnf)) | ((with_reducible refine mt_eq (fun _ => ?_) (fun _ => ?_)) <;> (conv => whnf)) | ((with_reducible refine mt_ne (fun _ => ?_) (fun _ => ?_)) <;> (conv => whnf)) | ((with_reducible refine mt_not (fun _ => ?_) (fun _ => ?_)) <;> (conv => whnf)) | ((with_reducible refine mt_any (fun _ => ?_) (fun _ => ?_)) <;> (conv => whnf)))
                          · rename_i hx; exact absurd hW hx
                          · rename_i hx
                            refine absurd hx ?_
                            rw [Bool.not_eq_false, beq_iff_eq, decide_eq_decide, nums_length]
                            omega
                          · refine ⟨(c :: (l ++ [wtC n r (a + 1)]), a + 1), rfl, ?_, ⟨?_, by show a + 1 ≤ n; omega⟩, by show n - (a + 1) < n - a; omega⟩
                            · show _ = (wAS p n r (c :: (l ++ [wtC n r (a + 1)]), a + 1)).2
                              simp only [wAS, wtP_at (show a < n by omega), ← nums_apps, certsD_new]
                              rfl
                            · show c :: (l ++ [wtC n r (a + 1)]) = wtL n (n * (r - 1) + (a + 1))
                              rw [← Nat.add_assoc, wtL_next hr1 (by omega), ← hlc]; rfl
                      · rename_i hodd
                        have hW : wtW n r (a + 1) = (r : Int) - 1 - z := by unfold wtW; rw [if_pos (by omega), if_neg (by omega)]; omega
                        refine (num_ok 0).mono ?_
                        rintro _ _ ⟨rfl, rfl⟩
                        conv => whnf
                        repeat' (first | ((with_reducible apply rd_intro); (focus (intro K hK; (conv => whnf); first | exact hK | (intro z hz; rw [wrapI (by omega)] at hz; subst hz; exact hK))); (conv => whnf)) | ((with_reducible apply gd_and); (focus ((conv => whnf) <;> first | rfl | (intro K hK; (conv => whnf); first | exact hK | (intro z hz; rw [wrapI (by omega)] at hz; subst hz; exact hK)))); (conv => whnf)) | ((with_reducible apply z_wrap); (focus omega); (conv => whnf)) | ((with_reducible refine mt_dec (fun _ => ?_) (fun _ => ?_)) <;> (conv => whnf)) | ((with_reducible refine mt_eq (fun _ => ?_) (fun _ => ?_)) <;> (conv => whnf)) | ((with_reducible refine mt_ne (fun _ => ?_) (fun _ => ?_)) <;> (conv => whnf)) | ((with_reducible refine mt_not (fun _ => ?_) (fun _ => ?_)) <;> (conv => whnf)) | ((with_reducible refine mt_any (fun _ => ?_) (fun _ => ?_)) <;> (conv => whnf)))
                        · rename_i hx; exact absurd hW hx
                        · rename_i hx
                          refine absurd hx ?_
                          rw [Bool.not_eq_false, beq_iff_eq, decide_eq_decide, nums_length]
                          omega
                        · refine ⟨(c :: (l ++ [wtC n r (a + 1)]), a + 1), rfl, ?_, ⟨?_, by show a + 1 ≤ n; omega⟩, by show n - (a + 1) < n - a; omega⟩
                          · show _ = (wAS p n r (c :: (l ++ [wtC n r (a + 1)]), a + 1)).2
                            simp only [wAS, wtP_at (show a < n by omega), ← nums_apps, certsD_new]
                            rfl
                          · show c :: (l ++ [wtC n r (a + 1)]) = wtL n (n * (r - 1) + (a + 1))
                            rw [← Nat.add_assoc, wtL_next hr1 (by omega), ← hlc]; rfl
                    · rename_i hr3
                      have hW : wtW n r (a + 1) = 0 := by unfold wtW; rw [if_neg (by omega)]
                      refine (num_ok 0).mono ?_
                      rintro _ _ ⟨rfl, rfl⟩
                      conv => whnf
                      repeat' (first | ((with_reducible apply rd_intro); (focus (intro K hK; (conv => whnf); first | exact hK | (intro z hz; rw [wrapI (by omega)] at hz; subst hz; exact hK))); (conv => whnf)) | ((with_reducible apply gd_and); (focus ((conv => whnf) <;> first | rfl | (intro K hK; (conv => whnf); first | exact hK | (intro z hz; rw [wrapI (by omega)] at hz; subst hz; exact hK)))); (conv => whnf)) | ((with_reducible apply z_wrap); (focus omega); (conv => whnf)) | ((with_reducible refine mt_dec (fun _ => ?_) (fun _ => ?_)) <;> (conv => whnf)) | ((with_reducible refine mt_eq (fun _ => ?_) (fun _ => ?_)) <;> (conv => whnf)) | ((with_reducible refine mt_ne (fun _ => ?_) (fun _ => ?_)) <;> (conv => whnf)) | ((with_reducible refine mt_not (fun _ => ?_) (fun _ => ?_)) <;> (conv => whnf)) | ((with_reducible refine mt_any (fun _ => ?_) (fun _ => ?_)) <;> (conv => whnf)))
                      · rename_i hx; exact absurd hW hx
                      · rename_i hx
                        refine absurd hx ?_
                        rw [Bool.not_eq_false, beq_iff_eq, decide_eq_decide, nums_length]
                        omega
                      · refine ⟨(c :: (l ++ [wtC n r (a + 1)]), a + 1), rfl, ?_, ⟨?_, by show a + 1 ≤ n; omega⟩, by show n - (a + 1) < n - a; omega⟩
                        · show _ = (wAS p n r (c :: (l ++ [wtC n r (a + 1)]), a + 1)).2
                          simp only [wAS, wtP_at (show a < n by omega), ← nums_apps, certsD_new]
                          rfl
                        · show c :: (l ++ [wtC n r (a + 1)]) = wtL n (n * (r - 1) + (a + 1))
                          rw [← Nat.add_assoc, wtL_next hr1 (by omega), ← hlc]; rfl
                  · intro i hi
                    conv => whnf
                    repeat' (first | ((with_reducible apply rd_intro); (focus (intro K hK; (conv => whnf); first | exact hK | (intro z hz; rw [wrapI (by omega)] at hz; subst hz; exact hK))); (conv => whnf)) | ((with_reducible apply gd_and); (focus ((conv => whnf) <;> first | rfl | (intro K hK; (conv => whnf); first | exact hK | (intro z hz; rw [wrapI (by omega)] at hz; subst hz; exact hK)))); (conv => whnf)) | ((with_reducible apply z_wrap); (focus omega); (conv => whnf)) | ((with_reducible refine mt_dec (fun _ => ?_) (fun _ => ?_)) <;> (conv => whnf)) | ((with_reducible refine mt_eq (fun _ => ?_) (fun _ => ?_)) <;> (conv => whnf)) | ((with_reducible refine mt_ne (fun _ => ?_) (fun _ => ?_)) <;> (conv => whnf)) | ((with_reducible refine mt_not (fun _ => ?_) (fun _ => ?_)) <;> (conv => whnf)) | ((with_reducible refine mt_any (fun _ => ?_) (fun _ => ?_)) <;> (conv => whnf)))
                    · rename_i hil
                      refine ⟨by rw [nums_length, List.length_singleton, List.length_take, wtS_len]; show (_ + 1) * 8 ≤ _; omega, ?_⟩
                      conv => whnf
                      repeat' (first | ((with_reducible apply rd_intro); (focus (intro K hK; (conv => whnf); first | exact hK | (intro z hz; rw [wrapI (by omega)] at hz; subst hz; exact hK))); (conv => whnf)) | ((with_reducible apply gd_and); (focus ((conv => whnf) <;> first | rfl | (intro K hK; (conv => whnf); first | exact hK | (intro z hz; rw [wrapI (by omega)] at hz; subst hz; exact hK)))); (conv => whnf)) | ((with_reducible apply z_wrap); (focus omega); (conv => whnf)) | ((with_reducible refine mt_dec (fun _ => ?_) (fun _ => ?_)) <;> (conv => whnf)) | ((with_reducible refine mt_eq (fun _ => ?_) (fun _ => ?_)) <;> (conv => whnf)) | ((with_reducible refine mt_ne (fun _ => ?_) (fun _ => ?_)) <;> (conv => whnf)) | ((with_reducible refine mt_not (fun _ => ?_) (fun _ => ?_)) <;> (conv => whnf)) | ((with_reducible refine mt_any (fun _ => ?_) (fun _ => ?_)) <;> (conv => whnf)))
                      refine ⟨i + 1, rfl, ?_, by omega, by omega⟩
                      show _ = (wIS p n r a (c :: l, i + 1)).2
                      simp only [wIS, wtS_at (show i < n by omega), ← nums_apps]
                      rfl
                    · rename_i hil
                      have hin : i = n := by omega
                      refine ⟨(), rfl, ?_, trivial⟩
                      show _ = (wJS p n r a (c :: l)).2
                      simp only [wJS, hin, List.take_of_length_le (show (wtS n).length ≤ n by rw [wtS_len]; omega)]
                      rfl
                · rename_i han
                  have han' : a = n := by omega
                  have e : n * (r - 1) + a = n * (r + 1 - 1) := by
                    obtain ⟨k, rfl⟩ : ∃ k, r = k + 1 := ⟨r - 1, by omega⟩
                    rw [han', Nat.add_sub_cancel, Nat.add_sub_cancel, Nat.mul_succ]
                  rw [e] at hlc ⊢
                  refine ⟨(c :: l, r + 1), rfl, ?_, ⟨hlc, by show 1 ≤ r + 1; omega, by show r + 1 ≤ 8; omega⟩, by show 8 - (r + 1) < 8 - r; omega⟩
                  show _ = (wRS p n (c :: l, r + 1)).2
                  have hA : wtA n (r + 1) = wtP n r := by unfold wtA; rw [if_neg (by omega)]; rfl
                  simp only [wRS, hA, List.take_of_length_le (show (wtP n r).length ≤ a by rw [wtP_len]; omega)]
                  rfl
          · rename_i hr7
            refine ⟨n + 3, rfl, rfl, ?_, by omega⟩
            rcases hn' with rfl | rfl | rfl
            · exact .inl (.inr (.inl rfl))
            · exact .inl (.inr (.inr rfl))
            · exact .inr rfl
        | cons c l =>
          conv => whnf
          repeat' (first | ((with_reducible apply rd_intro); (focus (intro K hK; (conv => whnf); first | exact hK | (intro z hz; rw [wrapI (by omega)] at hz; subst hz; exact hK))); (conv => whnf)) | ((with_reducible apply gd_and); (focus ((conv => whnf) <;> first | rfl | (intro K hK; (conv => whnf); first | exact hK | (intro z hz; rw [wrapI (by omega)] at hz; subst hz; exact hK)))); (conv => whnf)) | ((with_reducible apply z_wrap); (focus omega); (conv => whnf)) | ((with_reducible refine mt_dec (fun _ => ?_) (fun _ => ?_)) <;> (conv => whnf)) | ((with_reducible refine mt_eq (fun _ => ?_) (fun _ => ?_)) <;> (conv => whnf)) | ((with_reducible refine mt_ne (fun _ => ?_) (fun _ => ?_)) <;> (conv => whnf)) | ((with_reducible refine mt_not (fun _ => ?_) (fun _ => ?_)) <;> (conv => whnf)) | ((with_reducible refine mt_any (fun _ => ?_) (fun _ => ?_)) <;> (conv => whnf)))
          · rename_i hr7
            refine aw_seal 6 ?_
            conv => whnf
            refine loop_go ttOk zOk foOk (σ := List Cert × Nat) (wAS p n r) (fun s => s.1 = wtL n (n * (r - 1) + s.2) ∧ s.2 ≤ n) (fun s => n - s.2) [1, 3, 4, 5, 6, 7, 8, 9] ?_ ?_
            · conv => whnf
              exact ⟨(c :: l, 0), rfl, rfl, hlc, Nat.zero_le _⟩
            · have hlc0 := hlc
              clear hlc
              rintro ⟨lc, a⟩ ⟨hlc, ha⟩
              replace hlc : lc = wtL n (n * (r - 1) + a) := hlc
              replace ha : a ≤ n := ha
              cases lc with
              | nil =>
                exact absurd (congrArg List.length hlc) (by have h2 := congrArg List.length hlc0; rw [wtL_len] at h2 ⊢; simp at h2 ⊢; omega)
              | cons c l =>
                conv => whnf
                repeat' (first | ((with_reducible apply rd_intro); (focus (intro K hK; (conv => whnf); first | exact hK | (intro z hz; rw [wrapI (by omega)] at hz; subst hz; exact hK))); (conv => whnf)) | ((with_reducible apply gd_and); (focus ((conv => whnf) <;> first | rfl | (intro K hK; (conv => whnf); first | exact hK | (intro z hz; rw [wrapI (by omega)] at hz; subst hz; exact hK)))); (conv => whnf)) | ((with_reducible apply z_wrap); (focus omega); (conv => whnf)) | ((with_reducible refine mt_dec (fun _ => ?_) (fun _ => ?_)) <;> (conv => whnf)) | ((with_reducible refine mt_eq (fun _ => ?_) (fun _ => ?_)) <;> (conv => whnf)) | ((with_reducible refine mt_ne (fun _ => ?_) (fun _ => ?_)) <;> (conv => whnf)) | ((with_reducible refine mt_not (fun _ => ?_) (fun _ => ?_)) <;> (conv => whnf)) | ((with_reducible refine mt_any (fun _ => ?_) (fun _ => ?_)) <;> (conv => whnf)))
                · rename_i han
                  have hlen := congrArg List.length hlc
                  rw [wtL_len] at hlen
                  refine loop_out ttOk zOk foOk (σ := Nat) (τ := Unit) (fun i => wIS p n r a (c :: l, i)) (fun i => i ≤ n) (fun i => n - i) [1, 3, 4, 5, 6, 7, 8, 9, 10, 11] 6 (fun _ => wJS p n r a (c :: l)) (fun _ => True) [1, 3, 4, 5, 6, 7, 8, 9, 10] ?_ ?_ ?_
                  · conv => whnf
                    exact ⟨0, rfl, rfl, Nat.zero_le _⟩
                  · intro _ _
                    conv => whnf
                    ((with_reducible refine draw_pl ttOk zOk foOk mixedOk pl7x20 ?_ ?_); (focus kernel_rfl); (conv => whnf))
                    repeat' (first | ((with_reducible apply rd_intro); (focus (intro K hK; (conv => whnf); first | exact hK | (intro z hz; rw [wrapI (by omega)] at hz; subst hz; exact hK))); (conv => whnf)) | ((with_reducible apply gd_and); (focus ((conv => whnf) <;> first | rfl | (intro K hK; (conv => whnf); first | exact hK | (intro z hz; rw [wrapI (by omega)] at hz; subst hz; exact hK)))); (conv => whnf)) | ((with_reducible apply z_wrap); (focus omega); (conv => whnf)) | ((with_reducible refine mt_dec (fun _ => ?_) (fun _ => ?_)) <;> (conv => whnf)) | ((with_reducible refine mt_eq (fun _ => ?_) (fun _ => ?_)) <;> (conv => whnf)) | ((with_reducible refine mt_ne (fun _ => ?_) (fun _ => ?_)) <;> (conv => whnf)) | ((with_reducible refine mt_not (fun _ => ?_) (fun _ => ?_)) <;> (conv => whnf)) | ((with_reducible refine mt_any (fun _ => ?_) (fun _ => ?_)) <;> (conv => whnf)))
                    refine (copyNumbers_ok (wtA n r) (by unfold tiny; have := wtA_len n r; omega)).mono ?_
                    rintro _ _ ⟨rfl, rfl⟩
                    conv => whnf
                    repeat' (first | ((with_reducible apply rd_intro); (focus (intro K hK; (conv => whnf); first | exact hK | (intro z hz; rw [wrapI (by omega)] at hz; subst hz; exact hK))); (conv => whnf)) | ((with_reducible apply gd_and); (focus ((conv => whnf) <;> first | rfl | (intro K hK; (conv => whnf); first | exact hK | (intro z hz; rw [wrapI (by omega)] at hz; subst hz; exact hK)))); (conv => whnf)) | ((with_reducible apply z_wrap); (focus omega); (conv => whnf)) | ((with_reducible refine mt_dec (fun _ => ?_) (fun _ => ?_)) <;> (conv => whnf)) | ((with_reducible refine mt_eq (fun _ => ?_) (fun _ => ?_)) <;> (conv => whnf)) | ((with_reducible refine mt_ne (fun _ => ?_) (fun _ => ?_)) <;> (conv => whnf)) | ((with_reducible refine mt_not (fun _ => ?_) (fun _ => ?_)) <;> (conv => whnf)) | ((with_reducible refine mt_any (fun _ => ?_) (fun _ => ?_)) <;> (conv => whnf)))
                    refine ⟨by rw [certsD_length, List.length_singleton, hlen]; show (_ + 1) * 96 ≤ _; omega, ?_⟩
                    conv => whnf
                    repeat' (first | ((with_reducible apply rd_intro); (focus (intro K hK; (conv => whnf); first | exact hK | (intro z hz; rw [wrapI (by omega)] at hz; subst hz; exact hK))); (conv => whnf)) | ((with_reducible apply gd_and); (focus ((conv => whnf) <;> first | rfl | (intro K hK; (conv => whnf); first | exact hK | (intro z hz; rw [wrapI (by omega)] at hz; subst hz; exact hK)))); (conv => whnf)) | ((with_reducible apply z_wrap); (focus omega); (conv => whnf)) | ((with_reducible refine mt_dec (fun _ => ?_) (fun _ => ?_)) <;> (conv => whnf)) | ((with_reducible refine mt_eq (fun _ => ?_) (fun _ => ?_)) <;> (conv => whnf)) | ((with_reducible refine mt_ne (fun _ => ?_) (fun _ => ?_)) <;> (conv => whnf)) | ((with_reducible refine mt_not (fun _ => ?_) (fun _ => ?_)) <;> (conv => whnf)) | ((with_reducible refine mt_any (fun _ => ?_) (fun _ => ?_)) <;> (conv => whnf)))
                    refine ⟨by rw [nums_length, List.length_singleton, List.length_take, wtP_len]; show (_ + 1) * 8 ≤ _; omega, ?_⟩
                    conv => whnf
                    repeat' (first | ((with_reducible apply rd_intro); (focus (intro K hK; (conv => whnf); first | exact hK | (intro z hz; rw [wrapI (by omega)] at hz; subst hz; exact hK))); (conv => whnf)) | ((with_reducible apply gd_and); (focus ((conv => whnf) <;> first | rfl | (intro K hK; (conv => whnf); first | exact hK | (intro z hz; rw [wrapI (by omega)] at hz; subst hz; exact hK)))); (conv => whnf)) | ((with_reducible apply z_wrap); (focus omega); (conv => whnf)) | ((with_reducible refine mt_dec (fun _ => ?_) (fun _ => ?_)) <;> (conv => whnf)) | ((with_reducible refine mt_eq (fun _ => ?_) (fun _ => ?_)) <;> (conv => whnf)) | ((with_reducible refine mt_ne (fun _ => ?_) (fun _ => ?_)) <;> (conv => whnf)) | ((with_reducible refine mt_not (fun _ => ?_) (fun _ => ?_)) <;> (conv => whnf)) | ((with_reducible refine mt_any (fun _ => ?_) (fun _ => ?_)) <;> (conv => whnf)))
                    refine acalls_deep ?_
                    conv => whnf
                    refine Exists.elim (wt_step hn' (r := r) (a := a) ⟨hr1, by omega⟩ (by omega)) fun done h => Exists.elim h fun cnt h => Exists.elim h fun os h => ?_
                    have hst := h.1
                    have hos := h.2
                    clear h
                    rw [← hlc] at hst
                    refine hst.mono ?_
                    rintro _ _ ⟨rfl, rfl⟩
                    conv => whnf
                    repeat' (first | ((with_reducible apply rd_intro); (focus (intro K hK; (conv => whnf); first | exact hK | (intro z hz; rw [wrapI (by omega)] at hz; subst hz; exact hK))); (conv => whnf)) | ((with_reducible apply gd_and); (focus ((conv => whnf) <;> first | rfl | (intro K hK; (conv => whnf); first | exact hK | (intro z hz; rw [wrapI (by omega)] at hz; subst hz; exact hK)))); (conv => whnf)) | ((with_reducible apply z_wrap); (focus omega); (conv => whnf)) | ((with_reducible refine mt_dec (fun _ => ?_) (fun _ => ?_)) <;> (conv => whnf)) | ((with_reducible refine mt_eq (fun _ => ?_) (fun _ => ?_)) <;> (conv => whnf)) | ((with_reducible refine mt_ne (fun _ => ?_) (fun _ => ?_)) <;> (conv => whnf)) | ((with_reducible refine mt_not (fun _ => ?_) (fun _ => ?_)) <;> (conv => whnf)) | ((with_reducible refine mt_any (fun _ => ?_) (fun _ => ?_)) <;> (conv => whnf)))
                    · rename_i hr3
                      refine ⟨by decide, ?_⟩
                      intro z hz
                      replace hz := tmod_pos (by omega) hz
                      conv => whnf
                      repeat' (first | ((with_reducible apply rd_intro); (focus (intro K hK; (conv => whnf); first | exact hK | (intro z hz; rw [wrapI (by omega)] at hz; subst hz; exact hK))); (conv => whnf)) | ((with_reducible apply gd_and); (focus ((conv => whnf) <;> first | rfl | (intro K hK; (conv => whnf); first | exact hK | (intro z hz; rw [wrapI (by omega)] at hz; subst hz; exact hK)))); (conv => whnf)) | ((with_reducible apply z_wrap); (focus omega); (conv => whnf)) | ((with_reducible refine mt_dec (fun _ => ?_) (fun _ => ?_)) <;> (conv => whnf)) | ((with_reducible refine mt_eq (fun _ => ?_) (fun _ => ?_)) <;> (conv => whnf)) | ((with_reducible refine mt_ne (fun _ => ?_) (fun _ => ?_)) <;> (conv => whnf)) | ((with_reducible refine mt_not (fun _ => ?_) (fun _ => ?_)) <;> (conv => whnf)) | ((with_reducible refine mt_any (fun _ => ?_) (fun _ => ?_)) <;> (conv => whnf)))
                      refine ⟨by decide, ?_⟩
                      intro z2 hz2
                      replace hz2 := tmod_pos (by omega) hz2
                      conv => whnf
                      repeat' (first | ((with_reducible apply rd_intro); (focus (intro K hK; (conv => whnf); first | exact hK | (intro z hz; rw [wrapI (by omega)] at hz; subst hz; exact hK))); (conv => whnf)) | ((with_reducible apply gd_and); (focus ((conv => whnf) <;> first | rfl | (intro K hK; (conv => whnf); first | exact hK | (intro z hz; rw [wrapI (by omega)] at hz; subst hz; exact hK)))); (conv => whnf)) | ((with_reducible apply z_wrap); (focus omega); (conv => whnf)) | ((with_reducible refine mt_dec (fun _ => ?_) (fun _ => ?_)) <;> (conv => whnf)) | ((with_reducible refine mt_eq (fun _ => ?_) (fun _ => ?_)) <;> (conv => whnf)) | ((with_reducible refine mt_ne (fun _ => ?_) (fun _ => ?_)) <;> (conv => whnf)) | ((with_reducible refine mt_not (fun _ => ?_) (fun _ => ?_)) <;> (conv => whnf)) | ((with_reducible refine mt_any (fun _ => ?_) (fun _ => ?_)) <;> (conv => whnf)))
                      · rename_i hodd
                        refine ⟨by decide, ?_⟩
                        intro z3 hz3
                        replace hz3 : z3 = ((n / 3 : Nat) : Int) := by rw [hz3, Int.tdiv_eq_ediv_of_nonneg (by omega), wrapI (by omega)]; omega
                        conv => whnf
                        repeat' (first | ((with_reducible apply rd_intro); (focus (intro K hK; (conv => whnf); first | exact hK | (intro z hz; rw [wrapI (by omega)] at hz; subst hz; exact hK))); (conv => whnf)) | ((with_reducible apply gd_and); (focus ((conv => whnf) <;> first | rfl | (intro K hK; (conv => whnf); first | exact hK | (intro z hz; rw [wrapI (by omega)] at hz; subst hz; exact hK)))); (conv => whnf)) | ((with_reducible apply z_wrap); (focus omega); (conv => whnf)) | ((with_reducible refine mt_dec (fun _ => ?_) (fun _ => ?_)) <;> (conv => whnf)) | ((with_reducible refine mt_eq (fun _ => ?_) (fun _ => ?_)) <;> (conv => whnf)) | ((with_reducible refine mt_ne (fun _ => ?_) (fun _ => ?_)) <;> (conv => whnf)) | ((with_reducible refine mt_not (fun _ => ?_) (fun _ => ?_)) <;> (conv => whnf)) | ((with_reducible refine mt_any (fun _ => ?_) (fun _ => ?_)) <;> (conv => whnf)))
                        · rename_i hlt
                          have hW : wtW n r (a + 1) = (r : Int) - 1 - z - 2 := by unfold wtW; rw [if_pos (by omega), if_pos (by omega)]; omega
                          refine (num_ok 0).mono ?_
                          rintro _ _ ⟨rfl, rfl⟩
                          conv => whnf
                          repeat' (first | ((with_reducible apply rd_intro); (focus (intro K hK; (conv => whnf); first | exact hK | (intro z hz; rw [wrapI (by omega)] at hz; subst hz; exact hK))); (conv => whnf)) | ((with_reducible apply gd_and); (focus ((conv => whnf) <;> first | rfl | (intro K hK; (conv => whnf); first | exact hK | (intro z hz; rw [wrapI (by omega)] at hz; subst hz; exact hK)))); (conv => whnf)) | ((with_reducible apply z_wrap); (focus omega); (conv => whnf)) | ((with_reducible refine mt_dec (fun _ => ?_) (fun _ => ?_)) <;> (conv => whnf)) | ((with_reducible refine mt_eq (fun _ => ?_) (fun _ => ?_)) <;> (conv => whnf)) | ((with_reducible refine mt_ne (fun _ => ?_) (fun _ => ?_)) <;> (conv => whnf)) | ((with_reducible refine mt_not (fun _ => ?_) (fun _ => ?_)) <;> (conv => whnf)) | ((with_reducible refine mt_any (fun _ => ?_) (fun _ => ?_)) <;> (conv => whnf)))
                          · rename_i hx; exact absurd hW hx
                          · rename_i hx
                            refine absurd hx ?_
                            rw [Bool.not_eq_false, beq_iff_eq, decide_eq_decide, nums_length]
                            omega
                          · refine ⟨(c :: (l ++ [wtC n r (a + 1)]), a + 1), rfl, ?_, ⟨?_, by show a + 1 ≤ n; omega⟩, by show n - (a + 1) < n - a; omega⟩
                            · show _ = (wAS p n r (c :: (l ++ [wtC n r (a + 1)]), a + 1)).2
                              simp only [wAS, wtP_at (show a < n by omega), ← nums_apps, certsD_new]
                              rfl
                            · show c :: (l ++ [wtC n r (a + 1)]) = wtL n (n * (r - 1) + (a + 1))
                              rw [← Nat.add_assoc, wtL_next hr1 (by omega), ← hlc]; rfl
                        · rename_i hlt
                          have hW : wtW n r (a + 1) = (r : Int) - 1 - z := by unfold wtW; rw [if_pos (by omega), if_neg (by omega)]; omega
                          refine (num_ok 0).mono ?_
                          rintro _ _ ⟨rfl, rfl⟩
                          conv => whnf
                          repeat' (first | ((with_reducible apply rd_intro); (focus (intro K hK; (conv => whnf); first | exact hK | (intro z hz; rw [wrapI (by omega)] at hz; subst hz; exact hK))); (conv => whnf)) | ((with_reducible apply gd_and); (focus ((conv => whnf) <;> first | rfl | (intro K hK; (conv => whnf); first | exact hK | (intro z hz; rw [wrapI (by omega)] at hz; subst hz; exact hK)))); (conv => whnf)) | ((with_reducible apply z_wrap); (focus omega); (conv => whnf)) | ((with_reducible refine mt_dec (fun _ => ?_) (fun _ => ?_)) <;> (conv => whnf)) | ((with_reducible refine mt_eq (fun _ => ?_) (fun _ => ?_)) <;> (conv => whnf)) | ((with_reducible refine mt_ne (fun _ => ?_) (fun _ => ?_)) <;> (conv => whnf)) | ((with_reducible refine mt_not (fun _ => ?_) (fun _ => ?_)) <;> (conv => whnf)) | ((with_reducible refine mt_any (fun _ => ?_) (fun _ => ?_)) <;> (conv => whnf)))
                          · rename_i hx; exact absurd hW hx
                          · rename_i hx
                            refine absurd hx ?_
                            rw [Bool.not_eq_false, beq_iff_eq, decide_eq_decide, nums_length]
                            omega
                          · refine ⟨(c :: (l ++ [wtC n r (a + 1)]), a + 1), rfl, ?_, ⟨?_, by show a + 1 ≤ n; omega⟩, by show n - (a + 1) < n - a; omega⟩
                            · show _ = (wAS p n r (c :: (l ++ [wtC n r (a + 1)]), a + 1)).2
                              simp only [wAS, wtP_at (show a < n by omega), ← nums_apps, certsD_new]
                              rfl
                            · show c :: (l ++ [wtC n r (a + 1)]) = wtL n (n * (r - 1) + (a + 1))
                              rw [← Nat.add_assoc, wtL_next hr1 (by omega), ← hlc]; rfl
                      · rename_i hodd
                        have hW : wtW n r (a + 1) = (r : Int) - 1 - z := by unfold wtW; rw [if_pos (by omega), if_neg (by omega)]; omega
                        refine (num_ok 0).mono ?_
                        rintro _ _ ⟨rfl, rfl⟩
                        conv => whnf
                        repeat' (first | ((with_reducible apply rd_intro); (focus (intro K hK; (conv => whnf); first | exact hK | (intro z hz; rw [wrapI (by omega)] at hz; subst hz; exact hK))); (conv => whnf)) | ((with_reducible apply gd_and); (focus ((conv => whnf) <;> first | rfl | (intro K hK; (conv => whnf); first | exact hK | (intro z hz; rw [wrapI (by omega)] at hz; subst hz; exact hK)))); (conv => whnf)) | ((with_reducible apply z_wrap); (focus omega); (conv => whnf)) | ((with_reducible refine mt_dec (fun _ => ?_) (fun _ => ?_)) <;> (conv => whnf)) | ((with_reducible refine mt_eq (fun _ => ?_) (fun _ => ?_)) <;> (conv => whnf)) | ((with_reducible refine mt_ne (fun _ => ?_) (fun _ => ?_)) <;> (conv => whnf)) | ((with_reducible refine mt_not (fun _ => ?_) (fun _ => ?_)) <;> (conv => whnf)) | ((with_reducible refine mt_any (fun _ => ?_) (fun _ => ?_)) <;> (conv => whnf)))
                        · rename_i hx; exact absurd hW hx
                        · rename_i hx
                          refine absurd hx ?_
                          rw [Bool.not_eq_false, beq_iff_eq, decide_eq_decide, nums_length]
                          omega
                        · refine ⟨(c :: (l ++ [wtC n r (a + 1)]), a + 1), rfl, ?_, ⟨?_, by show a + 1 ≤ n; omega⟩, by show n - (a + 1) < n - a; omega⟩
                          · show _ = (wAS p n r (c :: (l ++ [wtC n r (a + 1)]), a + 1)).2
                            simp only [wAS, wtP_at (show a < n by omega), ← nums_apps, certsD_new]
                            rfl
                          · show c :: (l ++ [wtC n r (a + 1)]) = wtL n (n * (r - 1) + (a + 1))
                            rw [← Nat.add_assoc, wtL_next hr1 (by omega), ← hlc]; rfl
                    · rename_i hr3
                      have hW : wtW n r (a + 1) = 0 := by unfold wtW; rw [if_neg (by omega)]
                      refine (num_ok 0).mono ?_
                      rintro _ _ ⟨rfl, rfl⟩
                      conv => whnf
                      repeat' (first | ((with_reducible apply rd_intro); (focus (intro K hK; (conv => whnf); first | exact hK | (intro z hz; rw [wrapI (by omega)] at hz; subst hz; exact hK))); (conv => whnf)) | ((with_reducible apply gd_and); (focus ((conv => whnf) <;> first | rfl | (intro K hK; (conv => whnf); first | exact hK | (intro z hz; rw [wrapI (by omega)] at hz; subst hz; exact hK)))); (conv => whnf)) | ((with_reducible apply z_wrap); (focus omega); (conv => whnf)) | ((with_reducible refine mt_dec (fun _ => ?_) (fun _ => ?_)) <;> (conv => whnf)) | ((with_reducible refine mt_eq (fun _ => ?_) (fun _ => ?_)) <;> (conv => whnf)) | ((with_reducible refine mt_ne (fun _ => ?_) (fun _ => ?_)) <;> (conv => whnf)) | ((with_reducible refine mt_not (fun _ => ?_) (fun _ => ?_)) <;> (conv => whnf)) | ((with_reducible refine mt_any (fun _ => ?_) (fun _ => ?_)) <;> (conv => whnf)))
                      · rename_i hx; exact absurd hW hx
                      · rename_i hx
                        refine absurd hx ?_
                        rw [Bool.not_eq_false, beq_iff_eq, decide_eq_decide, nums_length]
                        omega
                      · refine ⟨(c :: (l ++ [wtC n r (a + 1)]), a + 1), rfl, ?_, ⟨?_, by show a + 1 ≤ n; omega⟩, by show n - (a + 1) < n - a; omega⟩
                        · show _ = (wAS p n r (c :: (l ++ [wtC n r (a + 1)]), a + 1)).2
                          simp only [wAS, wtP_at (show a < n by omega), ← nums_apps, certsD_new]
                          rfl
                        · show c :: (l ++ [wtC n r (a + 1)]) = wtL n (n * (r - 1) + (a + 1))
                          rw [← Nat.add_assoc, wtL_next hr1 (by omega), ← hlc]; rfl
                  · intro i hi
                    conv => whnf
                    repeat' (first | ((with_reducible apply rd_intro); (focus (intro K hK; (conv => whnf); first | exact hK | (intro z hz; rw [wrapI (by omega)] at hz; subst hz; exact hK))); (conv => whnf)) | ((with_reducible apply gd_and); (focus ((conv => whnf) <;> first | rfl | (intro K hK; (conv => whnf); first | exact hK | (intro z hz; rw [wrapI (by omega)] at hz; subst hz; exact hK)))); (conv => whnf)) | ((with_reducible apply z_wrap); (focus omega); (conv => whnf)) | ((with_reducible refine mt_dec (fun _ => ?_) (fun _ => ?_)) <;> (conv => whnf)) | ((with_reducible refine mt_eq (fun _ => ?_) (fun _ => ?_)) <;> (conv => whnf)) | ((with_reducible refine mt_ne (fun _ => ?_) (fun _ => ?_)) <;> (conv => whnf)) | ((with_reducible refine mt_not (fun _ => ?_) (fun _ => ?_)) <;> (conv => whnf)) | ((with_reducible refine mt_any (fun _ => ?_) (fun _ => ?_)) <;> (conv => whnf)))
                    · rename_i hil
                      refine ⟨by rw [nums_length, List.length_singleton, List.length_take, wtS_len]; show (_ + 1) * 8 ≤ _; omega, ?_⟩
                      conv => whnf
                      repeat' (first | ((with_reducible apply rd_intro); (focus (intro K hK; (conv => whnf); first | exact hK | (intro z hz; rw [wrapI (by omega)] at hz; subst hz; exact hK))); (conv => whnf)) | ((with_reducible apply gd_and); (focus ((conv => whnf) <;> first | rfl | (intro K hK; (conv => whnf); first | exact hK | (intro z hz; rw [wrapI (by omega)] at hz; subst hz; exact hK)))); (conv => whnf)) | ((with_reducible apply z_wrap); (focus omega); (conv => whnf)) | ((with_reducible refine mt_dec (fun _ => ?_) (fun _ => ?_)) <;> (conv => whnf)) | ((with_reducible refine mt_eq (fun _ => ?_) (fun _ => ?_)) <;> (conv => whnf)) | ((with_reducible refine mt_ne (fun _ => ?_) (fun _ => ?_)) <;> (conv => whnf)) | ((with_reducible refine mt_not (fun _ => ?_) (fun _ => ?_)) <;> (conv => whnf)) | ((with_reducible refine mt_any (fun _ => ?_) (fun _ => ?_)) <;> (conv => whnf)))
                      refine ⟨i + 1, rfl, ?_, by omega, by omega⟩
                      show _ = (wIS p n r a (c :: l, i + 1)).2
                      simp only [wIS, wtS_at (show i < n by omega), ← nums_apps]
                      rfl
                    · rename_i hil
                      have hin : i = n := by omega
                      refine ⟨(), rfl, ?_, trivial⟩
                      show _ = (wJS p n r a (c :: l)).2
                      simp only [wJS, hin, List.take_of_length_le (show (wtS n).length ≤ n by rw [wtS_len]; omega)]
                      rfl
                · rename_i han
                  have han' : a = n := by omega
                  have e : n * (r - 1) + a = n * (r + 1 - 1) := by
                    obtain ⟨k, rfl⟩ : ∃ k, r = k + 1 := ⟨r - 1, by omega⟩
                    rw [han', Nat.add_sub_cancel, Nat.add_sub_cancel, Nat.mul_succ]
                  rw [e] at hlc ⊢
                  refine ⟨(c :: l, r + 1), rfl, ?_, ⟨hlc, by show 1 ≤ r + 1; omega, by show r + 1 ≤ 8; omega⟩, by show 8 - (r + 1) < 8 - r; omega⟩
                  show _ = (wRS p n (c :: l, r + 1)).2
                  have hA : wtA n (r + 1) = wtP n r := by unfold wtA; rw [if_neg (by omega)]; rfl
                  simp only [wRS, hA, List.take_of_length_le (show (wtP n r).length ≤ a by rw [wtP_len]; omega)]
                  rfl
          · rename_i hr7
            refine ⟨n + 3, rfl, rfl, ?_, by omega⟩
            rcases hn' with rfl | rfl | rfl
            · exact .inl (.inr (.inl rfl))
            · exact .inl (.inr (.inr rfl))
            · exact .inr rfl
    · refine wakes_ok.mono ?_
      rintro _ _ ⟨rfl, rfl⟩
      conv => whnf
      exact ⟨rfl, rfl⟩
end Go.Proofs.Ytoeppembokpjkaa

/- CursorWaits: for every Ask the law returns true, and its argument reads behind the call as it read before. No condition of ours. -/
namespace Go.Proofs.Ytoeppembokpjkaa
open Go.Ab Go.RowKit Go.ChangeShapes Go.WideShapes Go.ChangeAt
theorem own : ownKnob Try.prog.godebug = none := by kernel_rfl
theorem laidOut : laidOutB Try.prog = true := by kernel_rfl
set_option maxRecDepth 100000 in
theorem cursorWaits_lifted (os : Os) (started : os.Started) (H : Type) (enc : TypeId × Value → H) :
    ReturnsInHanded {} Try.checked os 7 .any (Rows.cursorWaitsSpec.pre6 enc Try.prog Try.f7 Rows.cursorWaitsRow.domain false) (Rows.cursorWaitsSpec.post enc Try.prog Try.f7 false true false false) := by
  refine returnsInHanded_of_change_sized (C := Try.checked) own started (by kernel_rfl) Try.func7
    (ChangeSpec.witness6 (enc := enc) (C := Try.checked) false ⟨#[], #[.agg #[.int .i64 0, .int .i64 0, .slice none 0 0, .slice none 0 0, .slice none 0 0]], []⟩ 8 (by kernel_rfl) (by kernel_rfl) (by kernel_rfl) (by kernel_rfl)) ?_
  intro W base args ds gs before hval hW _ hsz _
  exact law_contract ttOk (f := Try.f7) (tb := 4) (t := 28) rfl rfl Try.underlying4 rfl (fun _ _ => rfl) laidOut (by kernel_rfl) (of_decide_eq_true (by kernel_rfl)) 7 (by kernel_rfl) argS
    (fun W base v ds h1 h2 => argS_ok Try.underlying28 h1 h2)
    (fun ds hd => by
      obtain ⟨p, hp, hok⟩ := ask_of hd
      rw [hp]
      exact cursorWaits_ok p hok) hval hW hsz
theorem cursorWaits_holds : Rows.CursorWaitsSaid :=
  OpenClaim.holds_of_wide 7 Try.f7 rfl rfl rfl rfl rfl rfl rfl ⟨rfl, rfl, rfl, rfl, rfl⟩ rfl rfl rfl rfl rfl (by kernel_rfl) Try.func7 (by kernel_rfl)
    (of_decide_eq_true (by kernel_rfl)) (by unfold Func.isWrapper; first | (rw [if_pos (by decide +kernel)]; kernel_rfl) | (rw [if_neg (by decide +kernel)]; exact ⟨rfl, rfl⟩))
    (fun os started H enc _ => cursorWaits_lifted os started H enc)
#print axioms cursorWaits_holds
end Go.Proofs.Ytoeppembokpjkaa
