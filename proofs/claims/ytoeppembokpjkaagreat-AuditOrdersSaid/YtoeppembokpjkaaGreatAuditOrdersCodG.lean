/- Part of the proof of AuditOrders: the contracts of the functions. -/
import Derived.Test.YtoeppembokpjkaaGreatAuditOrdersCodF

set_option linter.unusedVariables false
set_option linter.unusedSimpArgs false
namespace Go.Proofs.YtoeppembokpjkaaGreat
open Go.Ab Go.RowKit Go.MapKept
attribute [local irreducible] ACalls AW ADraw Into fltB fnear
set_option maxRecDepth 100000
/-! ## the page's step -/
theorem before_take' {d : Dag} (h : Valid d) {j : Nat} {c : Cert} (hc : d.certs[j]? = some c) : (∀ y ∈ d.certs.take j, y.before c.round c.author = true) ∧ (∀ y ∈ d.certs.take j, y.digest ≠ c.digest) := by
  obtain ⟨hj, rfl⟩ := List.getElem?_eq_some_iff.1 hc
  refine ⟨fun y hy => ?_, fun y hy e => ?_⟩
  · obtain ⟨i, hi, rfl⟩ := List.mem_take_iff_getElem.1 hy
    exact List.pairwise_iff_getElem.1 h.sorted i j (by omega) hj (by omega)
  · obtain ⟨i, hi, rfl⟩ := List.mem_take_iff_getElem.1 hy
    have := List.pairwise_iff_getElem.1 h.dig i j (by simp; omega) (by simp; omega) (by omega)
    simp at this
    exact this e
theorem keepB_eq' (d : Dag) (r x : Int) : keepB d r x = (match certOf d x with | some c => decide (c.round > r - 8) | none => false) := rfl
theorem rising_ext : ∀ {a b : List Int}, risingI a → risingI b → (∀ x, x ∈ a ↔ x ∈ b) → a = b := by
  intro a b ha hb h
  have hp : a.Perm b := (List.perm_ext_iff_of_nodup (rising_nodup ha) (rising_nodup hb)).2 h
  exact hp.eq_of_pairwise (fun x y _ _ h1 h2 => by omega) ha hb
/-- what is kept of the first certificates -/
structure keptK (d : Dag) (r : Int) (S : List Int) (k : Nat) (dn : List Int) : Prop where
  rise : risingI dn
  mem : ∀ x, x ∈ dn ↔ ∃ y ∈ d.certs.take k, y.digest = x ∧ y.round > r - 8 ∧ x ∈ S
  len : dn.length ≤ k
theorem keptK.zero (d : Dag) (r : Int) (S : List Int) : keptK d r S 0 [] := ⟨List.Pairwise.nil, by simp, Nat.le_refl _⟩
theorem keptK.new {d : Dag} (h : Valid d) {r : Int} {S : List Int} {k : Nat} {dn : List Int} (hk : keptK d r S k dn) {y : Cert} (hy : d.certs[k]? = some y) : y.digest ∉ dn := by
  intro hin
  obtain ⟨z, h1, h2, _⟩ := (hk.mem _).1 hin
  exact (before_take' h hy).2 z h1 h2
theorem keptK.yes {d : Dag} (h : Valid d) {r : Int} {S : List Int} {k : Nat} {dn : List Int} (hk : keptK d r S k dn) {y : Cert} (hy : d.certs[k]? = some y) (h1 : y.round > r - 8) (h2 : y.digest ∈ S) : keptK d r S (k + 1) (insI dn y.digest) := by
  refine ⟨insI_rising hk.rise (hk.new h hy), fun x => ?_, by rw [insI_len]; have := hk.len; omega⟩
  rw [insI_mem, hk.mem, take_snoc' hy]
  constructor
  · rintro (⟨z, k1, k2⟩ | rfl)
    · exact ⟨z, List.mem_append_left _ k1, k2⟩
    · exact ⟨y, List.mem_append_right _ (by simp), rfl, h1, h2⟩
  · rintro ⟨z, k1, k2, k3⟩
    rcases List.mem_append.1 k1 with k1 | k1
    · exact .inl ⟨z, k1, k2, k3⟩
    · simp at k1; rw [k1] at k2; exact .inr k2.symm
theorem keptK.no {d : Dag} {r : Int} {S : List Int} {k : Nat} {dn : List Int} (hk : keptK d r S k dn) {y : Cert} (hy : d.certs[k]? = some y) (h1 : ¬ (y.round > r - 8 ∧ y.digest ∈ S)) : keptK d r S (k + 1) dn := by
  refine ⟨hk.rise, fun x => ?_, by have := hk.len; omega⟩
  rw [hk.mem, take_snoc' hy]
  constructor
  · rintro ⟨z, k1, k2⟩
    exact ⟨z, List.mem_append_left _ k1, k2⟩
  · rintro ⟨z, k1, k2, k3, k4⟩
    rcases List.mem_append.1 k1 with k1 | k1
    · exact ⟨z, k1, k2, k3, k4⟩
    · simp at k1; subst k1; subst k2; exact absurd ⟨k3, k4⟩ h1
theorem keptK.done {d : Dag} (h : Valid d) {r : Int} {S : List Int} {dn : List Int} (hk : keptK d r S d.certs.length dn) (hs : risingI (sortI (keepI d r S))) : dn = sortI (keepI d r S) := by
  refine rising_ext hk.rise hs fun x => ?_
  rw [hk.mem, List.take_length, sortI, List.mem_mergeSort, keepI, List.mem_filter, keepB_eq']
  constructor
  · rintro ⟨y, k1, rfl, k2, k3⟩
    refine ⟨k3, ?_⟩
    rw [certOf_mem h.dig k1]
    simpa using k2
  · rintro ⟨k1, k2⟩
    cases hc : certOf d x with
    | none => rw [hc] at k2; cases k2
    | some c =>
      rw [hc] at k2
      obtain ⟨m1, m2, _⟩ := certOf_some hc
      exact ⟨c, m1, m2, by simpa using k2, k1⟩
theorem copyCursor_ok (c : Cursor) (hc : tiny c.done) : ACalls Tryz.prog 13 [c.av] [] (fun av L => av = c.av ∧ L = []) := by
  refine acalls_go ttOk zOk foOk Tryz.func13 rfl Tryz.ntmps13 rfl false rfl ?_
  conv => whnf
  refine (copyNumbers_ok c.done hc).mono ?_
  rintro _ _ ⟨rfl, rfl⟩
  conv => whnf
  repeat' (first | ((with_reducible apply rd_intro); (focus (intro K hK; (conv => whnf); first | exact hK | (intro z hz; rw [wrapI (by omega)] at hz; subst hz; exact hK))); (conv => whnf)) | ((with_reducible apply gd_and); (focus ((conv => whnf) <;> first | rfl | (intro K hK; (conv => whnf); first | exact hK | (intro z hz; rw [wrapI (by omega)] at hz; subst hz; exact hK)))); (conv => whnf)) | ((with_reducible apply z_wrap); (focus omega); (conv => whnf)) | ((with_reducible first | apply mt_dec | apply mt_eq | apply mt_ne | apply mt_not | apply mt_any) <;> (intro _; conv => whnf)))
  exact ⟨rfl, rfl⟩
noncomputable def stepAV (d : Dag) (c : Cursor) : AV := open Classical in if old d c then .tup [zCurAV, .d (.sl 1 []), .d (.int .i64 6)] else (finW d c).out
def rsSt (d : Dag) (w : Wk) : AF × List AB :=
  ([(2, .ptr 0 0), (4, .ptr 1 0), (7, .ptr 2 0), (8, .arr 3), (9, .d (.int .i64 (nextC d w.c.round)))], [.cells d.cells, zCur, .cells w.c.cells, .row 3 1 (nums w.outs) false])
def rsIn (d : Dag) (l : List Int) : Wk × Nat → AF × List AB
  | (w, j) => ([(2, .ptr 0 0), (4, .ptr 1 0), (7, .ptr 2 0), (8, .arr 3), (10, .d (.sl 1 (nums l))), (11, .d (.int .i64 j))], [.cells d.cells, zCur, .cells w.c.cells, .row 3 1 (nums w.outs) false])
def rsK (d : Dag) (l : List Int) (j : Nat) (outs b done : List Int) (r n : Int) : List Int × Nat → AF × List AB
  | (dn, k) => ([(2, .ptr 0 0), (4, .ptr 1 0), (7, .ptr 2 0), (8, .arr 3), (10, .d (.sl 1 (nums l))), (11, .d (.int .i64 j)), (12, .d (.sl 1 (nums b))), (14, .d (.sl 1 (nums dn))), (15, .d (.int .i64 k))], [.cells d.cells, zCur, .cells [.d (.int .i64 r), .d (.sl 1 (nums done)), .d (.int .i64 n)], .row 3 1 (nums outs) false])
set_option maxHeartbeats 2000000 in
theorem rStep_b (d : Dag) (h : Valid d) (c : Cursor) (hm : curMay c) (h1 : ¬ d.low > 0) : ACalls Tryz.prog 12 [d.av, c.av] [] (fun av L => av = stepAV d c ∧ L = []) := by
  have hw := h.well
  have hlow := h.low
  have hlen := h.len
  have hr := hm.round
  have hcl := certsD_length d.certs
  have hdl := rise_len2 hm.done
  have hno : ¬ old d c := fun h => h1 h.1
  refine acalls_go ttOk zOk foOk Tryz.func12 rfl Tryz.ntmps12 rfl false rfl ?_
  conv => whnf
  repeat' (first | ((with_reducible apply rd_intro); (focus (intro K hK; (conv => whnf); first | exact hK | (intro z hz; rw [wrapI (by omega)] at hz; subst hz; exact hK))); (conv => whnf)) | ((with_reducible apply gd_and); (focus ((conv => whnf) <;> first | rfl | (intro K hK; (conv => whnf); first | exact hK | (intro z hz; rw [wrapI (by omega)] at hz; subst hz; exact hK)))); (conv => whnf)) | ((with_reducible apply z_wrap); (focus omega); (conv => whnf)) | ((with_reducible first | apply mt_dec | apply mt_eq | apply mt_ne | apply mt_not | apply mt_any) <;> (intro _; conv => whnf)))
  · rename_i h3 _; exact absurd h3 h1
  · rename_i h3 _; exact absurd h3 h1
  · refine (copyCursor_ok c (by unfold tiny; omega)).mono ?_
    rintro _ _ ⟨rfl, rfl⟩
    conv => whnf
    repeat' (first | ((with_reducible apply rd_intro); (focus (intro K hK; (conv => whnf); first | exact hK | (intro z hz; rw [wrapI (by omega)] at hz; subst hz; exact hK))); (conv => whnf)) | ((with_reducible apply gd_and); (focus ((conv => whnf) <;> first | rfl | (intro K hK; (conv => whnf); first | exact hK | (intro z hz; rw [wrapI (by omega)] at hz; subst hz; exact hK)))); (conv => whnf)) | ((with_reducible apply z_wrap); (focus omega); (conv => whnf)) | ((with_reducible first | apply mt_dec | apply mt_eq | apply mt_ne | apply mt_not | apply mt_any) <;> (intro _; conv => whnf)))
    refine (rNext_ok d h c.round ⟨hr.1, hr.2.1⟩ hr.2.2).mono ?_
    rintro _ _ ⟨rfl, rfl⟩
    conv => whnf
    repeat' (first | ((with_reducible apply rd_intro); (focus (intro K hK; (conv => whnf); first | exact hK | (intro z hz; rw [wrapI (by omega)] at hz; subst hz; exact hK))); (conv => whnf)) | ((with_reducible apply gd_and); (focus ((conv => whnf) <;> first | rfl | (intro K hK; (conv => whnf); first | exact hK | (intro z hz; rw [wrapI (by omega)] at hz; subst hz; exact hK)))); (conv => whnf)) | ((with_reducible apply z_wrap); (focus omega); (conv => whnf)) | ((with_reducible first | apply mt_dec | apply mt_eq | apply mt_ne | apply mt_not | apply mt_any) <;> (intro _; conv => whnf)))
    refine loop_go ttOk zOk foOk (σ := Wk) (rsSt d) (fun w => goInv d [] (finW d c) false w ∧ (d.low = 0 ∨ d.low ≤ w.c.round - 8)) (fun w => (topR d.certs - w.c.round).toNat) [2, 4, 7, 8, 9] ?_ ?_
    · conv => whnf
      exact ⟨⟨c, []⟩, rfl, rfl, ⟨start_okay hm, hr, (fun h => by cases h), ⟨(topR d.certs).toNat, by show topR d.certs - c.round ≤ ((topR d.certs).toNat : Int); omega, rfl⟩⟩, by show d.low = 0 ∨ d.low ≤ c.round - 8; omega⟩
    · rintro w ⟨hg, hlw⟩
      conv => whnf
      repeat' (first | ((with_reducible apply rd_intro); (focus (intro K hK; (conv => whnf); first | exact hK | (intro z hz; rw [wrapI (by omega)] at hz; subst hz; exact hK))); (conv => whnf)) | ((with_reducible apply gd_and); (focus ((conv => whnf) <;> first | rfl | (intro K hK; (conv => whnf); first | exact hK | (intro z hz; rw [wrapI (by omega)] at hz; subst hz; exact hK)))); (conv => whnf)) | ((with_reducible apply z_wrap); (focus omega); (conv => whnf)) | ((with_reducible first | apply mt_dec | apply mt_eq | apply mt_ne | apply mt_not | apply mt_any) <;> (intro _; conv => whnf)))
      · rename_i hpos
        have hch := hg.chain hw hpos
        have hsp := nextC_spec hw hg.round.1 hg.round.2.2 hpos
        have s1 := hsp.1
        have s2 := hsp.2.1
        have s4 := hsp.2.2.2.1
        have s5 := hsp.2.2.2.2.1
        have s6 := hsp.2.2.2.2.2
        clear hsp
        have htop := hw.top
        refine (rChain_ok d h w.c.round (nextC d w.c.round) hg.round.1 s1 s4 ⟨s6, by omega⟩ s5).mono ?_
        rintro _ _ ⟨rfl, rfl⟩
        refine Exists.elim (⟨_, rfl⟩ : ∃ l, backI d w.c.round (nextC d w.c.round) = l) fun l hl => ?_
        rw [hl] at hch ⊢
        have hll := nums_length l
        have hln := hch.len hw
        conv => whnf
        repeat' (first | ((with_reducible apply rd_intro); (focus (intro K hK; (conv => whnf); first | exact hK | (intro z hz; rw [wrapI (by omega)] at hz; subst hz; exact hK))); (conv => whnf)) | ((with_reducible apply gd_and); (focus ((conv => whnf) <;> first | rfl | (intro K hK; (conv => whnf); first | exact hK | (intro z hz; rw [wrapI (by omega)] at hz; subst hz; exact hK)))); (conv => whnf)) | ((with_reducible apply z_wrap); (focus omega); (conv => whnf)) | ((with_reducible first | apply mt_dec | apply mt_eq | apply mt_ne | apply mt_not | apply mt_any) <;> (intro _; conv => whnf)))
        refine loop_go ttOk zOk foOk (σ := Wk × Nat) (rsIn d l) (fun s => goInI d [] w l false s.1 s.2 ∧ (d.low = 0 ∨ d.low ≤ s.1.c.round - 8)) (fun s => l.length - s.2) [2, 4, 7, 8, 10, 11] ?_ ?_
        · conv => whnf
          exact ⟨(w, 0), rfl, rfl, goInI.start hw hch hg.okay (fun h => by cases h), hlw⟩
        · rintro ⟨v, j⟩ ⟨hi, hlv⟩
          replace hi : goInI d [] w l false v j := hi
          replace hlv : d.low = 0 ∨ d.low ≤ v.c.round - 8 := hlv
          conv => whnf
          repeat' (first | ((with_reducible apply rd_intro); (focus (intro K hK; (conv => whnf); first | exact hK | (intro z hz; rw [wrapI (by omega)] at hz; subst hz; exact hK))); (conv => whnf)) | ((with_reducible apply gd_and); (focus ((conv => whnf) <;> first | rfl | (intro K hK; (conv => whnf); first | exact hK | (intro z hz; rw [wrapI (by omega)] at hz; subst hz; exact hK)))); (conv => whnf)) | ((with_reducible apply z_wrap); (focus omega); (conv => whnf)) | ((with_reducible first | apply mt_dec | apply mt_eq | apply mt_ne | apply mt_not | apply mt_any) <;> (intro _; conv => whnf)))
          · rename_i hjl
            refine Exists.elim (hch.at hw (show j < l.length by omega)) fun x hx => Exists.elim hx fun i hx => Exists.elim hx fun y hx => ?_
            have hx1 := hx.1
            have hx2 := hx.2.1
            have hy := hx.2.2.1
            have hxr := hx.2.2.2
            clear hx
            have hyd : y.digest = x := (getC_some hx2).elim fun z hz => by
              have := hz.1; rw [hy] at this; cases this; exact hz.2
            subst hyd
            have hlt : v.c.round < y.round := by rw [← hxr]; exact hi.next _ (by rw [List.mem_iff_getElem?]; exact ⟨0, by rw [List.getElem?_drop]; simpa using hx1⟩)
            have hnx := goInI.step hw hch hi (by omega) hx1 hx2 hy hxr
            have hfn := hi.okay.fine
            have ho1 := hi.okay.outs' hw
            have ho2 := hnx.okay.outs' hw
            have hyr := (h.certs y (List.mem_of_getElem? hy)).head.round
            have hil : i < d.certs.length := (List.getElem?_eq_some_iff.1 hy).1
            have hrise : risingI (v.put d i y).c.done := hnx.okay.fine.rising
            have hor := rOrder_ok d h hy v.c.done (by have := hfn.few; unfold few; omega) (by omega)
            have hfi := rFind_ok d h.few' y.digest
            rw [geti_at h hy] at hfi
            replace ho2 : (v.outs ++ behindI d i y.round v.c.done).length ≤ 4294967296 := ho2
            have hput : v.put d i y = ⟨⟨y.round, sortI (keepI d y.round (v.c.done ++ behindI d i y.round v.c.done)), min (v.c.count + (behindI d i y.round v.c.done).length) 1099511627776⟩, v.outs ++ behindI d i y.round v.c.done⟩ := rfl
            rw [hput] at hnx hrise
            clear hput
            refine Exists.elim (⟨_, rfl⟩ : ∃ b, behindI d i y.round v.c.done = b) fun b hb => ?_
            rw [hb] at hor ho2 hnx hrise
            have hbl := nums_length b
            have hoa := nums_length v.outs
            rw [List.length_append] at ho2
            have hcnt := hfn.count
            ((with_reducible refine draw_pl ttOk zOk foOk mixedOk pl12x12 ?_ ?_); (focus kernel_rfl); (conv => whnf))
            repeat' (first | ((with_reducible apply rd_intro); (focus (intro K hK; (conv => whnf); first | exact hK | (intro z hz; rw [wrapI (by omega)] at hz; subst hz; exact hK))); (conv => whnf)) | ((with_reducible apply gd_and); (focus ((conv => whnf) <;> first | rfl | (intro K hK; (conv => whnf); first | exact hK | (intro z hz; rw [wrapI (by omega)] at hz; subst hz; exact hK)))); (conv => whnf)) | ((with_reducible apply z_wrap); (focus omega); (conv => whnf)) | ((with_reducible first | apply mt_dec | apply mt_eq | apply mt_ne | apply mt_not | apply mt_any) <;> (intro _; conv => whnf)))
            ((with_reducible apply rd_intro); (focus (intro K hK; (conv => whnf); exact ⟨by omega, [.int .i64 y.digest], nums_at hx1, hK⟩)); (conv => whnf))
            repeat' (first | ((with_reducible apply rd_intro); (focus (intro K hK; (conv => whnf); first | exact hK | (intro z hz; rw [wrapI (by omega)] at hz; subst hz; exact hK))); (conv => whnf)) | ((with_reducible apply gd_and); (focus ((conv => whnf) <;> first | rfl | (intro K hK; (conv => whnf); first | exact hK | (intro z hz; rw [wrapI (by omega)] at hz; subst hz; exact hK)))); (conv => whnf)) | ((with_reducible apply z_wrap); (focus omega); (conv => whnf)) | ((with_reducible first | apply mt_dec | apply mt_eq | apply mt_ne | apply mt_not | apply mt_any) <;> (intro _; conv => whnf)))
            refine hor.mono ?_
            rintro _ _ ⟨rfl, rfl⟩
            conv => whnf
            repeat' (first | ((with_reducible apply rd_intro); (focus (intro K hK; (conv => whnf); first | exact hK | (intro z hz; rw [wrapI (by omega)] at hz; subst hz; exact hK))); (conv => whnf)) | ((with_reducible apply gd_and); (focus ((conv => whnf) <;> first | rfl | (intro K hK; (conv => whnf); first | exact hK | (intro z hz; rw [wrapI (by omega)] at hz; subst hz; exact hK)))); (conv => whnf)) | ((with_reducible apply z_wrap); (focus omega); (conv => whnf)) | ((with_reducible first | apply mt_dec | apply mt_eq | apply mt_ne | apply mt_not | apply mt_any) <;> (intro _; conv => whnf)))
            refine ⟨by rw [hoa, hbl]; show (_ + _) * 8 ≤ _; omega, ?_⟩
            conv => whnf
            repeat' (first | ((with_reducible apply rd_intro); (focus (intro K hK; (conv => whnf); first | exact hK | (intro z hz; rw [wrapI (by omega)] at hz; subst hz; exact hK))); (conv => whnf)) | ((with_reducible apply gd_and); (focus ((conv => whnf) <;> first | rfl | (intro K hK; (conv => whnf); first | exact hK | (intro z hz; rw [wrapI (by omega)] at hz; subst hz; exact hK)))); (conv => whnf)) | ((with_reducible apply z_wrap); (focus omega); (conv => whnf)) | ((with_reducible first | apply mt_dec | apply mt_eq | apply mt_ne | apply mt_not | apply mt_any) <;> (intro _; conv => whnf)))
            ((with_reducible refine draw_pl ttOk zOk foOk mixedOk pl12x14 ?_ ?_); (focus kernel_rfl); (conv => whnf))
            repeat' (first | ((with_reducible apply rd_intro); (focus (intro K hK; (conv => whnf); first | exact hK | (intro z hz; rw [wrapI (by omega)] at hz; subst hz; exact hK))); (conv => whnf)) | ((with_reducible apply gd_and); (focus ((conv => whnf) <;> first | rfl | (intro K hK; (conv => whnf); first | exact hK | (intro z hz; rw [wrapI (by omega)] at hz; subst hz; exact hK)))); (conv => whnf)) | ((with_reducible apply z_wrap); (focus omega); (conv => whnf)) | ((with_reducible first | apply mt_dec | apply mt_eq | apply mt_ne | apply mt_not | apply mt_any) <;> (intro _; conv => whnf)))
            ((with_reducible apply rd_intro); (focus (intro K hK; (conv => whnf); exact ⟨by omega, [.int .i64 y.digest], nums_at hx1, hK⟩)); (conv => whnf))
            repeat' (first | ((with_reducible apply rd_intro); (focus (intro K hK; (conv => whnf); first | exact hK | (intro z hz; rw [wrapI (by omega)] at hz; subst hz; exact hK))); (conv => whnf)) | ((with_reducible apply gd_and); (focus ((conv => whnf) <;> first | rfl | (intro K hK; (conv => whnf); first | exact hK | (intro z hz; rw [wrapI (by omega)] at hz; subst hz; exact hK)))); (conv => whnf)) | ((with_reducible apply z_wrap); (focus omega); (conv => whnf)) | ((with_reducible first | apply mt_dec | apply mt_eq | apply mt_ne | apply mt_not | apply mt_any) <;> (intro _; conv => whnf)))
            refine hfi.mono ?_
            rintro _ _ ⟨rfl, rfl⟩
            conv => whnf
            repeat' (first | ((with_reducible apply rd_intro); (focus (intro K hK; (conv => whnf); first | exact hK | (intro z hz; rw [wrapI (by omega)] at hz; subst hz; exact hK))); (conv => whnf)) | ((with_reducible apply gd_and); (focus ((conv => whnf) <;> first | rfl | (intro K hK; (conv => whnf); first | exact hK | (intro z hz; rw [wrapI (by omega)] at hz; subst hz; exact hK)))); (conv => whnf)) | ((with_reducible apply z_wrap); (focus omega); (conv => whnf)) | ((with_reducible first | apply mt_dec | apply mt_eq | apply mt_ne | apply mt_not | apply mt_any) <;> (intro _; conv => whnf)))
            ((with_reducible apply rd_intro); (focus (intro K hK; (conv => whnf); exact ⟨by omega, y.cs, certsD_at hy, hK⟩)); (conv => whnf))
            repeat' (first | ((with_reducible apply rd_intro); (focus (intro K hK; (conv => whnf); first | exact hK | (intro z hz; rw [wrapI (by omega)] at hz; subst hz; exact hK))); (conv => whnf)) | ((with_reducible apply gd_and); (focus ((conv => whnf) <;> first | rfl | (intro K hK; (conv => whnf); first | exact hK | (intro z hz; rw [wrapI (by omega)] at hz; subst hz; exact hK)))); (conv => whnf)) | ((with_reducible apply z_wrap); (focus omega); (conv => whnf)) | ((with_reducible first | apply mt_dec | apply mt_eq | apply mt_ne | apply mt_not | apply mt_any) <;> (intro _; conv => whnf)))
            refine aw_seal 14 ?_
            conv => whnf
            refine loop_go ttOk zOk foOk (σ := List Int × Nat) (rsK d l j (v.outs ++ b) b v.c.done y.round (min (v.c.count + ((nums b).length : Int)) 1099511627776)) (fun s => s.2 ≤ d.certs.length ∧ keptK d y.round (v.c.done ++ b) s.2 s.1) (fun s => d.certs.length - s.2) [2, 4, 7, 8, 10, 11, 12, 14, 15] ?_ ?_
            · conv => whnf
              exact ⟨([], 0), rfl, by simp only [rsK, ← nums_apps]; rfl, Nat.zero_le _, keptK.zero d _ _⟩
            · rintro ⟨dn, k⟩ ⟨hk, hkk⟩
              replace hk : k ≤ d.certs.length := hk
              replace hkk : keptK d y.round (v.c.done ++ b) k dn := hkk
              conv => whnf
              repeat' (first | ((with_reducible apply rd_intro); (focus (intro K hK; (conv => whnf); first | exact hK | (intro z hz; rw [wrapI (by omega)] at hz; subst hz; exact hK))); (conv => whnf)) | ((with_reducible apply gd_and); (focus ((conv => whnf) <;> first | rfl | (intro K hK; (conv => whnf); first | exact hK | (intro z hz; rw [wrapI (by omega)] at hz; subst hz; exact hK)))); (conv => whnf)) | ((with_reducible apply z_wrap); (focus omega); (conv => whnf)) | ((with_reducible first | apply mt_dec | apply mt_eq | apply mt_ne | apply mt_not | apply mt_any) <;> (intro _; conv => whnf)))
              · rename_i hkl
                refine Exists.elim (⟨_, List.getElem?_eq_getElem (by omega)⟩ : ∃ z, d.certs[k]? = some z) fun z hz => ?_
                have hzr := (h.certs z (List.mem_of_getElem? hz)).head.round
                have hdn := hkk.len
                have hwi := with_ok dn (by unfold tiny; omega) hkk.rise z.digest (hkk.new h hz)
                have hi1 := in_ok v.c.done (by have := hfn.few; unfold few; omega) z.digest
                have hi2 := in_ok b (by unfold few; omega) z.digest
                refine ⟨by omega, z.cs, certsD_at hz, ?_⟩
                conv => whnf
                ((with_reducible refine draw_pl ttOk zOk foOk mixedOk pl12x21 ?_ ?_); (focus kernel_rfl); (conv => whnf))
                repeat' (first | ((with_reducible apply rd_intro); (focus (intro K hK; (conv => whnf); first | exact hK | (intro z hz; rw [wrapI (by omega)] at hz; subst hz; exact hK))); (conv => whnf)) | ((with_reducible apply gd_and); (focus ((conv => whnf) <;> first | rfl | (intro K hK; (conv => whnf); first | exact hK | (intro z hz; rw [wrapI (by omega)] at hz; subst hz; exact hK)))); (conv => whnf)) | ((with_reducible apply z_wrap); (focus omega); (conv => whnf)) | ((with_reducible first | apply mt_dec | apply mt_eq | apply mt_ne | apply mt_not | apply mt_any) <;> (intro _; conv => whnf)))
                ((with_reducible apply rd_intro); (focus (intro K hK; (conv => whnf); exact ⟨by omega, z.cs, certsD_at hz, hK⟩)); (conv => whnf))
                repeat' (first | ((with_reducible apply rd_intro); (focus (intro K hK; (conv => whnf); first | exact hK | (intro z hz; rw [wrapI (by omega)] at hz; subst hz; exact hK))); (conv => whnf)) | ((with_reducible apply gd_and); (focus ((conv => whnf) <;> first | rfl | (intro K hK; (conv => whnf); first | exact hK | (intro z hz; rw [wrapI (by omega)] at hz; subst hz; exact hK)))); (conv => whnf)) | ((with_reducible apply z_wrap); (focus omega); (conv => whnf)) | ((with_reducible first | apply mt_dec | apply mt_eq | apply mt_ne | apply mt_not | apply mt_any) <;> (intro _; conv => whnf)))
                · refine hi1.mono ?_
                  rintro _ _ ⟨rfl, rfl⟩
                  conv => whnf
                  repeat' (first | ((with_reducible apply rd_intro); (focus (intro K hK; (conv => whnf); first | exact hK | (intro z hz; rw [wrapI (by omega)] at hz; subst hz; exact hK))); (conv => whnf)) | ((with_reducible apply gd_and); (focus ((conv => whnf) <;> first | rfl | (intro K hK; (conv => whnf); first | exact hK | (intro z hz; rw [wrapI (by omega)] at hz; subst hz; exact hK)))); (conv => whnf)) | ((with_reducible apply z_wrap); (focus omega); (conv => whnf)) | ((with_reducible first | apply mt_dec | apply mt_eq | apply mt_ne | apply mt_not | apply mt_any) <;> (intro _; conv => whnf)))
                  · rename_i hzl hin
                    refine hwi.mono ?_
                    rintro _ _ ⟨rfl, rfl⟩
                    conv => whnf
                    repeat' (first | ((with_reducible apply rd_intro); (focus (intro K hK; (conv => whnf); first | exact hK | (intro z hz; rw [wrapI (by omega)] at hz; subst hz; exact hK))); (conv => whnf)) | ((with_reducible apply gd_and); (focus ((conv => whnf) <;> first | rfl | (intro K hK; (conv => whnf); first | exact hK | (intro z hz; rw [wrapI (by omega)] at hz; subst hz; exact hK)))); (conv => whnf)) | ((with_reducible apply z_wrap); (focus omega); (conv => whnf)) | ((with_reducible first | apply mt_dec | apply mt_eq | apply mt_ne | apply mt_not | apply mt_any) <;> (intro _; conv => whnf)))
                    exact ⟨(insI dn z.digest, k + 1), rfl, rfl, ⟨by show k + 1 ≤ _; omega, hkk.yes h hz hzl (List.mem_append_left _ (inI_iff.1 hin))⟩, by show _ - (k + 1) < _ - k; omega⟩
                  · rename_i hzl hin
                    refine hi2.mono ?_
                    rintro _ _ ⟨rfl, rfl⟩
                    conv => whnf
                    repeat' (first | ((with_reducible apply rd_intro); (focus (intro K hK; (conv => whnf); first | exact hK | (intro z hz; rw [wrapI (by omega)] at hz; subst hz; exact hK))); (conv => whnf)) | ((with_reducible apply gd_and); (focus ((conv => whnf) <;> first | rfl | (intro K hK; (conv => whnf); first | exact hK | (intro z hz; rw [wrapI (by omega)] at hz; subst hz; exact hK)))); (conv => whnf)) | ((with_reducible apply z_wrap); (focus omega); (conv => whnf)) | ((with_reducible first | apply mt_dec | apply mt_eq | apply mt_ne | apply mt_not | apply mt_any) <;> (intro _; conv => whnf)))
                    · rename_i hin2
                      refine hwi.mono ?_
                      rintro _ _ ⟨rfl, rfl⟩
                      conv => whnf
                      repeat' (first | ((with_reducible apply rd_intro); (focus (intro K hK; (conv => whnf); first | exact hK | (intro z hz; rw [wrapI (by omega)] at hz; subst hz; exact hK))); (conv => whnf)) | ((with_reducible apply gd_and); (focus ((conv => whnf) <;> first | rfl | (intro K hK; (conv => whnf); first | exact hK | (intro z hz; rw [wrapI (by omega)] at hz; subst hz; exact hK)))); (conv => whnf)) | ((with_reducible apply z_wrap); (focus omega); (conv => whnf)) | ((with_reducible first | apply mt_dec | apply mt_eq | apply mt_ne | apply mt_not | apply mt_any) <;> (intro _; conv => whnf)))
                      exact ⟨(insI dn z.digest, k + 1), rfl, rfl, ⟨by show k + 1 ≤ _; omega, hkk.yes h hz hzl (List.mem_append_right _ (inI_iff.1 hin2))⟩, by show _ - (k + 1) < _ - k; omega⟩
                    · rename_i hin2
                      refine ⟨(dn, k + 1), rfl, rfl, ⟨by show k + 1 ≤ _; omega, hkk.no hz fun hq => ?_⟩, by show _ - (k + 1) < _ - k; omega⟩
                      rcases List.mem_append.1 hq.2 with hq | hq
                      · exact hin (inI_iff.2 hq)
                      · exact hin2 (inI_iff.2 hq)
                · rename_i hzl
                  exact ⟨(dn, k + 1), rfl, rfl, ⟨by show k + 1 ≤ _; omega, hkk.no hz fun hq => hzl hq.1⟩, by show _ - (k + 1) < _ - k; omega⟩
              · rename_i hkl
                have hke : k = d.certs.length := by omega
                rw [hke] at hkk
                have hde := hkk.done h hrise
                refine ⟨(⟨⟨y.round, sortI (keepI d y.round (v.c.done ++ b)), min (v.c.count + b.length) 1099511627776⟩, v.outs ++ b⟩, j + 1), rfl, ?_, ⟨hnx, by show d.low = 0 ∨ d.low ≤ y.round - 8; omega⟩, by show _ - (j + 1) < _ - j; omega⟩
                simp only [rsIn, Cursor.cells, Cursor.cs, ← hde, ← hbl]
                rfl
          · rename_i hjl
            have hk := hi.done hw hch hpos hg.round.1 hg.round.2.2 (by omega) hl hg.fin
            have k1 := hk.1
            have k2 := hk.2
            clear hk
            refine (rNext_ok d h v.c.round ⟨k1.round.1, k1.round.2.1⟩ k1.round.2.2).mono ?_
            rintro _ _ ⟨rfl, rfl⟩
            conv => whnf
            repeat' (first | ((with_reducible apply rd_intro); (focus (intro K hK; (conv => whnf); first | exact hK | (intro z hz; rw [wrapI (by omega)] at hz; subst hz; exact hK))); (conv => whnf)) | ((with_reducible apply gd_and); (focus ((conv => whnf) <;> first | rfl | (intro K hK; (conv => whnf); first | exact hK | (intro z hz; rw [wrapI (by omega)] at hz; subst hz; exact hK)))); (conv => whnf)) | ((with_reducible apply z_wrap); (focus omega); (conv => whnf)) | ((with_reducible first | apply mt_dec | apply mt_eq | apply mt_ne | apply mt_not | apply mt_any) <;> (intro _; conv => whnf)))
            exact ⟨v, rfl, rfl, ⟨k1, hlv⟩, k2⟩
      · rename_i hpos
        have hfe : finW d c = w := Exists.elim hg.fin fun n hn => hn.2.trans (goF_end hpos n)
        refine ⟨?_, rfl⟩
        rw [stepAV, if_neg (fun ho => hno ho), hfe]
        rfl
set_option maxHeartbeats 2000000 in
theorem rStep_a (d : Dag) (h : Valid d) (c : Cursor) (hm : curMay c) (h1 : d.low > 0) (h2 : ¬ d.low > c.round - 8) : ACalls Tryz.prog 12 [d.av, c.av] [] (fun av L => av = stepAV d c ∧ L = []) := by
  have hw := h.well
  have hlow := h.low
  have hlen := h.len
  have hr := hm.round
  have hcl := certsD_length d.certs
  have hdl := rise_len2 hm.done
  have hno : ¬ old d c := fun h => h2 h.2
  refine acalls_go ttOk zOk foOk Tryz.func12 rfl Tryz.ntmps12 rfl false rfl ?_
  conv => whnf
  repeat' (first | ((with_reducible apply rd_intro); (focus (intro K hK; (conv => whnf); first | exact hK | (intro z hz; rw [wrapI (by omega)] at hz; subst hz; exact hK))); (conv => whnf)) | ((with_reducible apply gd_and); (focus ((conv => whnf) <;> first | rfl | (intro K hK; (conv => whnf); first | exact hK | (intro z hz; rw [wrapI (by omega)] at hz; subst hz; exact hK)))); (conv => whnf)) | ((with_reducible apply z_wrap); (focus omega); (conv => whnf)) | ((with_reducible first | apply mt_dec | apply mt_eq | apply mt_ne | apply mt_not | apply mt_any) <;> (intro _; conv => whnf)))
  · rename_i h3; exact absurd h3 h2
  · refine (copyCursor_ok c (by unfold tiny; omega)).mono ?_
    rintro _ _ ⟨rfl, rfl⟩
    conv => whnf
    repeat' (first | ((with_reducible apply rd_intro); (focus (intro K hK; (conv => whnf); first | exact hK | (intro z hz; rw [wrapI (by omega)] at hz; subst hz; exact hK))); (conv => whnf)) | ((with_reducible apply gd_and); (focus ((conv => whnf) <;> first | rfl | (intro K hK; (conv => whnf); first | exact hK | (intro z hz; rw [wrapI (by omega)] at hz; subst hz; exact hK)))); (conv => whnf)) | ((with_reducible apply z_wrap); (focus omega); (conv => whnf)) | ((with_reducible first | apply mt_dec | apply mt_eq | apply mt_ne | apply mt_not | apply mt_any) <;> (intro _; conv => whnf)))
    refine (rNext_ok d h c.round ⟨hr.1, hr.2.1⟩ hr.2.2).mono ?_
    rintro _ _ ⟨rfl, rfl⟩
    conv => whnf
    repeat' (first | ((with_reducible apply rd_intro); (focus (intro K hK; (conv => whnf); first | exact hK | (intro z hz; rw [wrapI (by omega)] at hz; subst hz; exact hK))); (conv => whnf)) | ((with_reducible apply gd_and); (focus ((conv => whnf) <;> first | rfl | (intro K hK; (conv => whnf); first | exact hK | (intro z hz; rw [wrapI (by omega)] at hz; subst hz; exact hK)))); (conv => whnf)) | ((with_reducible apply z_wrap); (focus omega); (conv => whnf)) | ((with_reducible first | apply mt_dec | apply mt_eq | apply mt_ne | apply mt_not | apply mt_any) <;> (intro _; conv => whnf)))
    refine loop_go ttOk zOk foOk (σ := Wk) (rsSt d) (fun w => goInv d [] (finW d c) false w ∧ (d.low = 0 ∨ d.low ≤ w.c.round - 8)) (fun w => (topR d.certs - w.c.round).toNat) [2, 4, 7, 8, 9] ?_ ?_
    · conv => whnf
      exact ⟨⟨c, []⟩, rfl, rfl, ⟨start_okay hm, hr, (fun h => by cases h), ⟨(topR d.certs).toNat, by show topR d.certs - c.round ≤ ((topR d.certs).toNat : Int); omega, rfl⟩⟩, by show d.low = 0 ∨ d.low ≤ c.round - 8; omega⟩
    · rintro w ⟨hg, hlw⟩
      conv => whnf
      repeat' (first | ((with_reducible apply rd_intro); (focus (intro K hK; (conv => whnf); first | exact hK | (intro z hz; rw [wrapI (by omega)] at hz; subst hz; exact hK))); (conv => whnf)) | ((with_reducible apply gd_and); (focus ((conv => whnf) <;> first | rfl | (intro K hK; (conv => whnf); first | exact hK | (intro z hz; rw [wrapI (by omega)] at hz; subst hz; exact hK)))); (conv => whnf)) | ((with_reducible apply z_wrap); (focus omega); (conv => whnf)) | ((with_reducible first | apply mt_dec | apply mt_eq | apply mt_ne | apply mt_not | apply mt_any) <;> (intro _; conv => whnf)))
      · rename_i hpos
        have hch := hg.chain hw hpos
        have hsp := nextC_spec hw hg.round.1 hg.round.2.2 hpos
        have s1 := hsp.1
        have s2 := hsp.2.1
        have s4 := hsp.2.2.2.1
        have s5 := hsp.2.2.2.2.1
        have s6 := hsp.2.2.2.2.2
        clear hsp
        have htop := hw.top
        refine (rChain_ok d h w.c.round (nextC d w.c.round) hg.round.1 s1 s4 ⟨s6, by omega⟩ s5).mono ?_
        rintro _ _ ⟨rfl, rfl⟩
        refine Exists.elim (⟨_, rfl⟩ : ∃ l, backI d w.c.round (nextC d w.c.round) = l) fun l hl => ?_
        rw [hl] at hch ⊢
        have hll := nums_length l
        have hln := hch.len hw
        conv => whnf
        repeat' (first | ((with_reducible apply rd_intro); (focus (intro K hK; (conv => whnf); first | exact hK | (intro z hz; rw [wrapI (by omega)] at hz; subst hz; exact hK))); (conv => whnf)) | ((with_reducible apply gd_and); (focus ((conv => whnf) <;> first | rfl | (intro K hK; (conv => whnf); first | exact hK | (intro z hz; rw [wrapI (by omega)] at hz; subst hz; exact hK)))); (conv => whnf)) | ((with_reducible apply z_wrap); (focus omega); (conv => whnf)) | ((with_reducible first | apply mt_dec | apply mt_eq | apply mt_ne | apply mt_not | apply mt_any) <;> (intro _; conv => whnf)))
        refine loop_go ttOk zOk foOk (σ := Wk × Nat) (rsIn d l) (fun s => goInI d [] w l false s.1 s.2 ∧ (d.low = 0 ∨ d.low ≤ s.1.c.round - 8)) (fun s => l.length - s.2) [2, 4, 7, 8, 10, 11] ?_ ?_
        · conv => whnf
          exact ⟨(w, 0), rfl, rfl, goInI.start hw hch hg.okay (fun h => by cases h), hlw⟩
        · rintro ⟨v, j⟩ ⟨hi, hlv⟩
          replace hi : goInI d [] w l false v j := hi
          replace hlv : d.low = 0 ∨ d.low ≤ v.c.round - 8 := hlv
          conv => whnf
          repeat' (first | ((with_reducible apply rd_intro); (focus (intro K hK; (conv => whnf); first | exact hK | (intro z hz; rw [wrapI (by omega)] at hz; subst hz; exact hK))); (conv => whnf)) | ((with_reducible apply gd_and); (focus ((conv => whnf) <;> first | rfl | (intro K hK; (conv => whnf); first | exact hK | (intro z hz; rw [wrapI (by omega)] at hz; subst hz; exact hK)))); (conv => whnf)) | ((with_reducible apply z_wrap); (focus omega); (conv => whnf)) | ((with_reducible first | apply mt_dec | apply mt_eq | apply mt_ne | apply mt_not | apply mt_any) <;> (intro _; conv => whnf)))
          · rename_i hjl
            refine Exists.elim (hch.at hw (show j < l.length by omega)) fun x hx => Exists.elim hx fun i hx => Exists.elim hx fun y hx => ?_
            have hx1 := hx.1
            have hx2 := hx.2.1
            have hy := hx.2.2.1
            have hxr := hx.2.2.2
            clear hx
            have hyd : y.digest = x := (getC_some hx2).elim fun z hz => by
              have := hz.1; rw [hy] at this; cases this; exact hz.2
            subst hyd
            have hlt : v.c.round < y.round := by rw [← hxr]; exact hi.next _ (by rw [List.mem_iff_getElem?]; exact ⟨0, by rw [List.getElem?_drop]; simpa using hx1⟩)
            have hnx := goInI.step hw hch hi (by omega) hx1 hx2 hy hxr
            have hfn := hi.okay.fine
            have ho1 := hi.okay.outs' hw
            have ho2 := hnx.okay.outs' hw
            have hyr := (h.certs y (List.mem_of_getElem? hy)).head.round
            have hil : i < d.certs.length := (List.getElem?_eq_some_iff.1 hy).1
            have hrise : risingI (v.put d i y).c.done := hnx.okay.fine.rising
            have hor := rOrder_ok d h hy v.c.done (by have := hfn.few; unfold few; omega) (by omega)
            have hfi := rFind_ok d h.few' y.digest
            rw [geti_at h hy] at hfi
            replace ho2 : (v.outs ++ behindI d i y.round v.c.done).length ≤ 4294967296 := ho2
            have hput : v.put d i y = ⟨⟨y.round, sortI (keepI d y.round (v.c.done ++ behindI d i y.round v.c.done)), min (v.c.count + (behindI d i y.round v.c.done).length) 1099511627776⟩, v.outs ++ behindI d i y.round v.c.done⟩ := rfl
            rw [hput] at hnx hrise
            clear hput
            refine Exists.elim (⟨_, rfl⟩ : ∃ b, behindI d i y.round v.c.done = b) fun b hb => ?_
            rw [hb] at hor ho2 hnx hrise
            have hbl := nums_length b
            have hoa := nums_length v.outs
            rw [List.length_append] at ho2
            have hcnt := hfn.count
            ((with_reducible refine draw_pl ttOk zOk foOk mixedOk pl12x12 ?_ ?_); (focus kernel_rfl); (conv => whnf))
            repeat' (first | ((with_reducible apply rd_intro); (focus (intro K hK; (conv => whnf); first | exact hK | (intro z hz; rw [wrapI (by omega)] at hz; subst hz; exact hK))); (conv => whnf)) | ((with_reducible apply gd_and); (focus ((conv => whnf) <;> first | rfl | (intro K hK; (conv => whnf); first | exact hK | (intro z hz; rw [wrapI (by omega)] at hz; subst hz; exact hK)))); (conv => whnf)) | ((with_reducible apply z_wrap); (focus omega); (conv => whnf)) | ((with_reducible first | apply mt_dec | apply mt_eq | apply mt_ne | apply mt_not | apply mt_any) <;> (intro _; conv => whnf)))
            ((with_reducible apply rd_intro); (focus (intro K hK; (conv => whnf); exact ⟨by omega, [.int .i64 y.digest], nums_at hx1, hK⟩)); (conv => whnf))
            repeat' (first | ((with_reducible apply rd_intro); (focus (intro K hK; (conv => whnf); first | exact hK | (intro z hz; rw [wrapI (by omega)] at hz; subst hz; exact hK))); (conv => whnf)) | ((with_reducible apply gd_and); (focus ((conv => whnf) <;> first | rfl | (intro K hK; (conv => whnf); first | exact hK | (intro z hz; rw [wrapI (by omega)] at hz; subst hz; exact hK)))); (conv => whnf)) | ((with_reducible apply z_wrap); (focus omega); (conv => whnf)) | ((with_reducible first | apply mt_dec | apply mt_eq | apply mt_ne | apply mt_not | apply mt_any) <;> (intro _; conv => whnf)))
            refine hor.mono ?_
            rintro _ _ ⟨rfl, rfl⟩
            conv => whnf
            repeat' (first | ((with_reducible apply rd_intro); (focus (intro K hK; (conv => whnf); first | exact hK | (intro z hz; rw [wrapI (by omega)] at hz; subst hz; exact hK))); (conv => whnf)) | ((with_reducible apply gd_and); (focus ((conv => whnf) <;> first | rfl | (intro K hK; (conv => whnf); first | exact hK | (intro z hz; rw [wrapI (by omega)] at hz; subst hz; exact hK)))); (conv => whnf)) | ((with_reducible apply z_wrap); (focus omega); (conv => whnf)) | ((with_reducible first | apply mt_dec | apply mt_eq | apply mt_ne | apply mt_not | apply mt_any) <;> (intro _; conv => whnf)))
            refine ⟨by rw [hoa, hbl]; show (_ + _) * 8 ≤ _; omega, ?_⟩
            conv => whnf
            repeat' (first | ((with_reducible apply rd_intro); (focus (intro K hK; (conv => whnf); first | exact hK | (intro z hz; rw [wrapI (by omega)] at hz; subst hz; exact hK))); (conv => whnf)) | ((with_reducible apply gd_and); (focus ((conv => whnf) <;> first | rfl | (intro K hK; (conv => whnf); first | exact hK | (intro z hz; rw [wrapI (by omega)] at hz; subst hz; exact hK)))); (conv => whnf)) | ((with_reducible apply z_wrap); (focus omega); (conv => whnf)) | ((with_reducible first | apply mt_dec | apply mt_eq | apply mt_ne | apply mt_not | apply mt_any) <;> (intro _; conv => whnf)))
            ((with_reducible refine draw_pl ttOk zOk foOk mixedOk pl12x14 ?_ ?_); (focus kernel_rfl); (conv => whnf))
            repeat' (first | ((with_reducible apply rd_intro); (focus (intro K hK; (conv => whnf); first | exact hK | (intro z hz; rw [wrapI (by omega)] at hz; subst hz; exact hK))); (conv => whnf)) | ((with_reducible apply gd_and); (focus ((conv => whnf) <;> first | rfl | (intro K hK; (conv => whnf); first | exact hK | (intro z hz; rw [wrapI (by omega)] at hz; subst hz; exact hK)))); (conv => whnf)) | ((with_reducible apply z_wrap); (focus omega); (conv => whnf)) | ((with_reducible first | apply mt_dec | apply mt_eq | apply mt_ne | apply mt_not | apply mt_any) <;> (intro _; conv => whnf)))
            ((with_reducible apply rd_intro); (focus (intro K hK; (conv => whnf); exact ⟨by omega, [.int .i64 y.digest], nums_at hx1, hK⟩)); (conv => whnf))
            repeat' (first | ((with_reducible apply rd_intro); (focus (intro K hK; (conv => whnf); first | exact hK | (intro z hz; rw [wrapI (by omega)] at hz; subst hz; exact hK))); (conv => whnf)) | ((with_reducible apply gd_and); (focus ((conv => whnf) <;> first | rfl | (intro K hK; (conv => whnf); first | exact hK | (intro z hz; rw [wrapI (by omega)] at hz; subst hz; exact hK)))); (conv => whnf)) | ((with_reducible apply z_wrap); (focus omega); (conv => whnf)) | ((with_reducible first | apply mt_dec | apply mt_eq | apply mt_ne | apply mt_not | apply mt_any) <;> (intro _; conv => whnf)))
            refine hfi.mono ?_
            rintro _ _ ⟨rfl, rfl⟩
            conv => whnf
            repeat' (first | ((with_reducible apply rd_intro); (focus (intro K hK; (conv => whnf); first | exact hK | (intro z hz; rw [wrapI (by omega)] at hz; subst hz; exact hK))); (conv => whnf)) | ((with_reducible apply gd_and); (focus ((conv => whnf) <;> first | rfl | (intro K hK; (conv => whnf); first | exact hK | (intro z hz; rw [wrapI (by omega)] at hz; subst hz; exact hK)))); (conv => whnf)) | ((with_reducible apply z_wrap); (focus omega); (conv => whnf)) | ((with_reducible first | apply mt_dec | apply mt_eq | apply mt_ne | apply mt_not | apply mt_any) <;> (intro _; conv => whnf)))
            ((with_reducible apply rd_intro); (focus (intro K hK; (conv => whnf); exact ⟨by omega, y.cs, certsD_at hy, hK⟩)); (conv => whnf))
            repeat' (first | ((with_reducible apply rd_intro); (focus (intro K hK; (conv => whnf); first | exact hK | (intro z hz; rw [wrapI (by omega)] at hz; subst hz; exact hK))); (conv => whnf)) | ((with_reducible apply gd_and); (focus ((conv => whnf) <;> first | rfl | (intro K hK; (conv => whnf); first | exact hK | (intro z hz; rw [wrapI (by omega)] at hz; subst hz; exact hK)))); (conv => whnf)) | ((with_reducible apply z_wrap); (focus omega); (conv => whnf)) | ((with_reducible first | apply mt_dec | apply mt_eq | apply mt_ne | apply mt_not | apply mt_any) <;> (intro _; conv => whnf)))
            refine aw_seal 14 ?_
            conv => whnf
            refine loop_go ttOk zOk foOk (σ := List Int × Nat) (rsK d l j (v.outs ++ b) b v.c.done y.round (min (v.c.count + ((nums b).length : Int)) 1099511627776)) (fun s => s.2 ≤ d.certs.length ∧ keptK d y.round (v.c.done ++ b) s.2 s.1) (fun s => d.certs.length - s.2) [2, 4, 7, 8, 10, 11, 12, 14, 15] ?_ ?_
            · conv => whnf
              exact ⟨([], 0), rfl, by simp only [rsK, ← nums_apps]; rfl, Nat.zero_le _, keptK.zero d _ _⟩
            · rintro ⟨dn, k⟩ ⟨hk, hkk⟩
              replace hk : k ≤ d.certs.length := hk
              replace hkk : keptK d y.round (v.c.done ++ b) k dn := hkk
              conv => whnf
              repeat' (first | ((with_reducible apply rd_intro); (focus (intro K hK; (conv => whnf); first | exact hK | (intro z hz; rw [wrapI (by omega)] at hz; subst hz; exact hK))); (conv => whnf)) | ((with_reducible apply gd_and); (focus ((conv => whnf) <;> first | rfl | (intro K hK; (conv => whnf); first | exact hK | (intro z hz; rw [wrapI (by omega)] at hz; subst hz; exact hK)))); (conv => whnf)) | ((with_reducible apply z_wrap); (focus omega); (conv => whnf)) | ((with_reducible first | apply mt_dec | apply mt_eq | apply mt_ne | apply mt_not | apply mt_any) <;> (intro _; conv => whnf)))
              · rename_i hkl
                refine Exists.elim (⟨_, List.getElem?_eq_getElem (by omega)⟩ : ∃ z, d.certs[k]? = some z) fun z hz => ?_
                have hzr := (h.certs z (List.mem_of_getElem? hz)).head.round
                have hdn := hkk.len
                have hwi := with_ok dn (by unfold tiny; omega) hkk.rise z.digest (hkk.new h hz)
                have hi1 := in_ok v.c.done (by have := hfn.few; unfold few; omega) z.digest
                have hi2 := in_ok b (by unfold few; omega) z.digest
                refine ⟨by omega, z.cs, certsD_at hz, ?_⟩
                conv => whnf
                ((with_reducible refine draw_pl ttOk zOk foOk mixedOk pl12x21 ?_ ?_); (focus kernel_rfl); (conv => whnf))
                repeat' (first | ((with_reducible apply rd_intro); (focus (intro K hK; (conv => whnf); first | exact hK | (intro z hz; rw [wrapI (by omega)] at hz; subst hz; exact hK))); (conv => whnf)) | ((with_reducible apply gd_and); (focus ((conv => whnf) <;> first | rfl | (intro K hK; (conv => whnf); first | exact hK | (intro z hz; rw [wrapI (by omega)] at hz; subst hz; exact hK)))); (conv => whnf)) | ((with_reducible apply z_wrap); (focus omega); (conv => whnf)) | ((with_reducible first | apply mt_dec | apply mt_eq | apply mt_ne | apply mt_not | apply mt_any) <;> (intro _; conv => whnf)))
                ((with_reducible apply rd_intro); (focus (intro K hK; (conv => whnf); exact ⟨by omega, z.cs, certsD_at hz, hK⟩)); (conv => whnf))
                repeat' (first | ((with_reducible apply rd_intro); (focus (intro K hK; (conv => whnf); first | exact hK | (intro z hz; rw [wrapI (by omega)] at hz; subst hz; exact hK))); (conv => whnf)) | ((with_reducible apply gd_and); (focus ((conv => whnf) <;> first | rfl | (intro K hK; (conv => whnf); first | exact hK | (intro z hz; rw [wrapI (by omega)] at hz; subst hz; exact hK)))); (conv => whnf)) | ((with_reducible apply z_wrap); (focus omega); (conv => whnf)) | ((with_reducible first | apply mt_dec | apply mt_eq | apply mt_ne | apply mt_not | apply mt_any) <;> (intro _; conv => whnf)))
                · refine hi1.mono ?_
                  rintro _ _ ⟨rfl, rfl⟩
                  conv => whnf
                  repeat' (first | ((with_reducible apply rd_intro); (focus (intro K hK; (conv => whnf); first | exact hK | (intro z hz; rw [wrapI (by omega)] at hz; subst hz; exact hK))); (conv => whnf)) | ((with_reducible apply gd_and); (focus ((conv => whnf) <;> first | rfl | (intro K hK; (conv => whnf); first | exact hK | (intro z hz; rw [wrapI (by omega)] at hz; subst hz; exact hK)))); (conv => whnf)) | ((with_reducible apply z_wrap); (focus omega); (conv => whnf)) | ((with_reducible first | apply mt_dec | apply mt_eq | apply mt_ne | apply mt_not | apply mt_any) <;> (intro _; conv => whnf)))
                  · rename_i hzl hin
                    refine hwi.mono ?_
                    rintro _ _ ⟨rfl, rfl⟩
                    conv => whnf
                    repeat' (first | ((with_reducible apply rd_intro); (focus (intro K hK; (conv => whnf); first | exact hK | (intro z hz; rw [wrapI (by omega)] at hz; subst hz; exact hK))); (conv => whnf)) | ((with_reducible apply gd_and); (focus ((conv => whnf) <;> first | rfl | (intro K hK; (conv => whnf); first | exact hK | (intro z hz; rw [wrapI (by omega)] at hz; subst hz; exact hK)))); (conv => whnf)) | ((with_reducible apply z_wrap); (focus omega); (conv => whnf)) | ((with_reducible first | apply mt_dec | apply mt_eq | apply mt_ne | apply mt_not | apply mt_any) <;> (intro _; conv => whnf)))
                    exact ⟨(insI dn z.digest, k + 1), rfl, rfl, ⟨by show k + 1 ≤ _; omega, hkk.yes h hz hzl (List.mem_append_left _ (inI_iff.1 hin))⟩, by show _ - (k + 1) < _ - k; omega⟩
                  · rename_i hzl hin
                    refine hi2.mono ?_
                    rintro _ _ ⟨rfl, rfl⟩
                    conv => whnf
                    repeat' (first | ((with_reducible apply rd_intro); (focus (intro K hK; (conv => whnf); first | exact hK | (intro z hz; rw [wrapI (by omega)] at hz; subst hz; exact hK))); (conv => whnf)) | ((with_reducible apply gd_and); (focus ((conv => whnf) <;> first | rfl | (intro K hK; (conv => whnf); first | exact hK | (intro z hz; rw [wrapI (by omega)] at hz; subst hz; exact hK)))); (conv => whnf)) | ((with_reducible apply z_wrap); (focus omega); (conv => whnf)) | ((with_reducible first | apply mt_dec | apply mt_eq | apply mt_ne | apply mt_not | apply mt_any) <;> (intro _; conv => whnf)))
                    · rename_i hin2
                      refine hwi.mono ?_
                      rintro _ _ ⟨rfl, rfl⟩
                      conv => whnf
                      repeat' (first | ((with_reducible apply rd_intro); (focus (intro K hK; (conv => whnf); first | exact hK | (intro z hz; rw [wrapI (by omega)] at hz; subst hz; exact hK))); (conv => whnf)) | ((with_reducible apply gd_and); (focus ((conv => whnf) <;> first | rfl | (intro K hK; (conv => whnf); first | exact hK | (intro z hz; rw [wrapI (by omega)] at hz; subst hz; exact hK)))); (conv => whnf)) | ((with_reducible apply z_wrap); (focus omega); (conv => whnf)) | ((with_reducible first | apply mt_dec | apply mt_eq | apply mt_ne | apply mt_not | apply mt_any) <;> (intro _; conv => whnf)))
                      exact ⟨(insI dn z.digest, k + 1), rfl, rfl, ⟨by show k + 1 ≤ _; omega, hkk.yes h hz hzl (List.mem_append_right _ (inI_iff.1 hin2))⟩, by show _ - (k + 1) < _ - k; omega⟩
                    · rename_i hin2
                      refine ⟨(dn, k + 1), rfl, rfl, ⟨by show k + 1 ≤ _; omega, hkk.no hz fun hq => ?_⟩, by show _ - (k + 1) < _ - k; omega⟩
                      rcases List.mem_append.1 hq.2 with hq | hq
                      · exact hin (inI_iff.2 hq)
                      · exact hin2 (inI_iff.2 hq)
                · rename_i hzl
                  exact ⟨(dn, k + 1), rfl, rfl, ⟨by show k + 1 ≤ _; omega, hkk.no hz fun hq => hzl hq.1⟩, by show _ - (k + 1) < _ - k; omega⟩
              · rename_i hkl
                have hke : k = d.certs.length := by omega
                rw [hke] at hkk
                have hde := hkk.done h hrise
                refine ⟨(⟨⟨y.round, sortI (keepI d y.round (v.c.done ++ b)), min (v.c.count + b.length) 1099511627776⟩, v.outs ++ b⟩, j + 1), rfl, ?_, ⟨hnx, by show d.low = 0 ∨ d.low ≤ y.round - 8; omega⟩, by show _ - (j + 1) < _ - j; omega⟩
                simp only [rsIn, Cursor.cells, Cursor.cs, ← hde, ← hbl]
                rfl
          · rename_i hjl
            have hk := hi.done hw hch hpos hg.round.1 hg.round.2.2 (by omega) hl hg.fin
            have k1 := hk.1
            have k2 := hk.2
            clear hk
            refine (rNext_ok d h v.c.round ⟨k1.round.1, k1.round.2.1⟩ k1.round.2.2).mono ?_
            rintro _ _ ⟨rfl, rfl⟩
            conv => whnf
            repeat' (first | ((with_reducible apply rd_intro); (focus (intro K hK; (conv => whnf); first | exact hK | (intro z hz; rw [wrapI (by omega)] at hz; subst hz; exact hK))); (conv => whnf)) | ((with_reducible apply gd_and); (focus ((conv => whnf) <;> first | rfl | (intro K hK; (conv => whnf); first | exact hK | (intro z hz; rw [wrapI (by omega)] at hz; subst hz; exact hK)))); (conv => whnf)) | ((with_reducible apply z_wrap); (focus omega); (conv => whnf)) | ((with_reducible first | apply mt_dec | apply mt_eq | apply mt_ne | apply mt_not | apply mt_any) <;> (intro _; conv => whnf)))
            exact ⟨v, rfl, rfl, ⟨k1, hlv⟩, k2⟩
      · rename_i hpos
        have hfe : finW d c = w := Exists.elim hg.fin fun n hn => hn.2.trans (goF_end hpos n)
        refine ⟨?_, rfl⟩
        rw [stepAV, if_neg (fun ho => hno ho), hfe]
        rfl
  · rename_i h3; exact absurd h1 h3
theorem rStep_o (d : Dag) (h : Valid d) (c : Cursor) (hm : curMay c) (h1 : d.low > 0) (h2 : d.low > c.round - 8) : ACalls Tryz.prog 12 [d.av, c.av] [] (fun av L => av = stepAV d c ∧ L = []) := by
  have hw := h.well
  have hlow := h.low
  have hlen := h.len
  have hr := hm.round
  have hcl := certsD_length d.certs
  have hdl := rise_len2 hm.done
  have hst : stepAV d c = .tup [zCurAV, .d (.sl 1 []), .d (.int .i64 6)] := by rw [stepAV, if_pos ⟨h1, h2⟩]
  rw [hst]
  refine acalls_go ttOk zOk foOk Tryz.func12 rfl Tryz.ntmps12 rfl false rfl ?_
  conv => whnf
  repeat' (first | ((with_reducible apply rd_intro); (focus (intro K hK; (conv => whnf); first | exact hK | (intro z hz; rw [wrapI (by omega)] at hz; subst hz; exact hK))); (conv => whnf)) | ((with_reducible apply gd_and); (focus ((conv => whnf) <;> first | rfl | (intro K hK; (conv => whnf); first | exact hK | (intro z hz; rw [wrapI (by omega)] at hz; subst hz; exact hK)))); (conv => whnf)) | ((with_reducible apply z_wrap); (focus omega); (conv => whnf)) | ((with_reducible first | apply mt_dec | apply mt_eq | apply mt_ne | apply mt_not | apply mt_any) <;> (intro _; conv => whnf)))
  · exact ⟨rfl, rfl⟩
  · rename_i h3; exact absurd h2 h3
  · rename_i h3; exact absurd h1 h3
theorem rStep_ok (d : Dag) (h : Valid d) (c : Cursor) (hm : curMay c) : ACalls Tryz.prog 12 [d.av, c.av] [] (fun av L => av = stepAV d c ∧ L = []) := by
  by_cases h1 : d.low > 0
  · by_cases h2 : d.low > c.round - 8
    · exact rStep_o d h c hm h1 h2
    · exact rStep_a d h c hm h1 h2
  · exact rStep_b d h c hm h1
end Go.Proofs.YtoeppembokpjkaaGreat

namespace Go.Proofs.YtoeppembokpjkaaGreat
open Go.Ab Go.RowKit Go.MapKept
attribute [local irreducible] ACalls AW ADraw Into fltB fnear
set_option maxRecDepth 100000
structure mayD (d : Dag) (j : Nat) : Prop where
  ok : ∀ c ∈ d.certs.take j, okCert d.nodes c ∧ d.low < c.round
  sorted : sortedC (d.certs.take j)
  dig : ((d.certs.take j).map (·.digest)).Nodup
  here : ∀ c ∈ d.certs.take j, c.round > d.low + 1 → ∀ x ∈ c.pars, ∃ c' ∈ d.certs.take j, c'.digest = x ∧ c'.round = c.round - 1
theorem mayD.next {d : Dag} {j : Nat} (h : mayD d j) {c : Cert} (hc : d.certs[j]? = some c) (h1 : okCert d.nodes c) (h2 : d.low < c.round) (h3 : c.round > d.low + 1 → ∀ x ∈ c.pars, ∃ c' ∈ d.certs.take j, c'.digest = x ∧ c'.round = c.round - 1) (h4 : ∀ c0, 0 < j → d.certs[j - 1]? = some c0 → c0.before c.round c.author = true) (h5 : ∀ x ∈ d.certs.take j, x.digest ≠ c.digest) : mayD d (j + 1) := by
  have e := take_snoc hc
  refine ⟨?_, ?_, ?_, ?_⟩
  · rw [e]
    intro y hy
    rcases List.mem_append.1 hy with hy | hy
    · exact h.ok y hy
    · simp at hy; rw [hy]; exact ⟨h1, h2⟩
  · rw [e]
    refine List.pairwise_append.2 ⟨h.sorted, by simp, fun x hx y hy => ?_⟩
    simp at hy
    rw [hy]
    obtain ⟨i, hi, rfl⟩ := List.mem_take_iff_getElem.1 hx
    have hil : i < j := by omega
    have hjl := (List.getElem?_eq_some_iff.1 hc).1
    have hp : d.certs[j - 1]? = some d.certs[j - 1] := List.getElem?_eq_getElem (by omega)
    have hb := h4 _ (by omega) hp
    rcases Nat.lt_or_ge i (j - 1) with hlt | hge
    · have h6 := List.pairwise_iff_getElem.1 h.sorted i (j - 1) (by rw [List.length_take]; omega) (by rw [List.length_take]; omega) hlt
      rw [List.getElem_take, List.getElem_take] at h6
      have h7 := before_iff.1 h6
      have h8 := before_iff.1 hb
      exact before_iff.2 (by omega)
    · have : i = j - 1 := by omega
      subst this
      exact hb
  · rw [e, List.map_append, List.nodup_append]
    refine ⟨h.dig, by simp, fun a ha b hb => ?_⟩
    obtain ⟨x, hx, rfl⟩ := List.mem_map.1 ha
    simp at hb
    rw [hb]
    exact h5 x hx
  · rw [e]
    intro y hy hr x hx
    rcases List.mem_append.1 hy with hy | hy
    · obtain ⟨c', k1, k2⟩ := h.here y hy hr x hx
      exact ⟨c', List.mem_append_left _ k1, k2⟩
    · simp at hy
      rw [hy] at hr hx ⊢
      obtain ⟨c', k1, k2⟩ := h3 hr x hx
      exact ⟨c', List.mem_append_left _ k1, k2⟩
end Go.Proofs.YtoeppembokpjkaaGreat
