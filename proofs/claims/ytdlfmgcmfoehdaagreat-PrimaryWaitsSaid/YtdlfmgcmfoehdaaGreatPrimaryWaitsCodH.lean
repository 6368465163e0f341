/- Part of the proof of PrimaryWaits: the contracts of the functions. -/
import Derived.Test.YtdlfmgcmfoehdaaGreatPrimaryWaitsCodG
import Derived.Shelf.Spec.SlicesInsertGrow

set_option linter.unusedVariables false
set_option linter.unusedSimpArgs false
namespace Go.Proofs.YtdlfmgcmfoehdaaGreat
open Go.Ab Go.RowKit Go.MapKept
attribute [local irreducible] ACalls AW ADraw Into fltB fnear
set_option maxRecDepth 100000
/-! ## how a primary goes on -/
theorem fewC_of {d : Dag} (h : Valid d) : fewC d := fun c hc => (certFew_of h.nodes (h.certs c hc)).pars
def ripeB (p : Prim) : Bool := if p.round % 2 = 0 then decide (anchorI p.dag p.round > 0) else (decide (p.round = 1) || (decide (anchorI p.dag (p.round - 1) = 0) || settled p.dag (p.round - 1)))
theorem ripe_ok (p : Prim) (hv : Valid p.dag) (hr : 1 ≤ p.round ∧ p.round ≤ 1099511627776) : ACalls Tryz.prog 139 [p.av] [] (fun av L => av = .d (.bool (ripeB p)) ∧ L = []) := by
  have hnn := of_decide_eq_true hv.nodes
  have hn : 0 < p.dag.nodes ∧ p.dag.nodes ≤ 16 := ⟨by omega, by omega⟩
  have hw := hv.fit
  have hfc := fewC_of hv
  unfold ripeB
  by_cases h2 : p.round % 2 = 0
  · have h1 := anchorOf_ok p.dag hw hn p.round ⟨by omega, by omega⟩
    rw [if_pos h2]
    refine acalls_go ttOk zOk foOk Tryz.func139 rfl Tryz.ntmps139 rfl false rfl ?_
    conv => whnf
    refine ⟨by decide, fun z hz => ?_⟩
    replace hz := tmod_pos (by omega) hz
    subst hz
    conv => whnf
    repeat' (first | ((with_reducible apply rd_intro); (focus (intro K hK; (conv => whnf); first | exact hK | (intro z hz; rw [wrapI (by omega)] at hz; subst hz; exact hK))); (conv => whnf)) | ((with_reducible apply gd_and); (focus ((conv => whnf) <;> first | rfl | (intro K hK; (conv => whnf); first | exact hK | (intro z hz; rw [wrapI (by omega)] at hz; subst hz; exact hK)))); (conv => whnf)) | ((with_reducible apply z_wrap); (focus omega); (conv => whnf)) | ((with_reducible first | apply mt_dec | apply mt_eq | apply mt_ne | apply mt_not | apply mt_any) <;> (intro _; conv => whnf)))
    · refine ACalls.mono (post := fun av L => av = .d (.int .i64 (anchorI p.dag p.round)) ∧ L = []) h1 ?_
      rintro _ _ ⟨rfl, rfl⟩
      conv => whnf
      repeat' (first | ((with_reducible apply rd_intro); (focus (intro K hK; (conv => whnf); first | exact hK | (intro z hz; rw [wrapI (by omega)] at hz; subst hz; exact hK))); (conv => whnf)) | ((with_reducible apply gd_and); (focus ((conv => whnf) <;> first | rfl | (intro K hK; (conv => whnf); first | exact hK | (intro z hz; rw [wrapI (by omega)] at hz; subst hz; exact hK)))); (conv => whnf)) | ((with_reducible apply z_wrap); (focus omega); (conv => whnf)) | ((with_reducible first | apply mt_dec | apply mt_eq | apply mt_ne | apply mt_not | apply mt_any) <;> (intro _; conv => whnf)))
      exact ⟨rfl, rfl⟩
    all_goals exact absurd h2 (by assumption)
  · rw [if_neg h2]
    refine acalls_go ttOk zOk foOk Tryz.func139 rfl Tryz.ntmps139 rfl false rfl ?_
    conv => whnf
    refine ⟨by decide, fun z hz => ?_⟩
    replace hz := tmod_pos (by omega) hz
    subst hz
    conv => whnf
    repeat' (first | ((with_reducible apply rd_intro); (focus (intro K hK; (conv => whnf); first | exact hK | (intro z hz; rw [wrapI (by omega)] at hz; subst hz; exact hK))); (conv => whnf)) | ((with_reducible apply gd_and); (focus ((conv => whnf) <;> first | rfl | (intro K hK; (conv => whnf); first | exact hK | (intro z hz; rw [wrapI (by omega)] at hz; subst hz; exact hK)))); (conv => whnf)) | ((with_reducible apply z_wrap); (focus omega); (conv => whnf)) | ((with_reducible first | apply mt_dec | apply mt_eq | apply mt_ne | apply mt_not | apply mt_any) <;> (intro _; conv => whnf)))
    · rename_i h
      exact absurd h h2
    · rename_i _ h1
      replace h1 : p.round = 1 := h1
      exact ⟨congrArg (fun b => AV.d (.bool b)) (by rw [decide_eq_true h1]; rfl), rfl⟩
    · rename_i _ h1
      replace h1 : p.round ≠ 1 := h1
      refine ACalls.mono (post := fun av L => av = .d (.int .i64 (anchorI p.dag (p.round - 1))) ∧ L = []) (anchorOf_ok p.dag hw hn (p.round - 1) ⟨by omega, by omega⟩) ?_
      rintro _ _ ⟨rfl, rfl⟩
      conv => whnf
      repeat' (first | ((with_reducible apply rd_intro); (focus (intro K hK; (conv => whnf); first | exact hK | (intro z hz; rw [wrapI (by omega)] at hz; subst hz; exact hK))); (conv => whnf)) | ((with_reducible apply gd_and); (focus ((conv => whnf) <;> first | rfl | (intro K hK; (conv => whnf); first | exact hK | (intro z hz; rw [wrapI (by omega)] at hz; subst hz; exact hK)))); (conv => whnf)) | ((with_reducible apply z_wrap); (focus omega); (conv => whnf)) | ((with_reducible first | apply mt_dec | apply mt_eq | apply mt_ne | apply mt_not | apply mt_any) <;> (intro _; conv => whnf)))
      · rename_i h3
        exact ⟨congrArg (fun b => AV.d (.bool b)) (by rw [decide_eq_false h1, decide_eq_true h3]; rfl), rfl⟩
      · rename_i h3
        refine ACalls.mono (post := fun av L => av = .d (.bool (settled p.dag (p.round - 1))) ∧ L = []) (settled_ok p.dag hw hn hfc (p.round - 1) ⟨by omega, by omega⟩) ?_
        rintro _ _ ⟨rfl, rfl⟩
        conv => whnf
        exact ⟨congrArg (fun b => AV.d (.bool b)) (by rw [decide_eq_false h1, decide_eq_false h3]; rfl), rfl⟩
def Prim.at (p : Prim) (x : Int × Int) : Prim := { p with round := x.1, age := x.2 }
def climb (p : Prim) (x : Int × Int) (r : Int) : Bool := decide (r > x.1 ∧ r > p.dag.low) && !fullB p r
def lift (p : Prim) (x : Int × Int) (r : Int) : Int × Int := if r > x.1 ∧ r > p.dag.low then (r, 0) else x
def goesB (p : Prim) (x : Int × Int) : Bool := fullB p x.1 && (decide (x.1 < 1099511627776) && (decide (x.2 ≥ 5) || ripeB (p.at x)))
def onF (p : Prim) : Nat → Int × Int → Int → Int × Int
  | 0, x, _ => x
  | n + 1, x, r => if climb p x r = true then onF p n x (r - 1) else if goesB p (lift p x r) = true then onF p n ((lift p x r).1 + 1, 0) r else lift p x r
def onM (x : Int × Int) (r : Int) : Nat := (1099511627776 - x.1).toNat + r.toNat
theorem lift_m (p : Prim) (x : Int × Int) (r : Int) (hx : 1 ≤ x.1) : x.1 ≤ (lift p x r).1 := by
  unfold lift
  split
  · show x.1 ≤ r
    omega
  · exact Int.le_refl _
theorem climb_1 {p : Prim} {x : Int × Int} {r : Int} (h : climb p x r = true) : r > x.1 := by
  unfold climb at h
  simp at h
  exact h.1.1
theorem goes_1 {p : Prim} {x : Int × Int} (h : goesB p x = true) : x.1 < 1099511627776 := by
  unfold goesB at h
  simp at h
  exact h.2.1
theorem onF_fuel (p : Prim) : ∀ (m n : Nat) (x : Int × Int) (r : Int), 1 ≤ x.1 → onM x r < m → onM x r < n → onF p m x r = onF p n x r
  | 0, n, x, r, _, h1, h2 => by omega
  | m + 1, 0, x, r, _, h1, h2 => by omega
  | m + 1, n + 1, x, r, hx, h1, h2 => by
    unfold onF
    have hl := lift_m p x r hx
    unfold onM at h1 h2
    by_cases hc : climb p x r = true
    · rw [if_pos hc, if_pos hc]
      have := climb_1 hc
      exact onF_fuel p m n x (r - 1) hx (by unfold onM; omega) (by unfold onM; omega)
    · rw [if_neg hc, if_neg hc]
      by_cases hg : goesB p (lift p x r) = true
      · rw [if_pos hg, if_pos hg]
        have := goes_1 hg
        exact onF_fuel p m n _ r (by show 1 ≤ (lift p x r).1 + 1; omega) (by unfold onM; show (1099511627776 - ((lift p x r).1 + 1)).toNat + _ < _; omega) (by unfold onM; show (1099511627776 - ((lift p x r).1 + 1)).toNat + _ < _; omega)
      · rw [if_neg hg, if_neg hg]
def onP (p : Prim) : Prim := p.at (onF p (onM (p.round, p.age) (topR p.dag.certs) + 1) (p.round, p.age) (topR p.dag.certs))
def onSt (p : Prim) (out : List Msg) (x : (Int × Int) × Int) : AF × List AB := ([(0, .ptr 0 0), (2, .d (.int .i64 x.2))], (p.at x.1).st out)
theorem topR_le {d : Dag} (h : Valid d) : 0 ≤ topR d.certs ∧ topR d.certs ≤ 1099511627776 := by
  unfold topR
  cases hl : d.certs.getLast? with
  | none => exact ⟨by decide, by decide⟩
  | some c =>
    have := (h.certs c (List.mem_of_getLast? hl)).head.round
    show 0 ≤ c.round ∧ c.round ≤ _
    omega
theorem on_end {p : Prim} {x : Int × Int} {r : Int} (hon : p.at (onF p (onM x r + 1) x r) = onP p) (hc : climb p x r = false) {y : Int × Int} (hl : lift p x r = y) (hg : goesB p y = false) : onP p = p.at y := by
  rw [← hon, onF, if_neg (by rw [hc]; decide), hl, if_neg (by rw [hg]; decide)]
theorem on_climb {p : Prim} {x : Int × Int} {r : Int} (hon : p.at (onF p (onM x r + 1) x r) = onP p) (hx : 1 ≤ x.1) (hc : climb p x r = true) : p.at (onF p (onM x (r - 1) + 1) x (r - 1)) = onP p := by
  have := climb_1 hc
  have e : onF p (onM x r + 1) x r = onF p (onM x r) x (r - 1) := by rw [onF, if_pos hc]
  rw [← hon, e]
  exact congrArg p.at (onF_fuel p _ _ x (r - 1) hx (by unfold onM; omega) (by unfold onM; omega))
theorem on_goes {p : Prim} {x : Int × Int} {r : Int} (hon : p.at (onF p (onM x r + 1) x r) = onP p) (hx : 1 ≤ x.1) (hc : climb p x r = false) {y : Int × Int} (hl : lift p x r = y) (hg : goesB p y = true) : p.at (onF p (onM (y.1 + 1, 0) r + 1) (y.1 + 1, 0) r) = onP p := by
  have h1 := goes_1 hg
  have h2 := lift_m p x r hx
  rw [hl] at h2
  have e : onF p (onM x r + 1) x r = onF p (onM x r) (y.1 + 1, 0) r := by rw [onF, if_neg (by rw [hc]; decide), hl, if_pos hg]
  rw [← hon, e]
  exact congrArg p.at (onF_fuel p _ _ _ r (by show 1 ≤ y.1 + 1; omega) (by unfold onM; show (1099511627776 - (y.1 + 1)).toNat + _ < _; omega) (by unfold onM; show (1099511627776 - (y.1 + 1)).toNat + _ < _; omega))
theorem on_mu {p : Prim} {x : Int × Int} {r : Int} (hx : 1 ≤ x.1) {y : Int × Int} (hl : lift p x r = y) (hg : goesB p y = true) : onM (y.1 + 1, 0) r < onM x r := by
  have h1 := goes_1 hg
  have h2 := lift_m p x r hx
  rw [hl] at h2
  unfold onM
  show (1099511627776 - (y.1 + 1)).toNat + _ < _
  omega
theorem goes_no1 {p : Prim} {x : Int × Int} (h : fullB p x.1 = false) : goesB p x = false := by unfold goesB; rw [h]; rfl
theorem goes_no2 {p : Prim} {x : Int × Int} (h : ¬ x.1 < 1099511627776) : goesB p x = false := by unfold goesB; rw [decide_eq_false h]; simp
theorem goes_no3 {p : Prim} {x : Int × Int} (h1 : ¬ x.2 ≥ 5) (h2 : ripeB (p.at x) = false) : goesB p x = false := by unfold goesB; rw [decide_eq_false h1, h2]; simp
theorem goes_yes1 {p : Prim} {x : Int × Int} (h : fullB p x.1 = true) (h1 : x.1 < 1099511627776) (h2 : x.2 ≥ 5) : goesB p x = true := by unfold goesB; rw [h, decide_eq_true h1, decide_eq_true h2]; rfl
theorem goes_yes2 {p : Prim} {x : Int × Int} (h : fullB p x.1 = true) (h1 : x.1 < 1099511627776) (h2 : ripeB (p.at x) = true) : goesB p x = true := by unfold goesB; rw [h, decide_eq_true h1, h2]; simp
set_option maxHeartbeats 4000000 in
theorem on_ok (p : Prim) (out : List Msg) (hv : Valid p.dag) (hn : isN p.nodes = true) (hr : 1 ≤ p.round ∧ p.round ≤ 1099511627776) : ACalls Tryz.prog 102 [.ptr 0 0] (p.st out) (fun av L => av = .tup [] ∧ L = (onP p).st out) := by
  have htop := topR_le hv
  have h1 := high_ok p.dag hv.fit.few
  refine acalls_go ttOk zOk foOk Tryz.func102 rfl Tryz.ntmps102 rfl false rfl ?_
  conv => whnf
  refine scope_go ttOk zOk foOk (σ := (Int × Int) × Int) (onSt p out) (fun k s => k = 0 ∧ (1 ≤ s.1.1 ∧ s.1.1 ≤ 1099511627776) ∧ (-1 ≤ s.2 ∧ s.2 ≤ 1099511627776) ∧ p.at (onF p (onM s.1 s.2 + 1) s.1 s.2) = onP p) (fun _ s => onM s.1 s.2) ?_ ?_
  · rintro k rest hk ⟨⟨rd, ag⟩, r⟩ ⟨rfl, hx, hrr, hon⟩
    have e := Option.some.inj (show some _ = some rest from hk)
    subst e
    clear hk
    replace hx : 1 ≤ rd ∧ rd ≤ 1099511627776 := hx
    replace hrr : -1 ≤ r ∧ r ≤ 1099511627776 := hrr
    replace hon : p.at (onF p (onM (rd, ag) r + 1) (rd, ag) r) = onP p := hon
    conv => whnf
    by_cases hc1 : r > rd
    · by_cases hc2 : r > p.dag.low
      · refine mt_dec (fun _ => ?_) (fun h => absurd hc1 h)
        conv => whnf
        refine mt_dec (fun _ => ?_) (fun h => absurd hc2 h)
        conv => whnf
        refine ACalls.mono (post := fun av L => av = .d (.bool (fullB p r)) ∧ L = []) (full_ok (p.at (rd, ag)) hv.fit hn r ⟨by omega, by omega⟩) ?_
        rintro _ _ ⟨rfl, rfl⟩
        cases hfr : fullB p r with
        | false =>
          have hcl : climb p (rd, ag) r = true := by unfold climb; rw [hfr, decide_eq_true ⟨hc1, hc2⟩]; rfl
          conv => whnf
          repeat' (first | ((with_reducible apply rd_intro); (focus (intro K hK; (conv => whnf); first | exact hK | (intro z hz; rw [wrapI (by omega)] at hz; subst hz; exact hK))); (conv => whnf)) | ((with_reducible apply gd_and); (focus ((conv => whnf) <;> first | rfl | (intro K hK; (conv => whnf); first | exact hK | (intro z hz; rw [wrapI (by omega)] at hz; subst hz; exact hK)))); (conv => whnf)) | ((with_reducible apply z_wrap); (focus omega); (conv => whnf)) | ((with_reducible first | apply mt_dec | apply mt_eq | apply mt_ne | apply mt_not | apply mt_any) <;> (intro _; conv => whnf)))
          refine into_of [0, 2] ?_
          conv => whnf
          exact ⟨((rd, ag), r - 1), rfl, rfl, ⟨rfl, hx, ⟨by show -1 ≤ r - 1; omega, by show r - 1 ≤ _; omega⟩, on_climb hon hx.1 hcl⟩, by show (1099511627776 - rd).toNat + (r - 1).toNat < (1099511627776 - rd).toNat + r.toNat; omega⟩
        | true =>
          have hcl : climb p (rd, ag) r = false := by unfold climb; rw [hfr]; simp
          have hlift : lift p (rd, ag) r = (r, 0) := if_pos ⟨hc1, hc2⟩
          have hx1 : 1 ≤ r ∧ r ≤ 1099511627776 := ⟨by omega, by omega⟩
          conv => whnf
          refine mt_dec (fun _ => ?_) (fun h => absurd hc1 h)
          conv => whnf
          refine mt_dec (fun _ => ?_) (fun h => absurd hc2 h)
          conv => whnf
          repeat' (first | ((with_reducible apply rd_intro); (focus (intro K hK; (conv => whnf); first | exact hK | (intro z hz; rw [wrapI (by omega)] at hz; subst hz; exact hK))); (conv => whnf)) | ((with_reducible apply gd_and); (focus ((conv => whnf) <;> first | rfl | (intro K hK; (conv => whnf); first | exact hK | (intro z hz; rw [wrapI (by omega)] at hz; subst hz; exact hK)))); (conv => whnf)) | ((with_reducible apply z_wrap); (focus omega); (conv => whnf)) | ((with_reducible first | apply mt_dec | apply mt_eq | apply mt_ne | apply mt_not | apply mt_any) <;> (intro _; conv => whnf)))
          ((with_reducible refine draw_pl ttOk zOk foOk mixedOk pl102x5 ?_ ?_); (focus kernel_rfl); (conv => whnf))
          repeat' (first | ((with_reducible apply rd_intro); (focus (intro K hK; (conv => whnf); first | exact hK | (intro z hz; rw [wrapI (by omega)] at hz; subst hz; exact hK))); (conv => whnf)) | ((with_reducible apply gd_and); (focus ((conv => whnf) <;> first | rfl | (intro K hK; (conv => whnf); first | exact hK | (intro z hz; rw [wrapI (by omega)] at hz; subst hz; exact hK)))); (conv => whnf)) | ((with_reducible apply z_wrap); (focus omega); (conv => whnf)) | ((with_reducible first | apply mt_dec | apply mt_eq | apply mt_ne | apply mt_not | apply mt_any) <;> (intro _; conv => whnf)))
          refine ACalls.mono (post := fun av L => av = .d (.bool (fullB p r)) ∧ L = []) (full_ok (p.at (r, 0)) hv.fit hn r ⟨by omega, by omega⟩) ?_
          rintro _ _ ⟨rfl, rfl⟩
          cases hfb : fullB p r with
          | false =>
            conv => whnf
            repeat' (first | ((with_reducible apply rd_intro); (focus (intro K hK; (conv => whnf); first | exact hK | (intro z hz; rw [wrapI (by omega)] at hz; subst hz; exact hK))); (conv => whnf)) | ((with_reducible apply gd_and); (focus ((conv => whnf) <;> first | rfl | (intro K hK; (conv => whnf); first | exact hK | (intro z hz; rw [wrapI (by omega)] at hz; subst hz; exact hK)))); (conv => whnf)) | ((with_reducible apply z_wrap); (focus omega); (conv => whnf)) | ((with_reducible first | apply mt_dec | apply mt_eq | apply mt_ne | apply mt_not | apply mt_any) <;> (intro _; conv => whnf)))
            exact ⟨rfl, by rw [on_end hon hcl hlift (goes_no1 hfb)]; rfl⟩
          | true =>
            conv => whnf
            repeat' (first | ((with_reducible apply rd_intro); (focus (intro K hK; (conv => whnf); first | exact hK | (intro z hz; rw [wrapI (by omega)] at hz; subst hz; exact hK))); (conv => whnf)) | ((with_reducible apply gd_and); (focus ((conv => whnf) <;> first | rfl | (intro K hK; (conv => whnf); first | exact hK | (intro z hz; rw [wrapI (by omega)] at hz; subst hz; exact hK)))); (conv => whnf)) | ((with_reducible apply z_wrap); (focus omega); (conv => whnf)) | ((with_reducible first | apply mt_dec | apply mt_eq | apply mt_ne | apply mt_not | apply mt_any) <;> (intro _; conv => whnf)))
            · rename_i k1
              replace k1 : r < 1099511627776 := k1
              have k2 : ¬ (0 : Int) ≥ 5 := by decide
              refine ACalls.mono (post := fun av L => av = .d (.bool (ripeB (p.at (r, 0)))) ∧ L = []) (ripe_ok (p.at (r, 0)) hv ⟨hx1.1, hx1.2⟩) ?_
              rintro _ _ ⟨rfl, rfl⟩
              cases hrb : ripeB (p.at (r, 0)) with
              | false =>
                conv => whnf
                repeat' (first | ((with_reducible apply rd_intro); (focus (intro K hK; (conv => whnf); first | exact hK | (intro z hz; rw [wrapI (by omega)] at hz; subst hz; exact hK))); (conv => whnf)) | ((with_reducible apply gd_and); (focus ((conv => whnf) <;> first | rfl | (intro K hK; (conv => whnf); first | exact hK | (intro z hz; rw [wrapI (by omega)] at hz; subst hz; exact hK)))); (conv => whnf)) | ((with_reducible apply z_wrap); (focus omega); (conv => whnf)) | ((with_reducible first | apply mt_dec | apply mt_eq | apply mt_ne | apply mt_not | apply mt_any) <;> (intro _; conv => whnf)))
                exact ⟨rfl, by rw [on_end hon hcl hlift (goes_no3 (x := (r, 0)) k2 hrb)]; rfl⟩
              | true =>
                conv => whnf
                repeat' (first | ((with_reducible apply rd_intro); (focus (intro K hK; (conv => whnf); first | exact hK | (intro z hz; rw [wrapI (by omega)] at hz; subst hz; exact hK))); (conv => whnf)) | ((with_reducible apply gd_and); (focus ((conv => whnf) <;> first | rfl | (intro K hK; (conv => whnf); first | exact hK | (intro z hz; rw [wrapI (by omega)] at hz; subst hz; exact hK)))); (conv => whnf)) | ((with_reducible apply z_wrap); (focus omega); (conv => whnf)) | ((with_reducible first | apply mt_dec | apply mt_eq | apply mt_ne | apply mt_not | apply mt_any) <;> (intro _; conv => whnf)))
                have hg := goes_yes2 (x := (r, 0)) hfb k1 hrb
                try
                  refine z_wrap (show -9223372036854775808 ≤ r + 1 ∧ r + 1 < 9223372036854775808 by omega) ?_
                  conv => whnf
                  repeat' (first | ((with_reducible apply rd_intro); (focus (intro K hK; (conv => whnf); first | exact hK | (intro z hz; rw [wrapI (by omega)] at hz; subst hz; exact hK))); (conv => whnf)) | ((with_reducible apply gd_and); (focus ((conv => whnf) <;> first | rfl | (intro K hK; (conv => whnf); first | exact hK | (intro z hz; rw [wrapI (by omega)] at hz; subst hz; exact hK)))); (conv => whnf)) | ((with_reducible apply z_wrap); (focus omega); (conv => whnf)) | ((with_reducible first | apply mt_dec | apply mt_eq | apply mt_ne | apply mt_not | apply mt_any) <;> (intro _; conv => whnf)))
                have hm := on_mu (x := (rd, ag)) hx.1 hlift hg
                refine into_of [0, 2] ?_
                conv => whnf
                exact ⟨((r + 1, 0), r), rfl, rfl, ⟨rfl, ⟨by show 1 ≤ r + 1; omega, by show r + 1 ≤ _; omega⟩, hrr, on_goes hon hx.1 hcl hlift hg⟩, hm⟩
            · rename_i k1
              replace k1 : ¬ r < 1099511627776 := k1
              exact ⟨rfl, by rw [on_end hon hcl hlift (goes_no2 (x := (r, 0)) k1)]; rfl⟩
      · have hcl : climb p (rd, ag) r = false := by unfold climb; rw [decide_eq_false (fun h => hc2 h.2)]; rfl
        have hlift : lift p (rd, ag) r = (rd, ag) := if_neg (fun h => hc2 h.2)
        have hx1 := hx
        refine mt_dec (fun _ => ?_) (fun h => absurd hc1 h)
        conv => whnf
        refine mt_dec (fun h => absurd h hc2) (fun _ => ?_)
        conv => whnf
        refine mt_dec (fun _ => ?_) (fun h => absurd hc1 h)
        conv => whnf
        refine mt_dec (fun h => absurd h hc2) (fun _ => ?_)
        conv => whnf
        ((with_reducible refine draw_pl ttOk zOk foOk mixedOk pl102x5 ?_ ?_); (focus kernel_rfl); (conv => whnf))
        repeat' (first | ((with_reducible apply rd_intro); (focus (intro K hK; (conv => whnf); first | exact hK | (intro z hz; rw [wrapI (by omega)] at hz; subst hz; exact hK))); (conv => whnf)) | ((with_reducible apply gd_and); (focus ((conv => whnf) <;> first | rfl | (intro K hK; (conv => whnf); first | exact hK | (intro z hz; rw [wrapI (by omega)] at hz; subst hz; exact hK)))); (conv => whnf)) | ((with_reducible apply z_wrap); (focus omega); (conv => whnf)) | ((with_reducible first | apply mt_dec | apply mt_eq | apply mt_ne | apply mt_not | apply mt_any) <;> (intro _; conv => whnf)))
        refine ACalls.mono (post := fun av L => av = .d (.bool (fullB p rd)) ∧ L = []) (full_ok (p.at (rd, ag)) hv.fit hn rd ⟨by omega, by omega⟩) ?_
        rintro _ _ ⟨rfl, rfl⟩
        cases hfb : fullB p rd with
        | false =>
          conv => whnf
          repeat' (first | ((with_reducible apply rd_intro); (focus (intro K hK; (conv => whnf); first | exact hK | (intro z hz; rw [wrapI (by omega)] at hz; subst hz; exact hK))); (conv => whnf)) | ((with_reducible apply gd_and); (focus ((conv => whnf) <;> first | rfl | (intro K hK; (conv => whnf); first | exact hK | (intro z hz; rw [wrapI (by omega)] at hz; subst hz; exact hK)))); (conv => whnf)) | ((with_reducible apply z_wrap); (focus omega); (conv => whnf)) | ((with_reducible first | apply mt_dec | apply mt_eq | apply mt_ne | apply mt_not | apply mt_any) <;> (intro _; conv => whnf)))
          exact ⟨rfl, by rw [on_end hon hcl hlift (goes_no1 hfb)]; rfl⟩
        | true =>
          conv => whnf
          repeat' (first | ((with_reducible apply rd_intro); (focus (intro K hK; (conv => whnf); first | exact hK | (intro z hz; rw [wrapI (by omega)] at hz; subst hz; exact hK))); (conv => whnf)) | ((with_reducible apply gd_and); (focus ((conv => whnf) <;> first | rfl | (intro K hK; (conv => whnf); first | exact hK | (intro z hz; rw [wrapI (by omega)] at hz; subst hz; exact hK)))); (conv => whnf)) | ((with_reducible apply z_wrap); (focus omega); (conv => whnf)) | ((with_reducible first | apply mt_dec | apply mt_eq | apply mt_ne | apply mt_not | apply mt_any) <;> (intro _; conv => whnf)))
          · rename_i k1 k2
            replace k1 : rd < 1099511627776 := k1
            replace k2 : ag ≥ 5 := k2
            have hg := goes_yes1 (x := (rd, ag)) hfb k1 k2
            try
              refine z_wrap (show -9223372036854775808 ≤ rd + 1 ∧ rd + 1 < 9223372036854775808 by omega) ?_
              conv => whnf
              repeat' (first | ((with_reducible apply rd_intro); (focus (intro K hK; (conv => whnf); first | exact hK | (intro z hz; rw [wrapI (by omega)] at hz; subst hz; exact hK))); (conv => whnf)) | ((with_reducible apply gd_and); (focus ((conv => whnf) <;> first | rfl | (intro K hK; (conv => whnf); first | exact hK | (intro z hz; rw [wrapI (by omega)] at hz; subst hz; exact hK)))); (conv => whnf)) | ((with_reducible apply z_wrap); (focus omega); (conv => whnf)) | ((with_reducible first | apply mt_dec | apply mt_eq | apply mt_ne | apply mt_not | apply mt_any) <;> (intro _; conv => whnf)))
            have hm := on_mu (x := (rd, ag)) hx.1 hlift hg
            refine into_of [0, 2] ?_
            conv => whnf
            exact ⟨((rd + 1, 0), r), rfl, rfl, ⟨rfl, ⟨by show 1 ≤ rd + 1; omega, by show rd + 1 ≤ _; omega⟩, hrr, on_goes hon hx.1 hcl hlift hg⟩, hm⟩
          · rename_i k1 k2
            replace k1 : rd < 1099511627776 := k1
            replace k2 : ¬ ag ≥ 5 := k2
            refine ACalls.mono (post := fun av L => av = .d (.bool (ripeB (p.at (rd, ag)))) ∧ L = []) (ripe_ok (p.at (rd, ag)) hv ⟨hx1.1, hx1.2⟩) ?_
            rintro _ _ ⟨rfl, rfl⟩
            cases hrb : ripeB (p.at (rd, ag)) with
            | false =>
              conv => whnf
              repeat' (first | ((with_reducible apply rd_intro); (focus (intro K hK; (conv => whnf); first | exact hK | (intro z hz; rw [wrapI (by omega)] at hz; subst hz; exact hK))); (conv => whnf)) | ((with_reducible apply gd_and); (focus ((conv => whnf) <;> first | rfl | (intro K hK; (conv => whnf); first | exact hK | (intro z hz; rw [wrapI (by omega)] at hz; subst hz; exact hK)))); (conv => whnf)) | ((with_reducible apply z_wrap); (focus omega); (conv => whnf)) | ((with_reducible first | apply mt_dec | apply mt_eq | apply mt_ne | apply mt_not | apply mt_any) <;> (intro _; conv => whnf)))
              exact ⟨rfl, by rw [on_end hon hcl hlift (goes_no3 (x := (rd, ag)) k2 hrb)]; rfl⟩
            | true =>
              conv => whnf
              repeat' (first | ((with_reducible apply rd_intro); (focus (intro K hK; (conv => whnf); first | exact hK | (intro z hz; rw [wrapI (by omega)] at hz; subst hz; exact hK))); (conv => whnf)) | ((with_reducible apply gd_and); (focus ((conv => whnf) <;> first | rfl | (intro K hK; (conv => whnf); first | exact hK | (intro z hz; rw [wrapI (by omega)] at hz; subst hz; exact hK)))); (conv => whnf)) | ((with_reducible apply z_wrap); (focus omega); (conv => whnf)) | ((with_reducible first | apply mt_dec | apply mt_eq | apply mt_ne | apply mt_not | apply mt_any) <;> (intro _; conv => whnf)))
              have hg := goes_yes2 (x := (rd, ag)) hfb k1 hrb
              try
                refine z_wrap (show -9223372036854775808 ≤ rd + 1 ∧ rd + 1 < 9223372036854775808 by omega) ?_
                conv => whnf
                repeat' (first | ((with_reducible apply rd_intro); (focus (intro K hK; (conv => whnf); first | exact hK | (intro z hz; rw [wrapI (by omega)] at hz; subst hz; exact hK))); (conv => whnf)) | ((with_reducible apply gd_and); (focus ((conv => whnf) <;> first | rfl | (intro K hK; (conv => whnf); first | exact hK | (intro z hz; rw [wrapI (by omega)] at hz; subst hz; exact hK)))); (conv => whnf)) | ((with_reducible apply z_wrap); (focus omega); (conv => whnf)) | ((with_reducible first | apply mt_dec | apply mt_eq | apply mt_ne | apply mt_not | apply mt_any) <;> (intro _; conv => whnf)))
              have hm := on_mu (x := (rd, ag)) hx.1 hlift hg
              refine into_of [0, 2] ?_
              conv => whnf
              exact ⟨((rd + 1, 0), r), rfl, rfl, ⟨rfl, ⟨by show 1 ≤ rd + 1; omega, by show rd + 1 ≤ _; omega⟩, hrr, on_goes hon hx.1 hcl hlift hg⟩, hm⟩
          · rename_i k1
            replace k1 : ¬ rd < 1099511627776 := k1
            exact ⟨rfl, by rw [on_end hon hcl hlift (goes_no2 (x := (rd, ag)) k1)]; rfl⟩
    · have hcl : climb p (rd, ag) r = false := by unfold climb; rw [decide_eq_false (fun h => hc1 h.1)]; rfl
      have hlift : lift p (rd, ag) r = (rd, ag) := if_neg (fun h => hc1 h.1)
      have hx1 := hx
      refine mt_dec (fun h => absurd h hc1) (fun _ => ?_)
      conv => whnf
      refine mt_dec (fun h => absurd h hc1) (fun _ => ?_)
      conv => whnf
      ((with_reducible refine draw_pl ttOk zOk foOk mixedOk pl102x5 ?_ ?_); (focus kernel_rfl); (conv => whnf))
      repeat' (first | ((with_reducible apply rd_intro); (focus (intro K hK; (conv => whnf); first | exact hK | (intro z hz; rw [wrapI (by omega)] at hz; subst hz; exact hK))); (conv => whnf)) | ((with_reducible apply gd_and); (focus ((conv => whnf) <;> first | rfl | (intro K hK; (conv => whnf); first | exact hK | (intro z hz; rw [wrapI (by omega)] at hz; subst hz; exact hK)))); (conv => whnf)) | ((with_reducible apply z_wrap); (focus omega); (conv => whnf)) | ((with_reducible first | apply mt_dec | apply mt_eq | apply mt_ne | apply mt_not | apply mt_any) <;> (intro _; conv => whnf)))
      refine ACalls.mono (post := fun av L => av = .d (.bool (fullB p rd)) ∧ L = []) (full_ok (p.at (rd, ag)) hv.fit hn rd ⟨by omega, by omega⟩) ?_
      rintro _ _ ⟨rfl, rfl⟩
      cases hfb : fullB p rd with
      | false =>
        conv => whnf
        repeat' (first | ((with_reducible apply rd_intro); (focus (intro K hK; (conv => whnf); first | exact hK | (intro z hz; rw [wrapI (by omega)] at hz; subst hz; exact hK))); (conv => whnf)) | ((with_reducible apply gd_and); (focus ((conv => whnf) <;> first | rfl | (intro K hK; (conv => whnf); first | exact hK | (intro z hz; rw [wrapI (by omega)] at hz; subst hz; exact hK)))); (conv => whnf)) | ((with_reducible apply z_wrap); (focus omega); (conv => whnf)) | ((with_reducible first | apply mt_dec | apply mt_eq | apply mt_ne | apply mt_not | apply mt_any) <;> (intro _; conv => whnf)))
        exact ⟨rfl, by rw [on_end hon hcl hlift (goes_no1 hfb)]; rfl⟩
      | true =>
        conv => whnf
        repeat' (first | ((with_reducible apply rd_intro); (focus (intro K hK; (conv => whnf); first | exact hK | (intro z hz; rw [wrapI (by omega)] at hz; subst hz; exact hK))); (conv => whnf)) | ((with_reducible apply gd_and); (focus ((conv => whnf) <;> first | rfl | (intro K hK; (conv => whnf); first | exact hK | (intro z hz; rw [wrapI (by omega)] at hz; subst hz; exact hK)))); (conv => whnf)) | ((with_reducible apply z_wrap); (focus omega); (conv => whnf)) | ((with_reducible first | apply mt_dec | apply mt_eq | apply mt_ne | apply mt_not | apply mt_any) <;> (intro _; conv => whnf)))
        · rename_i k1 k2
          replace k1 : rd < 1099511627776 := k1
          replace k2 : ag ≥ 5 := k2
          have hg := goes_yes1 (x := (rd, ag)) hfb k1 k2
          try
            refine z_wrap (show -9223372036854775808 ≤ rd + 1 ∧ rd + 1 < 9223372036854775808 by omega) ?_
            conv => whnf
            repeat' (first | ((with_reducible apply rd_intro); (focus (intro K hK; (conv => whnf); first | exact hK | (intro z hz; rw [wrapI (by omega)] at hz; subst hz; exact hK))); (conv => whnf)) | ((with_reducible apply gd_and); (focus ((conv => whnf) <;> first | rfl | (intro K hK; (conv => whnf); first | exact hK | (intro z hz; rw [wrapI (by omega)] at hz; subst hz; exact hK)))); (conv => whnf)) | ((with_reducible apply z_wrap); (focus omega); (conv => whnf)) | ((with_reducible first | apply mt_dec | apply mt_eq | apply mt_ne | apply mt_not | apply mt_any) <;> (intro _; conv => whnf)))
          have hm := on_mu (x := (rd, ag)) hx.1 hlift hg
          refine into_of [0, 2] ?_
          conv => whnf
          exact ⟨((rd + 1, 0), r), rfl, rfl, ⟨rfl, ⟨by show 1 ≤ rd + 1; omega, by show rd + 1 ≤ _; omega⟩, hrr, on_goes hon hx.1 hcl hlift hg⟩, hm⟩
        · rename_i k1 k2
          replace k1 : rd < 1099511627776 := k1
          replace k2 : ¬ ag ≥ 5 := k2
          refine ACalls.mono (post := fun av L => av = .d (.bool (ripeB (p.at (rd, ag)))) ∧ L = []) (ripe_ok (p.at (rd, ag)) hv ⟨hx1.1, hx1.2⟩) ?_
          rintro _ _ ⟨rfl, rfl⟩
          cases hrb : ripeB (p.at (rd, ag)) with
          | false =>
            conv => whnf
            repeat' (first | ((with_reducible apply rd_intro); (focus (intro K hK; (conv => whnf); first | exact hK | (intro z hz; rw [wrapI (by omega)] at hz; subst hz; exact hK))); (conv => whnf)) | ((with_reducible apply gd_and); (focus ((conv => whnf) <;> first | rfl | (intro K hK; (conv => whnf); first | exact hK | (intro z hz; rw [wrapI (by omega)] at hz; subst hz; exact hK)))); (conv => whnf)) | ((with_reducible apply z_wrap); (focus omega); (conv => whnf)) | ((with_reducible first | apply mt_dec | apply mt_eq | apply mt_ne | apply mt_not | apply mt_any) <;> (intro _; conv => whnf)))
            exact ⟨rfl, by rw [on_end hon hcl hlift (goes_no3 (x := (rd, ag)) k2 hrb)]; rfl⟩
          | true =>
            conv => whnf
            repeat' (first | ((with_reducible apply rd_intro); (focus (intro K hK; (conv => whnf); first | exact hK | (intro z hz; rw [wrapI (by omega)] at hz; subst hz; exact hK))); (conv => whnf)) | ((with_reducible apply gd_and); (focus ((conv => whnf) <;> first | rfl | (intro K hK; (conv => whnf); first | exact hK | (intro z hz; rw [wrapI (by omega)] at hz; subst hz; exact hK)))); (conv => whnf)) | ((with_reducible apply z_wrap); (focus omega); (conv => whnf)) | ((with_reducible first | apply mt_dec | apply mt_eq | apply mt_ne | apply mt_not | apply mt_any) <;> (intro _; conv => whnf)))
            have hg := goes_yes2 (x := (rd, ag)) hfb k1 hrb
            try
              refine z_wrap (show -9223372036854775808 ≤ rd + 1 ∧ rd + 1 < 9223372036854775808 by omega) ?_
              conv => whnf
              repeat' (first | ((with_reducible apply rd_intro); (focus (intro K hK; (conv => whnf); first | exact hK | (intro z hz; rw [wrapI (by omega)] at hz; subst hz; exact hK))); (conv => whnf)) | ((with_reducible apply gd_and); (focus ((conv => whnf) <;> first | rfl | (intro K hK; (conv => whnf); first | exact hK | (intro z hz; rw [wrapI (by omega)] at hz; subst hz; exact hK)))); (conv => whnf)) | ((with_reducible apply z_wrap); (focus omega); (conv => whnf)) | ((with_reducible first | apply mt_dec | apply mt_eq | apply mt_ne | apply mt_not | apply mt_any) <;> (intro _; conv => whnf)))
            have hm := on_mu (x := (rd, ag)) hx.1 hlift hg
            refine into_of [0, 2] ?_
            conv => whnf
            exact ⟨((rd + 1, 0), r), rfl, rfl, ⟨rfl, ⟨by show 1 ≤ rd + 1; omega, by show rd + 1 ≤ _; omega⟩, hrr, on_goes hon hx.1 hcl hlift hg⟩, hm⟩
        · rename_i k1
          replace k1 : ¬ rd < 1099511627776 := k1
          exact ⟨rfl, by rw [on_end hon hcl hlift (goes_no2 (x := (rd, ag)) k1)]; rfl⟩
  · intro pass
    conv => whnf
    refine ACalls.mono (post := fun av L => av = .d (.int .i64 (topR p.dag.certs)) ∧ L = []) h1 ?_
    rintro _ _ ⟨rfl, rfl⟩
    conv => whnf
    repeat' (first | ((with_reducible apply rd_intro); (focus (intro K hK; (conv => whnf); first | exact hK | (intro z hz; rw [wrapI (by omega)] at hz; subst hz; exact hK))); (conv => whnf)) | ((with_reducible apply gd_and); (focus ((conv => whnf) <;> first | rfl | (intro K hK; (conv => whnf); first | exact hK | (intro z hz; rw [wrapI (by omega)] at hz; subst hz; exact hK)))); (conv => whnf)) | ((with_reducible apply z_wrap); (focus omega); (conv => whnf)) | ((with_reducible first | apply mt_dec | apply mt_eq | apply mt_ne | apply mt_not | apply mt_any) <;> (intro _; conv => whnf)))
    refine aw_at (σ := Unit) (fun _ => onSt p out ((p.round, p.age), topR p.dag.certs)) (fun _ => True) [0, 2] ?_ ?_
    · conv => whnf
      exact ⟨(), rfl, rfl, trivial⟩
    · intro _ _
      exact pass 0 _ rfl ((p.round, p.age), topR p.dag.certs) ⟨rfl, hr, ⟨by show -1 ≤ topR _; omega, htop.2⟩, rfl⟩
end Go.Proofs.YtdlfmgcmfoehdaaGreat

namespace Go.Proofs.YtdlfmgcmfoehdaaGreat
open Go Go.Ab Go.RowKit Go.Shelf
attribute [local go_sem] Oper.semAt_some
/-! ## slices.Backward's iterator -/
/-- what it reads: the slice, and the cells of its elements -/
structure BkC (Bs : Nat) (p : Option Addr) (b off len cap : Nat) (el : Fin len → List Value) (W : World) : Prop where
  box : W.cell? ⟨Bs, 0, none⟩ = some (.slice p len cap)
  cell : ∀ (k : Fin len) (j : Nat) (v : Value), (el k)[j]? = some v → W.cell? ⟨b, off + k.val * 6 + j, none⟩ = some v
set_option maxRecDepth 100000 in
set_option maxHeartbeats 4000000 in
theorem backward1_in (F : Fence) (n : Nat) (h7 : F.fn 140) (hro : F.round = none) (hn : 1 ≤ n) (l Bs : Nat) (p : Option Addr) (b off len cap : Nat) (hp : 0 < len → p = some ⟨b, off, none⟩) (hcap : len ≤ cap) (hmax : len ≤ 1000000) (el : Fin len → List Value) (hel : ∀ k, (el k).length = 6) (Kp : World → World → Prop)
    (hK : ∀ W W', BkC Bs p b off len cap el W → Kp W W' → BkC Bs p b off len cap el W') (J Jx : List (Fin len) → World → Prop)
    (hY : ∀ pre x W, J pre W → pre.length < len → YieldAt F (n - 1) Tryz.prog l #[.int .i64 (x.val : Nat), .agg (el x).toArray] W fun e W' =>
      (e = .returned (.bool true) ∧ J (pre ++ [x]) W' ∧ Kp W W') ∨ (e = .returned (.bool false) ∧ Jx (pre ++ [x]) W'))
    (W : World) (hC : BkC Bs p b off len cap el W) (h0 : J [] W) :
    CallsIn F n Tryz.prog 140 #[.func (.yield l) #[] #[], .pointer (some ⟨Bs, 0, none⟩)] W fun e W' => (∃ v, e = .returned v) ∧
      ((∃ ys, J ys W') ∨ (∃ pre, Jx pre W')) := by
  refine callsIn_of_wp Tryz.func140 rfl h7 ?_ hro
  simp only [Tryz.ntmps140, List.size_toArray, List.length_cons, List.length_nil, Nat.reduceAdd, Nat.reduceSub, Array.replicate_succ, Array.replicate_zero, List.push_toArray, List.append_toArray, List.nil_append, List.cons_append]
  have mixed := mixedOk
  have t41 := Tryz.underlying41; have a41 := Tryz.isAgg41; have z41 := Tryz.sizeOf41
  have t26 := Tryz.underlying26; have u26 := run_underlying t26
  have hcs := hC.box
  have hw1 : IntKind.i64.wrap ((len : Int) - 1) = (len : Int) - 1 := by rw [IntKind.wrap_i64]; omega
  gi_wp2
  gi_loopw [3] (fun i wr => ∃ (k : Nat) (pre : List (Fin len)), k + pre.length = len ∧ i = .int .i64 ((k : Int) - 1) ∧ J pre wr ∧ BkC Bs p b off len cap el wr)
    (fun i _ => (intOf i + 1).toNat)
  case atStart => exact ⟨len, [], by simp, by simp [hw1], h0, hC⟩
  case round =>
    obtain ⟨k, pre, hk, rfl, hJs, hCs⟩ := hrel
    cases k with
    | zero =>
      gi_wp2
      go_end0
      exact ⟨⟨_, rfl⟩, .inl ⟨pre, hJs⟩⟩
    | succ q =>
      have hq : ((q + 1 : Nat) : Int) - 1 = (q : Int) := by omega
      rw [hq]
      have hql : q < len := by omega
      have hp := hp (by omega)
      subst hp
      have hcs2 := hCs.box
      have he := hel ⟨q, hql⟩
      obtain ⟨v0, v1, v2, v3, v4, v5, hev⟩ : ∃ v0 v1 v2 v3 v4 v5, el ⟨q, hql⟩ = [v0, v1, v2, v3, v4, v5] := by
        match hx : el ⟨q, hql⟩, he with
        | [a, b, c, d, e, f], _ => exact ⟨a, b, c, d, e, f, rfl⟩
      have c0 := hCs.cell ⟨q, hql⟩ 0 v0 (by rw [hev]; rfl)
      have c1 := hCs.cell ⟨q, hql⟩ 1 v1 (by rw [hev]; rfl)
      have c2 := hCs.cell ⟨q, hql⟩ 2 v2 (by rw [hev]; rfl)
      have c3 := hCs.cell ⟨q, hql⟩ 3 v3 (by rw [hev]; rfl)
      have c4 := hCs.cell ⟨q, hql⟩ 4 v4 (by rw [hev]; rfl)
      have c5 := hCs.cell ⟨q, hql⟩ 5 v5 (by rw [hev]; rfl)
      simp only [Nat.add_zero] at c0
      obtain ⟨fn, tmps, assign, body, hy, hR⟩ := hY pre ⟨q, hql⟩ wr hJs (by omega)
      simp only [hev] at hy
      have hg0 : (0 : Int) ≤ (q : Int) := by omega
      have hg1 : (q : Int) < (len : Int) := by omega
      have htn : ((q : Int)).toNat = q := by omega
      gi_wp2
      have hwq : IntKind.i64.wrap ((q : Int) - 1) = (q : Int) - 1 := by rw [IntKind.wrap_i64]; omega
      refine hR.mono ?_
      rintro e W3 (⟨rfl, hJ3, hk3⟩ | ⟨rfl, hJx3⟩)
      · have hC3 := hK _ _ hCs hk3
        gi_wp2
        go_roundw
        case rel => exact ⟨q, pre ++ [⟨q, hql⟩], by simp; omega, by simp [hwq], hJ3, hC3⟩
        case measure => simp [intOf, hwq]
      · gi_wp2
        refine bodyPost_ret (results_none rfl _ _ _) rfl ?_
        exact ⟨⟨_, rfl⟩, .inr ⟨_, hJx3⟩⟩
theorem backward_stops (R : RC) (Bs : Nat) (p : Option Addr) (b off len cap : Nat) (hp : 0 < len → p = some ⟨b, off, none⟩) (hcap : len ≤ cap) (hmax : len ≤ 1000000) (el : Fin len → List Value) (hel : ∀ k, (el k).length = 6) (w : World)
    (hR : ∀ x u, R.rd x u → w.cell? x = some u) (h1 : R.rd ⟨Bs, 0, none⟩ (.slice p len cap)) (h2 : ∀ (k : Fin len) (j : Nat) (v : Value), (el k)[j]? = some v → R.rd ⟨b, off + k.val * 6 + j, none⟩ v) :
    SeqStopsK Fence.wide 4 Tryz.prog 140 #[.pointer (some ⟨Bs, 0, none⟩)] (fun x : Fin len => #[.int .i64 (x.val : Nat), .agg (el x).toArray]) (KpOf R) (fun _ => True) (fun _ => True) len w := fun l J Jx W hW _ _ hY h0 => by
  have keep : ∀ (x : Addr) (u : Value), R.rd x u → W.cell? x = some u := fun x u hx => (hW.cell (p := x) (by
    have := hR x u hx
    exact cell?_lt this)).trans (hR x u hx)
  refine (backward1_in Fence.wide 4 trivial rfl (by decide) l Bs p b off len cap hp hcap hmax el hel (fun A B => KpOf R A B) (fun A B hA hK => ⟨hK _ _ h1 hA.box, fun k j v hv => hK _ _ (h2 k j v hv) (hA.cell k j v hv)⟩) J Jx hY W ⟨keep _ _ h1, fun k j v hv => keep _ _ (h2 k j v hv)⟩ h0).mono ?_
  rintro e W' ⟨he, ⟨ys, hj⟩ | ⟨pre, hj⟩⟩
  · exact ⟨he, .inl ⟨ys, trivial, hj⟩⟩
  · exact ⟨he, .inr ⟨pre, trivial, hj⟩⟩
end Go.Proofs.YtdlfmgcmfoehdaaGreat

namespace Go.Proofs.YtdlfmgcmfoehdaaGreat
open Go.Ab Go.RowKit Go.MapKept
attribute [local irreducible] ACalls AW ADraw Into fltB fnear
set_option maxRecDepth 100000
attribute [local irreducible] AWr
def takeSeq : Nat → Go.Code → List Go.Code
  | k + 1, .seq x y => x :: takeSeq k y
  | _, _ => []
def dropSeq : Nat → Go.Code → Go.Code
  | k + 1, .seq x y => dropSeq k y
  | _, c => c
theorem seqs_split : ∀ (k : Nat) (c : Go.Code), c = seqs (takeSeq k c) (dropSeq k c)
  | 0, c => by cases c <;> rfl
  | k + 1, c => by
    cases c with
    | seq x y => exact congrArg (Go.Code.seq x) (seqs_split k y)
    | _ => rfl
/-! ## a tick -/
def agedP (p : Prim) : Prim := { p with age := min (p.age + 1) 1099511627776 }
def beatP (p : Prim) : Prim := onP (agedP p)
structure BeatOk (p : Prim) : Prop where
  valid : Valid p.dag
  isn : isN p.nodes = true
  same : p.dag.nodes = p.nodes
  round : 1 ≤ p.round ∧ p.round ≤ 1099511627776
  age : 0 ≤ p.age ∧ p.age ≤ 1099511627776
  dig : p.dig = 0
theorem backward_ok (l : List Cert) : ACalls Tryz.prog 103 [.d (.sl 6 (certsD l))] [] (fun av L => av = .fn 140 [.ptr 0 0] ∧ L = [.cells [.d (.sl 6 (certsD l))]]) := by
  refine acalls_go ttOk zOk foOk Tryz.func103 rfl Tryz.ntmps103 rfl true rfl ?_
  conv => whnf
  repeat' (first | ((with_reducible apply rd_intro); (focus (intro K hK; (conv => whnf); first | exact hK | (intro z hz; rw [wrapI (by omega)] at hz; subst hz; exact hK))); (conv => whnf)) | ((with_reducible apply gd_and); (focus ((conv => whnf) <;> first | rfl | (intro K hK; (conv => whnf); first | exact hK | (intro z hz; rw [wrapI (by omega)] at hz; subst hz; exact hK)))); (conv => whnf)) | ((with_reducible apply z_wrap); (focus omega); (conv => whnf)) | ((with_reducible first | apply mt_dec | apply mt_eq | apply mt_ne | apply mt_not | apply mt_any) <;> (intro _; conv => whnf)))
  exact ⟨rfl, rfl⟩
theorem fget_pair {x y : AV} {m n : Nat} (F : AF) (h1 : fget F m = x) (h2 : fget F n = y) (s : Nat) : fget [(m, x), (n, y)] s = fget F s ∨ fget [(m, x), (n, y)] s = .d .any := by
  simp only [fget_cons, fget_nil]
  cases hb : Nat.beq m s with
  | true => left; rw [← Nat.eq_of_beq_eq_true hb, h1]; rfl
  | false =>
    cases hb2 : Nat.beq n s with
    | true => left; rw [← Nat.eq_of_beq_eq_true hb2, h2]; rfl
    | false => right; rfl
theorem fget_two {x y : AV} {m n : Nat} (s : Nat) : (s = m ∧ fget [(m, x), (n, y)] s = x) ∨ (s = n ∧ fget [(m, x), (n, y)] s = y) ∨ fget [(m, x), (n, y)] s = .d .any := by
  simp only [fget_cons, fget_nil]
  cases hb : Nat.beq m s with
  | true => left; exact ⟨(Nat.eq_of_beq_eq_true hb).symm, rfl⟩
  | false =>
    cases hb2 : Nat.beq n s with
    | true => right; left; exact ⟨(Nat.eq_of_beq_eq_true hb2).symm, rfl⟩
    | false => right; right; rfl
def zPrim : List AV := [.d (.int .i64 0), .d (.int .i64 0), .d (.int .i64 0), .d (.int .i64 0), .d (.int .i64 0), .d (.int .i64 0), .d (.int .i64 0), .d .nils, .d .nils, .d (.int .i64 0), .d .nils, .d .nils, .d (.int .i64 0), .d (.int .i64 0), .d .nils, .d .nils]
def bL (p q : Prim) : List AB := [.cells (p.cs.map AV.d), .cells zPrim, .row 49 18 [] false, .row 49 18 (msgsD []) false, .cells (q.cs.map AV.d ++ [.arr 3]), .cells [.ptr 4 0]]
def bF : AF := [(4, .ptr 5 0), (2, .ptr 1 0)]
def bX (p q : Prim) (c : Cert) (out : List Msg) (j : Bool) : List AB := if j then [.cells (p.cs.map AV.d), .cells zPrim, .row 49 18 [] false, .dead, .cells (q.cs.map AV.d ++ [.arr 7]), .cells [.ptr 4 0], .cells (c.cs.map AV.d), .row 49 18 (msgsD out) false]
  else [.cells (p.cs.map AV.d), .cells zPrim, .row 49 18 [] false, .row 49 18 (msgsD out) false, .cells (q.cs.map AV.d ++ [.arr 3]), .cells [.ptr 4 0], .cells (c.cs.map AV.d)]
set_option maxHeartbeats 4000000 in
theorem beat_ok (p : Prim) (h : BeatOk p) : ACalls Tryz.prog 63 [p.av] [] (fun av L => (∃ out, av = .tup [(beatP p).av, .d (.sl 18 (msgsD out))]) ∧ L = []) := by
  have hag := h.age
  have hon := on_ok (agedP p) [] h.valid h.isn h.round
  have hqd : (onP (agedP p)).dig = 0 := h.dig
  have hqv : Valid (onP (agedP p)).dag := h.valid
  have hqn : isN (onP (agedP p)).nodes = true := h.isn
  obtain ⟨q, hq⟩ : ∃ q, onP (agedP p) = q := ⟨_, rfl⟩
  rw [hq] at hon hqd hqv hqn
  rw [show beatP p = q from hq]
  refine acalls_marks ttOk Tryz.func63 rfl Tryz.ntmps63 rfl false rfl ?_
  intro c a hc hcn hck hs
  rw [seqs_split 6 (Go.Code.seq _ _)]
  refine seqs_ok (K := fun F L => fget F 4 = .ptr 5 0 ∧ fget F 2 = .ptr 1 0 ∧ L = bL p q) ttOk zOk foOk hc hcn hck ?_ (fun E' F' L' a' w' hr hs' => ⟨.inl rfl, E', F', L', hr, .inl hs'⟩) _ ?_ hs
  · rintro E' F' L' a' w' ⟨k1, k2, rfl⟩ hs'
    have hs0 : Sim c E' bF (bL p q) a' w' := hs'.weak (fget_pair F' k1 k2)
    show (Go.Code.seq (Go.Code.seq _ _) _).wpIn _ _ _ _ _ _
    refine wpIn_seq (wpIn_seq (wpIn_mono (wpIn_wide.2 (aw_run (AW_go ttOk zOk foOk (Q := fun e F L => e = .normal ∧ fget F 4 = .ptr 5 0 ∧ fget F 2 = .ptr 1 0 ∧ fget F 76 = .fn 140 [.ptr 6 0] ∧ L = bL p q ++ [.cells [.d (.sl 6 (certsD q.dag.certs))]]) ?h8) hc hcn hck hs0)) ?_))
    case h8 =>
      conv => whnf
      repeat' (first | ((with_reducible apply rd_intro); (focus (intro K hK; (conv => whnf); first | exact hK | (intro z hz; rw [wrapI (by omega)] at hz; subst hz; exact hK))); (conv => whnf)) | ((with_reducible apply gd_and); (focus ((conv => whnf) <;> first | rfl | (intro K hK; (conv => whnf); first | exact hK | (intro z hz; rw [wrapI (by omega)] at hz; subst hz; exact hK)))); (conv => whnf)) | ((with_reducible apply z_wrap); (focus omega); (conv => whnf)) | ((with_reducible first | apply mt_dec | apply mt_eq | apply mt_ne | apply mt_not | apply mt_any) <;> (intro _; conv => whnf)))
      refine (backward_ok q.dag.certs).mono ?_
      rintro _ _ ⟨rfl, rfl⟩
      conv => whnf
      exact ⟨rfl, rfl, rfl, rfl, rfl⟩
    rintro e a8 w8 ⟨E8, F8, L8, hs8, rfl, j1, j2, j3, rfl⟩
    have hv76 := hs8.slots 76
    rw [j3] at hv76
    simp only [VR, VRt] at hv76
    obtain ⟨us, hus, u0, r0, hus2, ⟨Bs, ⟨ab6, _, _, hE6⟩, rfl⟩, rfl⟩ := hv76
    have hus3 : us = #[.pointer (some ⟨Bs, 0, none⟩)] := by rw [← Array.toArray_toList (xs := us), hus2]
    rw [hus3] at hus
    have hL0 : c.L0.length ≤ (bL p q).length := by rw [hck]; exact Nat.zero_le _
    obtain ⟨E9, h9, hl, pp, cap, b, off, el, hrd, hcap, hpp, hel⟩ := cap_slice hc hs8.h rfl hL0 rfl hE6
    have hs9 : Sim c E9 bF (bL p q) a8 w8 := ⟨h9, fun s => by
      rcases fget_two (x := .ptr 5 0) (y := .ptr 1 0) (m := 4) (n := 2) s with ⟨rfl, e⟩ | ⟨rfl, e⟩ | e
      · show VR _ (fget [(4, .ptr 5 0), (2, .ptr 1 0)] 4) _
        rw [e]
        exact renA_ok hl (.ptr 5 0) (.ptr 5 0) rfl _ (by have := hs8.slots 4; rw [j1] at this; exact this)
      · show VR _ (fget [(4, .ptr 5 0), (2, .ptr 1 0)] 2) _
        rw [e]
        exact renA_ok hl (.ptr 1 0) (.ptr 1 0) rfl _ (by have := hs8.slots 2; rw [j2] at this; exact this)
      · show VR _ (fget [(4, .ptr 5 0), (2, .ptr 1 0)] s) _
        rw [e]
        simp only [VR, VD], hs8.nt, hs8.df⟩
    have hlen : (certsD q.dag.certs).length ≤ 1000000 := by rw [certsD_length]; have := hqv.len; omega
    have hseq := backward_stops (rcOf c.M0 E9 (bL p q) w8) Bs pp b off (certsD q.dag.certs).length cap hpp hcap hlen el (fun k => (hel k).1) w8 (fun x u hx => hx.1) hrd (fun k j v hv => (hel k).2.2 j v hv)
    obtain ⟨crt, hcrt⟩ : ∃ crt : Fin (certsD q.dag.certs).length → Cert, ∀ x : Fin (certsD q.dag.certs).length, (certsD q.dag.certs)[x] = (crt x).cs ∧ crt x ∈ q.dag.certs :=
      ⟨fun x => q.dag.certs[x.val]'(by have := x.isLt; have e := certsD_length q.dag.certs; omega), fun x => ⟨List.getElem_map .., List.getElem_mem ..⟩⟩
    refine wpIn_block (wpIn_mono (range_wp hc hs9 rfl hL0 (g := .tmp 76) (lb := #[.pointer (some ⟨Bs, 0, none⟩)]) hus (enters_of Tryz.func140 (by kernel_rfl) rfl) hseq (fun _ => rfl)
      (fun x => (78, .agg ((crt x).cs.map AV.d)) :: (77, .d (.int .i64 (x.val : Nat))) :: bF)
      (fun x => fput (fput ((78, .agg ((crt x).cs.map AV.d)) :: (77, .d (.int .i64 (x.val : Nat))) :: bF) (some 6) (.ptr 6 0)) none (.d .any))
      (fun x => bL p q ++ [.cells ((crt x).cs.map AV.d)]) ?hpar (fun x => rfl) (fun x => rfl) ?hA (fun id L => id = 0 ∧ ∃ cc out j, L = bX p q cc out j) ?hB) ?_)
    case hpar =>
      intro x R hle s
      have hsz : a8.tmps.size = 100 := hs9.nt.trans hcn
      have hfold : ((#[77, 78].zip #[Value.int .i64 (x.val : Nat), Value.agg (el x).toArray]).foldl (fun t (p, v) => t.setIfInBounds p v) a8.tmps) = (a8.tmps.setIfInBounds 77 (.int .i64 (x.val : Nat))).setIfInBounds 78 (.agg (el x).toArray) := by simp [Array.zip, Array.zipWith, Array.zipWithMAux]
      show VR R _ (Array.getD ((#[77, 78].zip #[Value.int .i64 (x.val : Nat), Value.agg (el x).toArray]).foldl (fun t (p, v) => t.setIfInBounds p v) a8.tmps) s undef)
      rw [hfold]
      by_cases h78 : s = 78
      · subst h78
        rw [show fget ((78, AV.agg ((crt x).cs.map AV.d)) :: (77, .d (.int .i64 (x.val : Nat))) :: bF) 78 = AV.agg ((crt x).cs.map AV.d) from rfl,
          show Array.getD ((a8.tmps.setIfInBounds 77 (.int .i64 (x.val : Nat))).setIfInBounds 78 (.agg (el x).toArray)) 78 undef = .agg (el x).toArray by simp [Array.getD, hsz]]
        simp only [VR]
        refine ⟨_, rfl, ?_⟩
        have := (hel x).2.1
        rw [(hcrt x).1] at this
        exact VRs_d.2 (VDs.mono hle.rd this)
      · by_cases h77 : s = 77
        · subst h77
          rw [show fget ((78, AV.agg ((crt x).cs.map AV.d)) :: (77, .d (.int .i64 (x.val : Nat))) :: bF) 77 = .d (.int .i64 (x.val : Nat)) from rfl,
            show Array.getD ((a8.tmps.setIfInBounds 77 (.int .i64 (x.val : Nat))).setIfInBounds 78 (.agg (el x).toArray)) 77 undef = .int .i64 (x.val : Nat) by simp [Array.getD, hsz]]
          simp only [VR, VD]
        · have e1 : fget ((78, AV.agg ((crt x).cs.map AV.d)) :: (77, .d (.int .i64 (x.val : Nat))) :: bF) s = fget bF s := by
            simp only [fget_cons]
            rw [show Nat.beq 78 s = false from Bool.eq_false_iff.2 fun h => h78 (Nat.eq_of_beq_eq_true h).symm, show Nat.beq 77 s = false from Bool.eq_false_iff.2 fun h => h77 (Nat.eq_of_beq_eq_true h).symm]
            rfl
          have e2 : Array.getD ((a8.tmps.setIfInBounds 77 (.int .i64 (x.val : Nat))).setIfInBounds 78 (.agg (el x).toArray)) s undef = a8.tmps.getD s undef := by
            simp only [Array.getD_eq_getD_getElem?]
            rw [Array.getElem?_setIfInBounds_ne (by omega), Array.getElem?_setIfInBounds_ne (by omega)]
          rw [e1, e2]
          exact VR.mono hle _ _ (hs9.slots s)
    case hA =>
      intro l x
      rw [hcn]
      refine awr_region ttOk zOk foOk rfl ?_
      conv => whnf
      repeat' (first | ((with_reducible apply rd_intro); (focus (intro K hK; (conv => whnf); first | exact hK | (intro z hz; rw [wrapI (by omega)] at hz; subst hz; exact hK))); (conv => whnf)) | ((with_reducible apply gd_and); (focus ((conv => whnf) <;> first | rfl | (intro K hK; (conv => whnf); first | exact hK | (intro z hz; rw [wrapI (by omega)] at hz; subst hz; exact hK)))); (conv => whnf)) | ((with_reducible apply z_wrap); (focus omega); (conv => whnf)) | ((with_reducible first | apply mt_dec | apply mt_eq | apply mt_ne | apply mt_not | apply mt_any) <;> (intro _; conv => whnf)))
      exact ⟨rfl, rfl, rfl⟩
    case hB =>
      intro l x
      rw [hcn]
      refine awr_block (awr_seqN (awr_draw ttOk zOk foOk mixedOk rfl pl63x10 (by kernel_rfl) ?_))
      conv => whnf
      repeat' (first | ((with_reducible apply rd_intro); (focus (intro K hK; (conv => whnf); first | exact hK | (intro z hz; rw [wrapI (by omega)] at hz; subst hz; exact hK))); (conv => whnf)) | ((with_reducible apply gd_and); (focus ((conv => whnf) <;> first | rfl | (intro K hK; (conv => whnf); first | exact hK | (intro z hz; rw [wrapI (by omega)] at hz; subst hz; exact hK)))); (conv => whnf)) | ((with_reducible apply z_wrap); (focus omega); (conv => whnf)) | ((with_reducible first | apply mt_dec | apply mt_eq | apply mt_ne | apply mt_not | apply mt_any) <;> (intro _; conv => whnf)))
      refine awr_cond ?_
      conv => whnf
      repeat' (first | ((with_reducible apply rd_intro); (focus (intro K hK; (conv => whnf); first | exact hK | (intro z hz; rw [wrapI (by omega)] at hz; subst hz; exact hK))); (conv => whnf)) | ((with_reducible apply gd_and); (focus ((conv => whnf) <;> first | rfl | (intro K hK; (conv => whnf); first | exact hK | (intro z hz; rw [wrapI (by omega)] at hz; subst hz; exact hK)))); (conv => whnf)) | ((with_reducible apply z_wrap); (focus omega); (conv => whnf)) | ((with_reducible first | apply mt_dec | apply mt_eq | apply mt_ne | apply mt_not | apply mt_any) <;> (intro _; conv => whnf)))
      · refine awr_seqN ?_
        refine awr_region ttOk zOk foOk rfl ?_
        conv => whnf
        repeat' (first | ((with_reducible apply rd_intro); (focus (intro K hK; (conv => whnf); first | exact hK | (intro z hz; rw [wrapI (by omega)] at hz; subst hz; exact hK))); (conv => whnf)) | ((with_reducible apply gd_and); (focus ((conv => whnf) <;> first | rfl | (intro K hK; (conv => whnf); first | exact hK | (intro z hz; rw [wrapI (by omega)] at hz; subst hz; exact hK)))); (conv => whnf)) | ((with_reducible apply z_wrap); (focus omega); (conv => whnf)) | ((with_reducible first | apply mt_dec | apply mt_eq | apply mt_ne | apply mt_not | apply mt_any) <;> (intro _; conv => whnf)))
        have hnn := of_decide_eq_true hqn
        have htl : (crt x).tiny := certTiny_of hqv.nodes (hqv.certs _ (hcrt x).2)
        have htell := tell_ok q ⟨by omega, by omega⟩ [] (by decide) (certMsg (crt x)) cz0_tiny htl [] few_nil
        refine (acalls_nw htell (.cons (.refl _) (.cons (.agg ?_) (.cons (.refl _) .nil)))).mono ?_
        · repeat (first | exact .nil | refine .cons (.refl _) ?_ | refine .cons (.nils _ (by decide)) ?_)
        · rintro _ _ ⟨rfl, j, rfl⟩
          cases j
          · conv => whnf
            repeat' (first | ((with_reducible apply rd_intro); (focus (intro K hK; (conv => whnf); first | exact hK | (intro z hz; rw [wrapI (by omega)] at hz; subst hz; exact hK))); (conv => whnf)) | ((with_reducible apply gd_and); (focus ((conv => whnf) <;> first | rfl | (intro K hK; (conv => whnf); first | exact hK | (intro z hz; rw [wrapI (by omega)] at hz; subst hz; exact hK)))); (conv => whnf)) | ((with_reducible apply z_wrap); (focus omega); (conv => whnf)) | ((with_reducible first | apply mt_dec | apply mt_eq | apply mt_ne | apply mt_not | apply mt_any) <;> (intro _; conv => whnf)))
            refine ⟨rfl, awr_exit ?_⟩
            exact .inr (.inl ⟨0, rfl, by decide, rfl, .inr ⟨0, rfl, rfl, crt x, _, false, rfl⟩⟩)
          · conv => whnf
            repeat' (first | ((with_reducible apply rd_intro); (focus (intro K hK; (conv => whnf); first | exact hK | (intro z hz; rw [wrapI (by omega)] at hz; subst hz; exact hK))); (conv => whnf)) | ((with_reducible apply gd_and); (focus ((conv => whnf) <;> first | rfl | (intro K hK; (conv => whnf); first | exact hK | (intro z hz; rw [wrapI (by omega)] at hz; subst hz; exact hK)))); (conv => whnf)) | ((with_reducible apply z_wrap); (focus omega); (conv => whnf)) | ((with_reducible first | apply mt_dec | apply mt_eq | apply mt_ne | apply mt_not | apply mt_any) <;> (intro _; conv => whnf)))
            refine ⟨rfl, awr_exit ?_⟩
            exact .inr (.inl ⟨0, rfl, by decide, rfl, .inr ⟨0, rfl, rfl, crt x, _, true, rfl⟩⟩)
      · refine awr_skip ?_
        exact .inl ⟨rfl, rfl, .inl ⟨rfl, rfl⟩⟩
    rintro e a9 w9 ⟨D, rfl, hD, hK, hcase⟩
    have hsh : ∃ E3 L3, Sim c E3 bF L3 a8 w9 ∧ plainB L3 = true ∧ (L3 = bL p q ∨ ∃ cc out j, L3 = bX p q cc out j) := by
      rcases hcase with ⟨rfl, E3, h1, _⟩ | ⟨id, rfl, E3, L3, h1, _, h2, _, h3⟩
      · exact ⟨E3, _, h1, rfl, .inl rfl⟩
      · exact ⟨E3, L3, h1, h2, .inr h3⟩
    have he : e = .normal ∨ e = .exit 0 := by
      rcases hcase with ⟨rfl, _⟩ | ⟨id, rfl, E3, L3, _, _, _, rfl, _⟩
      · exact .inl rfl
      · exact .inr rfl
    obtain ⟨E3, L3, h3, hpl3, hshape⟩ := hsh
    have hin := subC_in h3.h
    rw [hs8.df]
    rcases he with rfl | rfl
    all_goals
      show (Go.Code.seq (Go.Code.region _ _ true) Go.Code.ret).wpIn Fence.wide 5 _ _ { a8 with defers := [{ target := .collected D, args := #[] }] } w9
      refine tail_ok ttOk zOk foOk mixedOk (n := 100) rfl pl63x12 (by kernel_rfl) (K := fun F L => retK tt false 0 [ResultVar.cell 2 30, ResultVar.tmp 3] (fun av L => (∃ out, av = .tup [q.av, .d (.sl 18 (msgsD out))]) ∧ L = []) .ret F L ∧ plainB L = true) (F := bF) (L := L3) ?_ (subC_wf c E3 L3 w9) hcn ⟨hin.1, fun s => VR.mono hin.2 _ _ (h3.slots s), h3.nt, h3.df⟩ [{ target := .collected D, args := #[] }] ?_
      · rcases hshape with rfl | ⟨cc, out, j, rfl⟩
        · conv => whnf
          repeat' (first | ((with_reducible apply rd_intro); (focus (intro K hK; (conv => whnf); first | exact hK | (intro z hz; rw [wrapI (by omega)] at hz; subst hz; exact hK))); (conv => whnf)) | ((with_reducible apply gd_and); (focus ((conv => whnf) <;> first | rfl | (intro K hK; (conv => whnf); first | exact hK | (intro z hz; rw [wrapI (by omega)] at hz; subst hz; exact hK)))); (conv => whnf)) | ((with_reducible apply z_wrap); (focus omega); (conv => whnf)) | ((with_reducible first | apply mt_dec | apply mt_eq | apply mt_ne | apply mt_not | apply mt_any) <;> (intro _; conv => whnf)))
          exact ⟨⟨⟨[], rfl⟩, rfl⟩, rfl⟩
        · cases j
          · conv => whnf
            repeat' (first | ((with_reducible apply rd_intro); (focus (intro K hK; (conv => whnf); first | exact hK | (intro z hz; rw [wrapI (by omega)] at hz; subst hz; exact hK))); (conv => whnf)) | ((with_reducible apply gd_and); (focus ((conv => whnf) <;> first | rfl | (intro K hK; (conv => whnf); first | exact hK | (intro z hz; rw [wrapI (by omega)] at hz; subst hz; exact hK)))); (conv => whnf)) | ((with_reducible apply z_wrap); (focus omega); (conv => whnf)) | ((with_reducible first | apply mt_dec | apply mt_eq | apply mt_ne | apply mt_not | apply mt_any) <;> (intro _; conv => whnf)))
            exact ⟨⟨⟨out, rfl⟩, rfl⟩, rfl⟩
          · conv => whnf
            repeat' (first | ((with_reducible apply rd_intro); (focus (intro K hK; (conv => whnf); first | exact hK | (intro z hz; rw [wrapI (by omega)] at hz; subst hz; exact hK))); (conv => whnf)) | ((with_reducible apply gd_and); (focus ((conv => whnf) <;> first | rfl | (intro K hK; (conv => whnf); first | exact hK | (intro z hz; rw [wrapI (by omega)] at hz; subst hz; exact hK)))); (conv => whnf)) | ((with_reducible apply z_wrap); (focus omega); (conv => whnf)) | ((with_reducible first | apply mt_dec | apply mt_eq | apply mt_ne | apply mt_not | apply mt_any) <;> (intro _; conv => whnf)))
            exact ⟨⟨⟨out, rfl⟩, rfl⟩, rfl⟩
      · exact fun E4 F4 L4 a4 w4 hr h4 => ⟨.inl rfl, E4, F4, L4, hr.1, .inr ⟨D, rfl, (h4.h.prot D ⟨(Array.getElem?_eq_some_iff.1 hK).1, plain_apart h3.h hpl3 hK rfl⟩).trans hK, Nat.le_trans hs9.h.size hD, ⟨(subC_out hc h3.h h4.h).1, fun s => VR.mono (subC_out hc h3.h h4.h).2.2 _ _ (h4.slots s), h4.nt, rfl⟩, hr.2⟩⟩
  · conv => whnf
    repeat' (first | ((with_reducible apply rd_intro); (focus (intro K hK; (conv => whnf); first | exact hK | (intro z hz; rw [wrapI (by omega)] at hz; subst hz; exact hK))); (conv => whnf)) | ((with_reducible apply gd_and); (focus ((conv => whnf) <;> first | rfl | (intro K hK; (conv => whnf); first | exact hK | (intro z hz; rw [wrapI (by omega)] at hz; subst hz; exact hK)))); (conv => whnf)) | ((with_reducible apply z_wrap); (focus omega); (conv => whnf)) | ((with_reducible first | apply mt_dec | apply mt_eq | apply mt_ne | apply mt_not | apply mt_any) <;> (intro _; conv => whnf)))
    ((with_reducible refine draw_pl ttOk zOk foOk mixedOk pl63x2 ?_ ?_); (focus kernel_rfl); (conv => whnf))
    repeat' (first | ((with_reducible apply rd_intro); (focus (intro K hK; (conv => whnf); first | exact hK | (intro z hz; rw [wrapI (by omega)] at hz; subst hz; exact hK))); (conv => whnf)) | ((with_reducible apply gd_and); (focus ((conv => whnf) <;> first | rfl | (intro K hK; (conv => whnf); first | exact hK | (intro z hz; rw [wrapI (by omega)] at hz; subst hz; exact hK)))); (conv => whnf)) | ((with_reducible apply z_wrap); (focus omega); (conv => whnf)) | ((with_reducible first | apply mt_dec | apply mt_eq | apply mt_ne | apply mt_not | apply mt_any) <;> (intro _; conv => whnf)))
    refine ACalls.mono (post := fun av L => av = .tup [] ∧ L = q.st []) hon ?_
    rintro _ _ ⟨rfl, rfl⟩
    conv => whnf
    repeat' (first | ((with_reducible apply rd_intro); (focus (intro K hK; (conv => whnf); first | exact hK | (intro z hz; rw [wrapI (by omega)] at hz; subst hz; exact hK))); (conv => whnf)) | ((with_reducible apply gd_and); (focus ((conv => whnf) <;> first | rfl | (intro K hK; (conv => whnf); first | exact hK | (intro z hz; rw [wrapI (by omega)] at hz; subst hz; exact hK)))); (conv => whnf)) | ((with_reducible apply z_wrap); (focus omega); (conv => whnf)) | ((with_reducible first | apply mt_dec | apply mt_eq | apply mt_ne | apply mt_not | apply mt_any) <;> (intro _; conv => whnf)))
    · ((with_reducible refine draw_pl ttOk zOk foOk mixedOk pl63x5 ?_ ?_); (focus kernel_rfl); (conv => whnf))
      repeat' (first | ((with_reducible apply rd_intro); (focus (intro K hK; (conv => whnf); first | exact hK | (intro z hz; rw [wrapI (by omega)] at hz; subst hz; exact hK))); (conv => whnf)) | ((with_reducible apply gd_and); (focus ((conv => whnf) <;> first | rfl | (intro K hK; (conv => whnf); first | exact hK | (intro z hz; rw [wrapI (by omega)] at hz; subst hz; exact hK)))); (conv => whnf)) | ((with_reducible apply z_wrap); (focus omega); (conv => whnf)) | ((with_reducible first | apply mt_dec | apply mt_eq | apply mt_ne | apply mt_not | apply mt_any) <;> (intro _; conv => whnf)))
      exact ⟨⟨[], rfl⟩, rfl⟩
    · refine ⟨by decide, fun z hz => ?_⟩
      conv => whnf
      repeat' (first | ((with_reducible apply rd_intro); (focus (intro K hK; (conv => whnf); first | exact hK | (intro z hz; rw [wrapI (by omega)] at hz; subst hz; exact hK))); (conv => whnf)) | ((with_reducible apply gd_and); (focus ((conv => whnf) <;> first | rfl | (intro K hK; (conv => whnf); first | exact hK | (intro z hz; rw [wrapI (by omega)] at hz; subst hz; exact hK)))); (conv => whnf)) | ((with_reducible apply z_wrap); (focus omega); (conv => whnf)) | ((with_reducible first | apply mt_dec | apply mt_eq | apply mt_ne | apply mt_not | apply mt_any) <;> (intro _; conv => whnf)))
      · ((with_reducible refine draw_pl ttOk zOk foOk mixedOk pl63x5 ?_ ?_); (focus kernel_rfl); (conv => whnf))
        repeat' (first | ((with_reducible apply rd_intro); (focus (intro K hK; (conv => whnf); first | exact hK | (intro z hz; rw [wrapI (by omega)] at hz; subst hz; exact hK))); (conv => whnf)) | ((with_reducible apply gd_and); (focus ((conv => whnf) <;> first | rfl | (intro K hK; (conv => whnf); first | exact hK | (intro z hz; rw [wrapI (by omega)] at hz; subst hz; exact hK)))); (conv => whnf)) | ((with_reducible apply z_wrap); (focus omega); (conv => whnf)) | ((with_reducible first | apply mt_dec | apply mt_eq | apply mt_ne | apply mt_not | apply mt_any) <;> (intro _; conv => whnf)))
        exact ⟨⟨[], rfl⟩, rfl⟩
      · rename_i h0
        replace h0 : q.dig > 0 := h0
        exact absurd h0 (by omega)
      · exact ⟨rfl, rfl, rfl⟩
end Go.Proofs.YtdlfmgcmfoehdaaGreat

namespace Go.Proofs.YtdlfmgcmfoehdaaGreat
open Go.Ab Go.RowKit Go.MapKept
attribute [local irreducible] ACalls AW ADraw Into fltB fnear
set_option maxRecDepth 100000
/-! ## Tick -/
theorem tick_ok (p : Prim) (h : BareMay p) (ht : p.tiny) : ACalls Tryz.prog 21 [p.av] [] (fun av L => (∃ out, av = .tup [(beatP p).av, .d (.sl 18 (msgsD out)), .d (.int .i64 0)]) ∧ L = []) := by
  have hm := primMay_true p h
  have hown := primOwn_ok p ht
  have hbeat := beat_ok p ⟨h.dag, h.isn, h.same, h.round, h.age, h.bare.dig⟩
  refine acalls_go ttOk zOk foOk Tryz.func21 rfl Tryz.ntmps21 rfl false rfl ?_
  conv => whnf
  repeat' (first | ((with_reducible apply z_wrap); (focus omega); (conv => whnf)) | ((with_reducible first | apply mt_dec | apply mt_eq | apply mt_ne | apply mt_not | apply mt_any) <;> (intro _; conv => whnf)))
  refine ACalls.mono (post := fun av L => av = .d (.bool true) ∧ L = []) hm ?_
  rintro _ _ ⟨rfl, rfl⟩
  conv => whnf
  repeat' (first | ((with_reducible apply z_wrap); (focus omega); (conv => whnf)) | ((with_reducible first | apply mt_dec | apply mt_eq | apply mt_ne | apply mt_not | apply mt_any) <;> (intro _; conv => whnf)))
  refine ACalls.mono (post := fun av L => av = p.av ∧ L = []) hown ?_
  rintro _ _ ⟨rfl, rfl⟩
  conv => whnf
  repeat' (first | ((with_reducible apply z_wrap); (focus omega); (conv => whnf)) | ((with_reducible first | apply mt_dec | apply mt_eq | apply mt_ne | apply mt_not | apply mt_any) <;> (intro _; conv => whnf)))
  refine hbeat.mono ?_
  rintro _ _ ⟨⟨out, rfl⟩, rfl⟩
  conv => whnf
  repeat' (first | ((with_reducible apply z_wrap); (focus omega); (conv => whnf)) | ((with_reducible first | apply mt_dec | apply mt_eq | apply mt_ne | apply mt_not | apply mt_any) <;> (intro _; conv => whnf)))
  exact ⟨⟨out, rfl⟩, rfl⟩
end Go.Proofs.YtdlfmgcmfoehdaaGreat

namespace Go.Proofs.YtdlfmgcmfoehdaaGreat
open Go.Ab Go.RowKit Go.MapKept
attribute [local irreducible] ACalls AW ADraw Into fltB fnear
set_option maxRecDepth 100000
/-! ## the header that it proposes -/
theorem contains_lend (b : List Int) (hb : few b) (x : Int) (sh : Bool) : ACalls Tryz.prog 80 [.arr 0, .d (.int .i64 x)] [.row 3 1 (nums b) sh] (fun av L => av = .d (.bool (decide (x ∈ b))) ∧ L = [.row 3 1 (nums b) sh]) :=
  acalls_lend (flat_bool _) ⟨_, _, rfl, .inl (.inr (.inl ⟨0, _, _, _, _, rfl, rfl, rfl⟩)), _, _, rfl, .inl (.inl ⟨_, rfl, rfl⟩), rfl⟩ (contains_ok b hb x)
def zHdr : AB := .cells [.d (.int .i64 0), .d (.int .i64 0), .d .nils, .d .nils]
def hL (p : Prim) (bs ps : List Int) : List AB := [.cells (p.cs.map AV.d), zHdr, .cells [.d (.int .i64 p.id), .d (.int .i64 p.round), .arr 3, .arr 4], .row 3 1 (nums bs) false, .row 3 1 (nums ps) false]
set_option maxHeartbeats 4000000 in
theorem head_row (p : Prim) (hf : p.dag.fit) (hr : 1 ≤ p.round ∧ p.round ≤ 1099511627776) (hdl : p.dag.certs.length ≤ 100000) (l : List Int) (hl : few l) :
    ACalls Tryz.prog 60 [p.av, .d (.sl 1 (nums l))] [] (fun av L => av = .agg [.d (.int .i64 p.id), .d (.int .i64 p.round), .arr 0, .arr 1] ∧ L = [.row 3 1 (nums (sortI (batsF l))) false, .row 3 1 (nums (sortI (parsF p))) false]) := by
  have hll := nums_length l
  have hl' := hl
  unfold few at hl'
  have hof := dagOf_ok p.dag hf (p.round - 1) ⟨by omega, by omega⟩
  have hol : (ofR p.dag.certs (p.round - 1)).length ≤ 100000 := Nat.le_trans (List.length_filter_le ..) hdl
  obtain ⟨ol, hoe⟩ : ∃ ol, ofR p.dag.certs (p.round - 1) = ol := ⟨_, rfl⟩
  have hpe : parsF p = ol.map (·.digest) := by unfold parsF; rw [hoe]
  rw [hoe] at hof hol
  have hcl := certsD_length ol
  refine acalls_go ttOk zOk foOk Tryz.func60 rfl Tryz.ntmps60 rfl true rfl ?_
  conv => whnf
  repeat' (first | ((with_reducible apply z_wrap); (focus omega); (conv => whnf)) | ((with_reducible first | apply mt_dec | apply mt_eq | apply mt_ne | apply mt_not | apply mt_any) <;> (intro _; conv => whnf)))
  refine aw_nilrowC [(2, 2, 3, 1), (2, 3, 3, 1)] rfl ?_
  refine loop_go ttOk zOk foOk (σ := Nat) (fun j => ([(2, .ptr 0 0), (4, .ptr 1 0), (5, .ptr 2 0), (15, .d (.sl 1 (nums l))), (16, .d (.int .i64 l.length)), (17, .d (.int .i64 j))], hL p (batsF (l.take j)) [])) (fun j => j ≤ l.length) (fun j => l.length - j) [2, 4, 5, 15, 16, 17] ?_ ?_
  · conv => whnf
    exact ⟨0, by rw [hll]; rfl, rfl, Nat.zero_le _⟩
  · intro j hj
    have hbl := batsF_len (l.take j)
    obtain ⟨bs, hbs⟩ : ∃ bs, batsF (l.take j) = bs := ⟨_, rfl⟩
    rw [hbs] at hbl ⊢
    have hnb := nums_length bs
    conv => whnf
    repeat' (first | ((with_reducible apply z_wrap); (focus omega); (conv => whnf)) | ((with_reducible first | apply mt_dec | apply mt_eq | apply mt_ne | apply mt_not | apply mt_any) <;> (intro _; conv => whnf)))
    · rename_i h
      replace h : (j : Int) < l.length := h
      refine Exists.elim (⟨_, List.getElem?_eq_getElem (by omega)⟩ : ∃ c, l[j]? = some c) fun d hd => ?_
      have hsn : batsF (l.take (j + 1)) = if bs.length < 8 ∧ d ∉ bs then bs ++ [d] else bs := by rw [take_snoc hd, batsF_snoc, hbs]
      refine ⟨by omega, [.int .i64 d], nums_at hd, ?_⟩
      conv => whnf
      repeat' (first | ((with_reducible apply z_wrap); (focus omega); (conv => whnf)) | ((with_reducible first | apply mt_dec | apply mt_eq | apply mt_ne | apply mt_not | apply mt_any) <;> (intro _; conv => whnf)))
      · rename_i h8
        replace h8 : (((nums bs).length : Nat) : Int) < 8 := h8
        (refine Or.inr ?_; (conv => whnf))
        refine (contains_lend bs (by unfold few; omega) d false).mono ?_
        rintro _ _ ⟨rfl, rfl⟩
        by_cases hm : d ∈ bs
        · rw [decide_eq_true hm]
          rw [if_neg (fun h => h.2 hm)] at hsn
          conv => whnf
          repeat' (first | ((with_reducible apply z_wrap); (focus omega); (conv => whnf)) | ((with_reducible first | apply mt_dec | apply mt_eq | apply mt_ne | apply mt_not | apply mt_any) <;> (intro _; conv => whnf)))
          exact ⟨j + 1, rfl, by rw [hsn]; rfl, by omega, by omega⟩
        · rw [decide_eq_false hm]
          rw [if_pos ⟨by omega, hm⟩] at hsn
          conv => whnf
          repeat' (first | ((with_reducible apply z_wrap); (focus omega); (conv => whnf)) | ((with_reducible first | apply mt_dec | apply mt_eq | apply mt_ne | apply mt_not | apply mt_any) <;> (intro _; conv => whnf)))
          refine ⟨by show ((nums bs).length + 1) * 8 ≤ _; omega, ?_⟩
          conv => whnf
          repeat' (first | ((with_reducible apply z_wrap); (focus omega); (conv => whnf)) | ((with_reducible first | apply mt_dec | apply mt_eq | apply mt_ne | apply mt_not | apply mt_any) <;> (intro _; conv => whnf)))
          refine ⟨j + 1, rfl, ?_, by omega, by omega⟩
          rw [hsn, hL, ← nums_apps]
          rfl
      · rename_i h8
        replace h8 : ¬ (((nums bs).length : Nat) : Int) < 8 := h8
        rw [if_neg (fun h => h8 (by omega))] at hsn
        exact ⟨j + 1, rfl, by rw [hsn]; rfl, by omega, by omega⟩
    · rename_i h
      replace h : ¬ (j : Int) < l.length := h
      rw [List.take_of_length_le (by omega)] at hbs
      subst hbs
      (refine Or.inr ?_; (conv => whnf))
      refine (sortI_ok (batsF l) (by omega)).mono ?_
      rintro _ _ ⟨rfl, rfl⟩
      conv => whnf
      repeat' (first | ((with_reducible apply z_wrap); (focus omega); (conv => whnf)) | ((with_reducible first | apply mt_dec | apply mt_eq | apply mt_ne | apply mt_not | apply mt_any) <;> (intro _; conv => whnf)))
      refine ACalls.mono (post := fun av L => av = .d (.sl 6 (certsD ol)) ∧ L = []) hof ?_
      rintro _ _ ⟨rfl, rfl⟩
      conv => whnf
      repeat' (first | ((with_reducible apply z_wrap); (focus omega); (conv => whnf)) | ((with_reducible first | apply mt_dec | apply mt_eq | apply mt_ne | apply mt_not | apply mt_any) <;> (intro _; conv => whnf)))
      refine loop_go ttOk zOk foOk (σ := Nat) (fun j => ([(2, .ptr 0 0), (4, .ptr 1 0), (5, .ptr 2 0), (47, .d (.sl 6 (certsD ol))), (48, .d (.int .i64 ol.length)), (49, .d (.int .i64 j))], hL p (sortI (batsF l)) ((ol.take j).map (·.digest)))) (fun j => j ≤ ol.length) (fun j => ol.length - j) [2, 4, 5, 47, 48, 49] ?_ ?_
      · conv => whnf
        exact ⟨0, by rw [hcl]; rfl, rfl, Nat.zero_le _⟩
      · intro i hi
        conv => whnf
        repeat' (first | ((with_reducible apply z_wrap); (focus omega); (conv => whnf)) | ((with_reducible first | apply mt_dec | apply mt_eq | apply mt_ne | apply mt_not | apply mt_any) <;> (intro _; conv => whnf)))
        · rename_i e
          replace e : (i : Int) < ol.length := e
          refine Exists.elim (⟨_, List.getElem?_eq_getElem (by omega)⟩ : ∃ c, ol[i]? = some c) fun c hc => ?_
          have hnl : (nums ((ol.take i).map (·.digest))).length ≤ 100000 := by rw [nums_length]; simp; omega
          refine ⟨by omega, c.cs, certsD_at hc, ?_⟩
          conv => whnf
          repeat' (first | ((with_reducible apply z_wrap); (focus omega); (conv => whnf)) | ((with_reducible first | apply mt_dec | apply mt_eq | apply mt_ne | apply mt_not | apply mt_any) <;> (intro _; conv => whnf)))
          refine ⟨by show ((nums ((ol.take i).map (·.digest))).length + 1) * 8 ≤ _; omega, ?_⟩
          conv => whnf
          repeat' (first | ((with_reducible apply z_wrap); (focus omega); (conv => whnf)) | ((with_reducible first | apply mt_dec | apply mt_eq | apply mt_ne | apply mt_not | apply mt_any) <;> (intro _; conv => whnf)))
          refine ⟨i + 1, rfl, ?_, by omega, by omega⟩
          rw [take_snoc hc, hL, List.map_append, ← nums_apps]
          rfl
        · rename_i e
          replace e : ¬ (i : Int) < ol.length := e
          rw [List.take_of_length_le (by omega), ← hpe]
          have hpl : (parsF p).length < 4611686018427387904 := by rw [hpe, List.length_map]; omega
          (refine Or.inr ?_; (conv => whnf))
          refine (sortI_ok (parsF p) hpl).mono ?_
          rintro _ _ ⟨rfl, rfl⟩
          conv => whnf
          repeat' (first | ((with_reducible apply z_wrap); (focus omega); (conv => whnf)) | ((with_reducible first | apply mt_dec | apply mt_eq | apply mt_ne | apply mt_not | apply mt_any) <;> (intro _; conv => whnf)))
          exact ⟨rfl, rfl⟩
theorem headP_ok (p : Prim) (hf : p.dag.fit) (hr : 1 ≤ p.round ∧ p.round ≤ 1099511627776) (hdl : p.dag.certs.length ≤ 100000) (l : List Int) (hl : few l) :
    ACalls Tryz.prog 60 [p.av, .d (.sl 1 (nums l))] [] (fun av L => av = (headC p l).hav ∧ L = []) := by
  refine acalls_data (head_row p hf hr hdl l hl) ?_
  rintro _ _ ⟨rfl, rfl⟩
  conv => whnf
  exact ⟨rfl, rfl⟩
end Go.Proofs.YtdlfmgcmfoehdaaGreat

namespace Go.Proofs.YtdlfmgcmfoehdaaGreat
open Go Go.Ab Go.RowKit Go.Lib Go.Proofs Go.Shelf
/-! ## slices.Insert at drover/api.Vote, in plain cells -/
set_option maxRecDepth 100000
end Go.Proofs.YtdlfmgcmfoehdaaGreat

namespace Go.Proofs.YtdlfmgcmfoehdaaGreat
open Go.Ab Go.RowKit Go.MapKept
attribute [local irreducible] ACalls AW ADraw Into fltB fnear
set_option maxRecDepth 100000
/-! ## votes: the first one -/
def Vote.av (v : Vote) : AV := .agg (v.cs.map AV.d)
theorem voteOf_ok (v : Vote) : ACalls Tryz.prog 111 [v.av] [] (fun av L => av = .d (plb v.round v.author) ∧ L = []) := by
  refine acalls_go ttOk zOk foOk Tryz.func111 rfl Tryz.ntmps111 rfl false rfl ?_
  conv => whnf
  repeat' (first | ((with_reducible apply rd_intro); (focus (intro K hK; (conv => whnf); first | exact hK | (intro z hz; rw [wrapI (by omega)] at hz; subst hz; exact hK))); (conv => whnf)) | ((with_reducible apply gd_and); (focus ((conv => whnf) <;> first | rfl | (intro K hK; (conv => whnf); first | exact hK | (intro z hz; rw [wrapI (by omega)] at hz; subst hz; exact hK)))); (conv => whnf)) | ((with_reducible apply z_wrap); (focus omega); (conv => whnf)) | ((with_reducible first | apply mt_dec | apply mt_eq | apply mt_ne | apply mt_not | apply mt_any) <;> (intro _; conv => whnf)))
  refine (placeOf_ok v.round v.author).mono ?_
  rintro _ _ ⟨rfl, rfl⟩
  conv => whnf
  exact ⟨rfl, rfl⟩
theorem bsearchV_nil (p : DV) : ACalls Tryz.prog 178 [.d (.sl 3 []), .d p, .fn 179 []] [] (fun av L => av = .tup [.d (.int .i64 0), .d (.bool false)] ∧ L = []) := by
  refine acalls_go ttOk zOk foOk Tryz.func178 rfl Tryz.ntmps178 rfl false rfl ?_
  conv => whnf
  refine loop_go ttOk zOk foOk (σ := Unit) (fun _ => ([(0, .d (.sl 3 [])), (8, .d (.int .i64 0)), (9, .d (.int .i64 0)), (10, .d (.int .i64 0))], [])) (fun _ => True) (fun _ => 0) [0, 8, 9, 10] ?_ ?_
  · conv => whnf
    exact ⟨(), rfl, rfl, trivial⟩
  · rintro _ -
    conv => whnf
    repeat' (first | ((with_reducible apply rd_intro); (focus (intro K hK; (conv => whnf); first | exact hK | (intro z hz; rw [wrapI (by omega)] at hz; subst hz; exact hK))); (conv => whnf)) | ((with_reducible apply gd_and); (focus ((conv => whnf) <;> first | rfl | (intro K hK; (conv => whnf); first | exact hK | (intro z hz; rw [wrapI (by omega)] at hz; subst hz; exact hK)))); (conv => whnf)) | ((with_reducible apply z_wrap); (focus omega); (conv => whnf)) | ((with_reducible first | apply mt_dec | apply mt_eq | apply mt_ne | apply mt_not | apply mt_any) <;> (intro _; conv => whnf)))
    exact ⟨rfl, rfl⟩
theorem findV_nil (r a : Int) : ACalls Tryz.prog 136 [.d (.sl 3 []), .d (plb r a)] [] (fun av L => av = .tup [.d (.int .i64 0), .d (.bool false)] ∧ L = []) := by
  have h := bsearchV_nil (plb r a)
  refine acalls_go ttOk zOk foOk Tryz.func136 rfl Tryz.ntmps136 rfl false rfl ?_
  conv => whnf
  refine h.mono ?_
  rintro _ _ ⟨rfl, rfl⟩
  conv => whnf
  exact ⟨rfl, rfl⟩
theorem insertV_nil (v : Vote) : ACalls Tryz.prog 137 [.arr 0, .d (.int .i64 0), .d (.sl 3 (votesD [v]))] [.row 65 3 [] false] (fun av L => av = .d (.sl 3 (votesD [v])) ∧ L = [.dead]) := by
  refine acalls_go ttOk zOk foOk Tryz.func137 rfl Tryz.ntmps137 rfl false rfl ?_
  conv => whnf
  repeat' (first | ((with_reducible apply rd_intro); (focus (intro K hK; (conv => whnf); first | exact hK | (intro z hz; rw [wrapI (by omega)] at hz; subst hz; exact hK))); (conv => whnf)) | ((with_reducible apply gd_and); (focus ((conv => whnf) <;> first | rfl | (intro K hK; (conv => whnf); first | exact hK | (intro z hz; rw [wrapI (by omega)] at hz; subst hz; exact hK)))); (conv => whnf)) | ((with_reducible apply z_wrap); (focus omega); (conv => whnf)) | ((with_reducible first | apply mt_dec | apply mt_eq | apply mt_ne | apply mt_not | apply mt_any) <;> (intro _; conv => whnf)))
  refine Or.inl ?_
  conv => whnf
  refine ⟨by decide, by decide, by decide, ?_⟩
  conv => whnf
  repeat' (first | ((with_reducible apply rd_intro); (focus (intro K hK; (conv => whnf); first | exact hK | (intro z hz; rw [wrapI (by omega)] at hz; subst hz; exact hK))); (conv => whnf)) | ((with_reducible apply gd_and); (focus ((conv => whnf) <;> first | rfl | (intro K hK; (conv => whnf); first | exact hK | (intro z hz; rw [wrapI (by omega)] at hz; subst hz; exact hK)))); (conv => whnf)) | ((with_reducible apply z_wrap); (focus omega); (conv => whnf)) | ((with_reducible first | apply mt_dec | apply mt_eq | apply mt_ne | apply mt_not | apply mt_any) <;> (intro _; conv => whnf)))
  refine ⟨by show (0 + 1) * 24 ≤ 140737488355328; decide, ?_⟩
  conv => whnf
  repeat' (first | ((with_reducible apply rd_intro); (focus (intro K hK; (conv => whnf); first | exact hK | (intro z hz; rw [wrapI (by omega)] at hz; subst hz; exact hK))); (conv => whnf)) | ((with_reducible apply gd_and); (focus ((conv => whnf) <;> first | rfl | (intro K hK; (conv => whnf); first | exact hK | (intro z hz; rw [wrapI (by omega)] at hz; subst hz; exact hK)))); (conv => whnf)) | ((with_reducible apply z_wrap); (focus omega); (conv => whnf)) | ((with_reducible first | apply mt_dec | apply mt_eq | apply mt_ne | apply mt_not | apply mt_any) <;> (intro _; conv => whnf)))
  exact ⟨rfl, rfl⟩
theorem votePut_nil (v : Vote) : ACalls Tryz.prog 99 [.d (.sl 3 []), v.av] [] (fun av L => av = .tup [.d (.sl 3 (votesD [v])), .d (.int .i64 0)] ∧ L = []) := by
  have h1 := voteOf_ok v
  have h2 := findV_nil v.round v.author
  have h3 := cloneV_row [] (by simp)
  have h4 := insertV_nil v
  refine acalls_go ttOk zOk foOk Tryz.func99 rfl Tryz.ntmps99 rfl false rfl ?_
  conv => whnf
  repeat' (first | ((with_reducible apply rd_intro); (focus (intro K hK; (conv => whnf); first | exact hK | (intro z hz; rw [wrapI (by omega)] at hz; subst hz; exact hK))); (conv => whnf)) | ((with_reducible apply gd_and); (focus ((conv => whnf) <;> first | rfl | (intro K hK; (conv => whnf); first | exact hK | (intro z hz; rw [wrapI (by omega)] at hz; subst hz; exact hK)))); (conv => whnf)) | ((with_reducible apply z_wrap); (focus omega); (conv => whnf)) | ((with_reducible first | apply mt_dec | apply mt_eq | apply mt_ne | apply mt_not | apply mt_any) <;> (intro _; conv => whnf)))
  refine ACalls.mono (post := fun av L => av = .d (plb v.round v.author) ∧ L = []) h1 ?_
  rintro _ _ ⟨rfl, rfl⟩
  conv => whnf
  repeat' (first | ((with_reducible apply rd_intro); (focus (intro K hK; (conv => whnf); first | exact hK | (intro z hz; rw [wrapI (by omega)] at hz; subst hz; exact hK))); (conv => whnf)) | ((with_reducible apply gd_and); (focus ((conv => whnf) <;> first | rfl | (intro K hK; (conv => whnf); first | exact hK | (intro z hz; rw [wrapI (by omega)] at hz; subst hz; exact hK)))); (conv => whnf)) | ((with_reducible apply z_wrap); (focus omega); (conv => whnf)) | ((with_reducible first | apply mt_dec | apply mt_eq | apply mt_ne | apply mt_not | apply mt_any) <;> (intro _; conv => whnf)))
  refine h2.mono ?_
  rintro _ _ ⟨rfl, rfl⟩
  conv => whnf
  repeat' (first | ((with_reducible apply rd_intro); (focus (intro K hK; (conv => whnf); first | exact hK | (intro z hz; rw [wrapI (by omega)] at hz; subst hz; exact hK))); (conv => whnf)) | ((with_reducible apply gd_and); (focus ((conv => whnf) <;> first | rfl | (intro K hK; (conv => whnf); first | exact hK | (intro z hz; rw [wrapI (by omega)] at hz; subst hz; exact hK)))); (conv => whnf)) | ((with_reducible apply z_wrap); (focus omega); (conv => whnf)) | ((with_reducible first | apply mt_dec | apply mt_eq | apply mt_ne | apply mt_not | apply mt_any) <;> (intro _; conv => whnf)))
  ((with_reducible refine draw_pl ttOk zOk foOk mixedOk pl99x2 ?_ ?_); (focus kernel_rfl); (conv => whnf))
  repeat' (first | ((with_reducible apply rd_intro); (focus (intro K hK; (conv => whnf); first | exact hK | (intro z hz; rw [wrapI (by omega)] at hz; subst hz; exact hK))); (conv => whnf)) | ((with_reducible apply gd_and); (focus ((conv => whnf) <;> first | rfl | (intro K hK; (conv => whnf); first | exact hK | (intro z hz; rw [wrapI (by omega)] at hz; subst hz; exact hK)))); (conv => whnf)) | ((with_reducible apply z_wrap); (focus omega); (conv => whnf)) | ((with_reducible first | apply mt_dec | apply mt_eq | apply mt_ne | apply mt_not | apply mt_any) <;> (intro _; conv => whnf)))
  ((with_reducible refine draw_pl ttOk zOk foOk mixedOk pl99x8 ?_ ?_); (focus kernel_rfl); (conv => whnf))
  repeat' (first | ((with_reducible apply rd_intro); (focus (intro K hK; (conv => whnf); first | exact hK | (intro z hz; rw [wrapI (by omega)] at hz; subst hz; exact hK))); (conv => whnf)) | ((with_reducible apply gd_and); (focus ((conv => whnf) <;> first | rfl | (intro K hK; (conv => whnf); first | exact hK | (intro z hz; rw [wrapI (by omega)] at hz; subst hz; exact hK)))); (conv => whnf)) | ((with_reducible apply z_wrap); (focus omega); (conv => whnf)) | ((with_reducible first | apply mt_dec | apply mt_eq | apply mt_ne | apply mt_not | apply mt_any) <;> (intro _; conv => whnf)))
  refine h3.mono ?_
  rintro _ _ ⟨rfl, rfl⟩
  conv => whnf
  repeat' (first | ((with_reducible apply rd_intro); (focus (intro K hK; (conv => whnf); first | exact hK | (intro z hz; rw [wrapI (by omega)] at hz; subst hz; exact hK))); (conv => whnf)) | ((with_reducible apply gd_and); (focus ((conv => whnf) <;> first | rfl | (intro K hK; (conv => whnf); first | exact hK | (intro z hz; rw [wrapI (by omega)] at hz; subst hz; exact hK)))); (conv => whnf)) | ((with_reducible apply z_wrap); (focus omega); (conv => whnf)) | ((with_reducible first | apply mt_dec | apply mt_eq | apply mt_ne | apply mt_not | apply mt_any) <;> (intro _; conv => whnf)))
  (refine Or.inr ?_; (conv => whnf))
  refine h4.mono ?_
  rintro _ _ ⟨rfl, rfl⟩
  conv => whnf
  repeat' (first | ((with_reducible apply rd_intro); (focus (intro K hK; (conv => whnf); first | exact hK | (intro z hz; rw [wrapI (by omega)] at hz; subst hz; exact hK))); (conv => whnf)) | ((with_reducible apply gd_and); (focus ((conv => whnf) <;> first | rfl | (intro K hK; (conv => whnf); first | exact hK | (intro z hz; rw [wrapI (by omega)] at hz; subst hz; exact hK)))); (conv => whnf)) | ((with_reducible apply z_wrap); (focus omega); (conv => whnf)) | ((with_reducible first | apply mt_dec | apply mt_eq | apply mt_ne | apply mt_not | apply mt_any) <;> (intro _; conv => whnf)))
  exact ⟨rfl, rfl⟩
end Go.Proofs.YtdlfmgcmfoehdaaGreat

namespace Go.Proofs.YtdlfmgcmfoehdaaGreat
open Go.Ab Go.RowKit Go.MapKept
attribute [local irreducible] ACalls AW ADraw Into fltB fnear
set_option maxRecDepth 100000
/-! ## a lone primary -/
def lone : Prim := newP 1 1
def loneH : Cert := ⟨1, 1, [], [], 0, []⟩
theorem lone_bare : BareMay lone := new_bare (by decide) (by decide)
theorem lone_fit : lone.dag.fit := by
  exact ⟨by show (0 : Nat) ≤ _; decide, List.Pairwise.nil, fun c h => (by cases h), fun c h => (by cases h)⟩
theorem lone_head : headC lone [] = loneH := by
  simp only [headC, parsF, lone, newP, loneH, ofR, batsF, List.foldl, List.filter, List.map, sortI]
  simp
theorem make1 : ACalls Tryz.prog 19 [lone.av, .d (.sl 1 [])] [] (fun av L => av = .tup [loneH.hav, .d (.int .i64 0)] ∧ L = []) := by
  have h1 := primMay_true lone lone_bare
  have h2 := containsMk_ok [] few_nil
  have h3 := ready_ok lone lone_fit (by decide) (by decide)
  have h4 := headP_ok lone lone_fit (by decide) (by decide) [] few_nil
  rw [lone_head] at h4
  refine acalls_go ttOk zOk foOk Tryz.func19 rfl Tryz.ntmps19 rfl false rfl ?_
  conv => whnf
  repeat' (first | ((with_reducible apply z_wrap); (focus omega); (conv => whnf)) | ((with_reducible first | apply mt_dec | apply mt_eq | apply mt_ne | apply mt_not | apply mt_any) <;> (intro _; conv => whnf)))
  refine ACalls.mono (post := fun av L => av = .d (.bool true) ∧ L = []) h1 ?_
  rintro _ _ ⟨rfl, rfl⟩
  conv => whnf
  repeat' (first | ((with_reducible apply z_wrap); (focus omega); (conv => whnf)) | ((with_reducible first | apply mt_dec | apply mt_eq | apply mt_ne | apply mt_not | apply mt_any) <;> (intro _; conv => whnf)))
  refine ACalls.mono (post := fun av L => av = .d (.bool false) ∧ L = []) h2 ?_
  rintro _ _ ⟨rfl, rfl⟩
  conv => whnf
  repeat' (first | ((with_reducible apply z_wrap); (focus omega); (conv => whnf)) | ((with_reducible first | apply mt_dec | apply mt_eq | apply mt_ne | apply mt_not | apply mt_any) <;> (intro _; conv => whnf)))
  refine ACalls.mono (post := fun av L => av = .d (.bool true) ∧ L = []) h3 ?_
  rintro _ _ ⟨rfl, rfl⟩
  conv => whnf
  repeat' (first | ((with_reducible apply z_wrap); (focus omega); (conv => whnf)) | ((with_reducible first | apply mt_dec | apply mt_eq | apply mt_ne | apply mt_not | apply mt_any) <;> (intro _; conv => whnf)))
  refine ACalls.mono (post := fun av L => av = loneH.hav ∧ L = []) h4 ?_
  rintro _ _ ⟨rfl, rfl⟩
  conv => whnf
  repeat' (first | ((with_reducible apply z_wrap); (focus omega); (conv => whnf)) | ((with_reducible first | apply mt_dec | apply mt_eq | apply mt_ne | apply mt_not | apply mt_any) <;> (intro _; conv => whnf)))
  exact ⟨rfl, rfl⟩
end Go.Proofs.YtdlfmgcmfoehdaaGreat
