/- PrimaryTicks: contracts. -/
import Derived.Test.YtolkmjfkkkiboaaGreatPrimaryTicksCodI
set_option linter.unusedVariables false
set_option linter.unusedSimpArgs false
namespace Go.Proofs.YtolkmjfkkkiboaaGreat
open Go.Ab Go.RowKit Go.MapKept
attribute [local irreducible] ACalls AW ADraw Into fltB fnear
set_option maxRecDepth 100000
end Go.Proofs.YtolkmjfkkkiboaaGreat
namespace Go.Proofs.YtolkmjfkkkiboaaGreat
open Go Go.Ab Go.RowKit Go.Shelf
attribute [local go_sem] Oper.semAt_some
structure BkC (Bs : Nat) (p : Option Addr) (b off len cap : Nat) (el : Fin len → List Value) (W : World) : Prop where
  box : W.cell? ⟨Bs, 0, none⟩ = some (.slice p len cap)
  cell : ∀ (k : Fin len) (j : Nat) (v : Value), (el k)[j]? = some v → W.cell? ⟨b, off + k.val * 6 + j, none⟩ = some v
def descL {len : Nat} (pre : List (Fin len)) : Prop := pre.map (·.val) = (List.range pre.length).map fun i => len - 1 - i
theorem descL_nil {len : Nat} : descL ([] : List (Fin len)) := rfl
theorem descL_snoc {len : Nat} {pre : List (Fin len)} {x : Fin len} (h : descL pre) (hx : x.val = len - 1 - pre.length) : descL (pre ++ [x]) := by
  unfold descL at h ⊢
  rw [List.map_append, h, List.length_append, List.length_singleton, List.range_succ, List.map_append]
  simp [hx]
set_option maxRecDepth 100000 in
set_option maxHeartbeats 4000000 in
theorem backward1_in2 (F : Fence) (n : Nat) (h7 : F.fn 186) (hro : F.round = none) (hn : 1 ≤ n) (l Bs : Nat) (p : Option Addr) (b off len cap : Nat) (hp : 0 < len → p = some ⟨b, off, none⟩) (hcap : len ≤ cap) (hmax : len ≤ 1000000) (el : Fin len → List Value) (hel : ∀ k, (el k).length = 6) (Kp : World → World → Prop)
    (hK : ∀ W W', BkC Bs p b off len cap el W → Kp W W' → BkC Bs p b off len cap el W') (J Jx : List (Fin len) → World → Prop)
    (hY : ∀ pre x W, J pre W → pre.length < len → YieldAt F (n - 1) Tryz.prog l #[.int .i64 (x.val : Nat), .agg (el x).toArray] W fun e W' =>
      (e = .returned (.bool true) ∧ J (pre ++ [x]) W' ∧ Kp W W') ∨ (e = .returned (.bool false) ∧ Jx (pre ++ [x]) W'))
    (W : World) (hC : BkC Bs p b off len cap el W) (h0 : J [] W) :
    CallsIn F n Tryz.prog 186 #[.func (.yield l) #[] #[], .pointer (some ⟨Bs, 0, none⟩)] W fun e W' => (∃ v, e = .returned v) ∧
      ((∃ ys, (descL ys ∧ ys.length = len) ∧ J ys W') ∨ (∃ pre, descL pre ∧ Jx pre W')) := by
  refine callsIn_of_wp Tryz.func186 rfl h7 ?_ hro
  simp only [Tryz.ntmps186, List.size_toArray, List.length_cons, List.length_nil, Nat.reduceAdd, Nat.reduceSub, Array.replicate_succ, Array.replicate_zero, List.push_toArray, List.append_toArray, List.nil_append, List.cons_append]
  have mixed := mixedOk
  have t41 := Tryz.underlying47; have a41 := Tryz.isAgg47; have z41 := Tryz.sizeOf47
  have t26 := Tryz.underlying26; have u26 := run_underlying t26
  have hcs := hC.box
  have hw1 : IntKind.i64.wrap ((len : Int) - 1) = (len : Int) - 1 := by rw [IntKind.wrap_i64]; omega
  gi_wp2
  gi_loopw [3] (fun i wr => ∃ (k : Nat) (pre : List (Fin len)), k + pre.length = len ∧ i = .int .i64 ((k : Int) - 1) ∧ descL pre ∧ J pre wr ∧ BkC Bs p b off len cap el wr)
    (fun i _ => (intOf i + 1).toNat)
  case atStart => exact ⟨len, [], by simp, by simp [hw1], descL_nil, h0, hC⟩
  case round =>
    obtain ⟨k, pre, hk, rfl, hds, hJs, hCs⟩ := hrel
    cases k with
    | zero =>
      gi_wp2
      go_end0
      exact ⟨⟨_, rfl⟩, .inl ⟨pre, ⟨hds, by omega⟩, hJs⟩⟩
    | succ q =>
      have hq : ((q + 1 : Nat) : Int) - 1 = (q : Int) := by omega
      rw [hq]
      have hql : q < len := by omega
      have hds2 : descL (pre ++ [(⟨q, hql⟩ : Fin len)]) := descL_snoc hds (by show q = _; omega)
      have hp := hp (by omega)
      subst hp
      have hcs2 := hCs.box
      have he := hel ⟨q, hql⟩
      obtain ⟨v0, v1, v2, v3, v4, v5, hev⟩ : ∃ v0 v1 v2 v3 v4 v5, el ⟨q, hql⟩ = [v0, v1, v2, v3, v4, v5] := by
        match hx : el ⟨q, hql⟩, he with
        | [a, b, c, d, e, f], _ => exact ⟨a, b, c, d, e, f, rfl⟩
      have c0 := hCs.cell ⟨q, hql⟩ 0 v0 (by rw [hev]; rfl)
      have c1 := hCs.cell ⟨q, hql⟩ 1 v1 (by rw [hev]; rfl)
      have c2 := hCs.cell ⟨q, hql⟩ 2 v2 (by rw [hev]; rfl)
      have c3 := hCs.cell ⟨q, hql⟩ 3 v3 (by rw [hev]; rfl)
      have c4 := hCs.cell ⟨q, hql⟩ 4 v4 (by rw [hev]; rfl)
      have c5 := hCs.cell ⟨q, hql⟩ 5 v5 (by rw [hev]; rfl)
      simp only [Nat.add_zero] at c0
      obtain ⟨fn, tmps, assign, body, hy, hR⟩ := hY pre ⟨q, hql⟩ wr hJs (by omega)
      simp only [hev] at hy
      have hg0 : (0 : Int) ≤ (q : Int) := by omega
      have hg1 : (q : Int) < (len : Int) := by omega
      have htn : ((q : Int)).toNat = q := by omega
      gi_wp2
      have hwq : IntKind.i64.wrap ((q : Int) - 1) = (q : Int) - 1 := by rw [IntKind.wrap_i64]; omega
      refine hR.mono ?_
      rintro e W3 (⟨rfl, hJ3, hk3⟩ | ⟨rfl, hJx3⟩)
      · have hC3 := hK _ _ hCs hk3
        gi_wp2
        go_roundw
        case rel => exact ⟨q, pre ++ [⟨q, hql⟩], by simp; omega, by simp [hwq], hds2, hJ3, hC3⟩
        case measure => simp [intOf, hwq]
      · gi_wp2
        refine bodyPost_ret (results_none rfl _ _ _) rfl ?_
        exact ⟨⟨_, rfl⟩, .inr ⟨_, hds2, hJx3⟩⟩
theorem backward_stops2 (R : RC) (Bs : Nat) (p : Option Addr) (b off len cap : Nat) (hp : 0 < len → p = some ⟨b, off, none⟩) (hcap : len ≤ cap) (hmax : len ≤ 1000000) (el : Fin len → List Value) (hel : ∀ k, (el k).length = 6) (w : World)
    (hR : ∀ x u, x.spot = none → R.rd x u → w.cell? x = some u) (h1 : R.rd ⟨Bs, 0, none⟩ (.slice p len cap)) (h2 : ∀ (k : Fin len) (j : Nat) (v : Value), (el k)[j]? = some v → R.rd ⟨b, off + k.val * 6 + j, none⟩ v) :
    SeqStopsK Fence.wide 4 Tryz.prog 186 #[.pointer (some ⟨Bs, 0, none⟩)] (fun x : Fin len => #[.int .i64 (x.val : Nat), .agg (el x).toArray]) (KpOf R) (fun ys => descL ys ∧ ys.length = len) descL len w := fun l J Jx W hW _ _ hY h0 => by
  have keep : ∀ (x : Addr) (u : Value), x.spot = none → R.rd x u → W.cell? x = some u := fun x u hsx hx => (hW.cell (p := x) (by
    have := hR x u hsx hx
    exact cell?_lt this)).trans (hR x u hsx hx)
  refine (backward1_in2 Fence.wide 4 trivial rfl (by decide) l Bs p b off len cap hp hcap hmax el hel (fun A B => KpOf R A B) (fun A B hA hK => ⟨hK _ _ h1 hA.box, fun k j v hv => hK _ _ (h2 k j v hv) (hA.cell k j v hv)⟩) J Jx hY W ⟨keep _ _ rfl h1, fun k j v hv => keep _ _ rfl (h2 k j v hv)⟩ h0).mono ?_
  rintro e W' ⟨he, ⟨ys, hd, hj⟩ | ⟨pre, hd, hj⟩⟩
  · exact ⟨he, .inl ⟨ys, hd, hj⟩⟩
  · exact ⟨he, .inr ⟨pre, hd, hj⟩⟩
end Go.Proofs.YtolkmjfkkkiboaaGreat
namespace Go.Proofs.YtolkmjfkkkiboaaGreat
open Go.Ab Go.RowKit Go.MapKept
attribute [local irreducible] ACalls AW ADraw Into fltB fnear
set_option maxRecDepth 100000
theorem fewC_of {d : Dag} (h : Valid d) : fewC d := fun c hc => (certFew_of h.nodes (h.certs c hc)).pars
def ripeB (p : Prim) : Bool := if p.round % 2 = 0 then decide (anchorI p.dag p.round > 0) else (decide (p.round = 1) || (decide (anchorI p.dag (p.round - 1) = 0) || settled p.dag (p.round - 1)))
theorem ripe_ok (p : Prim) (hv : Valid p.dag) (hr : 1 ≤ p.round ∧ p.round ≤ 1099511627776) : ACalls Tryz.prog 185 [p.av] [] (fun av L => av = .d (.bool (ripeB p)) ∧ L = []) := by
  have hnn := of_decide_eq_true hv.nodes
  have hn : 0 < p.dag.nodes ∧ p.dag.nodes ≤ 16 := ⟨by omega, by omega⟩
  have hw := hv.fit
  have hfc := fewC_of hv
  unfold ripeB
  by_cases h2 : p.round % 2 = 0
  · have h1 := anchorOf_ok p.dag hw hn p.round ⟨by omega, by omega⟩
    rw [if_pos h2]
    refine acalls_go ttOk zOk foOk Tryz.func185 rfl Tryz.ntmps185 rfl false rfl ?_
    conv => whnf
    refine ⟨by decide, fun z hz => ?_⟩
    replace hz := tmod_pos (by omega) hz
    subst hz
    conv => whnf
    refine rdw ?_; repeat' ((with_reducible apply tw) <;> intro _)
    · refine ACalls.mono (post := fun av L => av = .d (.int .i64 (anchorI p.dag p.round)) ∧ L = []) h1 ?_
      rintro _ _ ⟨rfl, rfl⟩
      conv => whnf
      refine rdw ?_; repeat' ((with_reducible apply tw) <;> intro _)
      exact ⟨rfl, rfl⟩
    all_goals exact absurd h2 (by assumption)
  · rw [if_neg h2]
    refine acalls_go ttOk zOk foOk Tryz.func185 rfl Tryz.ntmps185 rfl false rfl ?_
    conv => whnf
    refine ⟨by decide, fun z hz => ?_⟩
    replace hz := tmod_pos (by omega) hz
    subst hz
    conv => whnf
    refine rdw ?_; repeat' ((with_reducible apply tw) <;> intro _)
    · rename_i h
      exact absurd h h2
    · rename_i _ h1
      replace h1 : p.round = 1 := h1
      exact ⟨congrArg (fun b => AV.d (.bool b)) (by rw [decide_eq_true h1]; rfl), rfl⟩
    · rename_i _ h1
      replace h1 : p.round ≠ 1 := h1
      refine ACalls.mono (post := fun av L => av = .d (.int .i64 (anchorI p.dag (p.round - 1))) ∧ L = []) (anchorOf_ok p.dag hw hn (p.round - 1) ⟨by omega, by omega⟩) ?_
      rintro _ _ ⟨rfl, rfl⟩
      conv => whnf
      refine rdw ?_; repeat' ((with_reducible apply tw) <;> intro _)
      · rename_i h3
        exact ⟨congrArg (fun b => AV.d (.bool b)) (by rw [decide_eq_false h1, decide_eq_true h3]; rfl), rfl⟩
      · rename_i h3
        refine ACalls.mono (post := fun av L => av = .d (.bool (settled p.dag (p.round - 1))) ∧ L = []) (settled_ok p.dag hw hn hfc (p.round - 1) ⟨by omega, by omega⟩) ?_
        rintro _ _ ⟨rfl, rfl⟩
        conv => whnf
        exact ⟨congrArg (fun b => AV.d (.bool b)) (by rw [decide_eq_false h1, decide_eq_false h3]; rfl), rfl⟩
def Prim.at (p : Prim) (x : Int × Int) : Prim := { p with round := x.1, age := x.2 }
def climb (p : Prim) (x : Int × Int) (r : Int) : Bool := decide (r > x.1 ∧ r > p.dag.low) && !fullB p r
def lift (p : Prim) (x : Int × Int) (r : Int) : Int × Int := if r > x.1 ∧ r > p.dag.low then (r, 0) else x
def goesB (p : Prim) (x : Int × Int) : Bool := fullB p x.1 && (decide (x.1 < 1099511627776) && (decide (x.2 ≥ 5) || ripeB (p.at x)))
def onF (p : Prim) : Nat → Int × Int → Int → Int × Int
  | 0, x, _ => x
  | n + 1, x, r => if climb p x r = true then onF p n x (r - 1) else if goesB p (lift p x r) = true then onF p n ((lift p x r).1 + 1, 0) r else lift p x r
def onM (x : Int × Int) (r : Int) : Nat := (1099511627776 - x.1).toNat + r.toNat
theorem lift_m (p : Prim) (x : Int × Int) (r : Int) (hx : 1 ≤ x.1) : x.1 ≤ (lift p x r).1 := by
  unfold lift
  split
  · show x.1 ≤ r
    omega
  · exact Int.le_refl _
theorem climb_1 {p : Prim} {x : Int × Int} {r : Int} (h : climb p x r = true) : r > x.1 := by
  unfold climb at h
  simp at h
  exact h.1.1
theorem goes_1 {p : Prim} {x : Int × Int} (h : goesB p x = true) : x.1 < 1099511627776 := by
  unfold goesB at h
  simp at h
  exact h.2.1
theorem onF_fuel (p : Prim) : ∀ (m n : Nat) (x : Int × Int) (r : Int), 1 ≤ x.1 → onM x r < m → onM x r < n → onF p m x r = onF p n x r
  | 0, n, x, r, _, h1, h2 => by omega
  | m + 1, 0, x, r, _, h1, h2 => by omega
  | m + 1, n + 1, x, r, hx, h1, h2 => by
    unfold onF
    have hl := lift_m p x r hx
    unfold onM at h1 h2
    by_cases hc : climb p x r = true
    · rw [if_pos hc, if_pos hc]
      have := climb_1 hc
      exact onF_fuel p m n x (r - 1) hx (by unfold onM; omega) (by unfold onM; omega)
    · rw [if_neg hc, if_neg hc]
      by_cases hg : goesB p (lift p x r) = true
      · rw [if_pos hg, if_pos hg]
        have := goes_1 hg
        exact onF_fuel p m n _ r (by show 1 ≤ (lift p x r).1 + 1; omega) (by unfold onM; show (1099511627776 - ((lift p x r).1 + 1)).toNat + _ < _; omega) (by unfold onM; show (1099511627776 - ((lift p x r).1 + 1)).toNat + _ < _; omega)
      · rw [if_neg hg, if_neg hg]
def onP (p : Prim) : Prim := p.at (onF p (onM (p.round, p.age) (topR p.dag.certs) + 1) (p.round, p.age) (topR p.dag.certs))
def onSt (p : Prim) (out : List Msg) (x : (Int × Int) × Int) : AF × List AB := ([(0, .ptr 0 0), (2, .d (.int .i64 x.2))], (p.at x.1).st out)
theorem topR_le {d : Dag} (h : Valid d) : 0 ≤ topR d.certs ∧ topR d.certs ≤ 1099511627776 := by
  unfold topR
  cases hl : d.certs.getLast? with
  | none => exact ⟨by decide, by decide⟩
  | some c =>
    have := (h.certs c (List.mem_of_getLast? hl)).head.round
    show 0 ≤ c.round ∧ c.round ≤ _
    omega
theorem on_end {p : Prim} {x : Int × Int} {r : Int} (hon : p.at (onF p (onM x r + 1) x r) = onP p) (hc : climb p x r = false) {y : Int × Int} (hl : lift p x r = y) (hg : goesB p y = false) : onP p = p.at y := by
  rw [← hon, onF, if_neg (by rw [hc]; decide), hl, if_neg (by rw [hg]; decide)]
theorem on_climb {p : Prim} {x : Int × Int} {r : Int} (hon : p.at (onF p (onM x r + 1) x r) = onP p) (hx : 1 ≤ x.1) (hc : climb p x r = true) : p.at (onF p (onM x (r - 1) + 1) x (r - 1)) = onP p := by
  have := climb_1 hc
  have e : onF p (onM x r + 1) x r = onF p (onM x r) x (r - 1) := by rw [onF, if_pos hc]
  rw [← hon, e]
  exact congrArg p.at (onF_fuel p _ _ x (r - 1) hx (by unfold onM; omega) (by unfold onM; omega))
theorem on_goes {p : Prim} {x : Int × Int} {r : Int} (hon : p.at (onF p (onM x r + 1) x r) = onP p) (hx : 1 ≤ x.1) (hc : climb p x r = false) {y : Int × Int} (hl : lift p x r = y) (hg : goesB p y = true) : p.at (onF p (onM (y.1 + 1, 0) r + 1) (y.1 + 1, 0) r) = onP p := by
  have h1 := goes_1 hg
  have h2 := lift_m p x r hx
  rw [hl] at h2
  have e : onF p (onM x r + 1) x r = onF p (onM x r) (y.1 + 1, 0) r := by rw [onF, if_neg (by rw [hc]; decide), hl, if_pos hg]
  rw [← hon, e]
  exact congrArg p.at (onF_fuel p _ _ _ r (by show 1 ≤ y.1 + 1; omega) (by unfold onM; show (1099511627776 - (y.1 + 1)).toNat + _ < _; omega) (by unfold onM; show (1099511627776 - (y.1 + 1)).toNat + _ < _; omega))
theorem on_mu {p : Prim} {x : Int × Int} {r : Int} (hx : 1 ≤ x.1) {y : Int × Int} (hl : lift p x r = y) (hg : goesB p y = true) : onM (y.1 + 1, 0) r < onM x r := by
  have h1 := goes_1 hg
  have h2 := lift_m p x r hx
  rw [hl] at h2
  unfold onM
  show (1099511627776 - (y.1 + 1)).toNat + _ < _
  omega
theorem goes_no1 {p : Prim} {x : Int × Int} (h : fullB p x.1 = false) : goesB p x = false := by unfold goesB; rw [h]; rfl
theorem goes_no2 {p : Prim} {x : Int × Int} (h : ¬ x.1 < 1099511627776) : goesB p x = false := by unfold goesB; rw [decide_eq_false h]; simp
theorem goes_no3 {p : Prim} {x : Int × Int} (h1 : ¬ x.2 ≥ 5) (h2 : ripeB (p.at x) = false) : goesB p x = false := by unfold goesB; rw [decide_eq_false h1, h2]; simp
theorem goes_yes1 {p : Prim} {x : Int × Int} (h : fullB p x.1 = true) (h1 : x.1 < 1099511627776) (h2 : x.2 ≥ 5) : goesB p x = true := by unfold goesB; rw [h, decide_eq_true h1, decide_eq_true h2]; rfl
theorem goes_yes2 {p : Prim} {x : Int × Int} (h : fullB p x.1 = true) (h1 : x.1 < 1099511627776) (h2 : ripeB (p.at x) = true) : goesB p x = true := by unfold goesB; rw [h, decide_eq_true h1, h2]; simp
set_option maxHeartbeats 4000000 in
theorem on_ok (p : Prim) (out : List Msg) (hv : Valid p.dag) (hn : isN p.nodes = true) (hr : 1 ≤ p.round ∧ p.round ≤ 1099511627776) : ACalls Tryz.prog 151 [.ptr 0 0] (p.st out) (fun av L => av = .tup [] ∧ L = (onP p).st out) := by
  have htop := topR_le hv
  have h1 := high_ok p.dag hv.fit.few
  (refine acalls_go ttOk zOk foOk Tryz.func151 rfl Tryz.ntmps151 rfl false rfl ?_); (conv => whnf)
  refine scope_go ttOk zOk foOk (σ := (Int × Int) × Int) (onSt p out) (fun k s => k = 0 ∧ (1 ≤ s.1.1 ∧ s.1.1 ≤ 1099511627776) ∧ (-1 ≤ s.2 ∧ s.2 ≤ 1099511627776) ∧ p.at (onF p (onM s.1 s.2 + 1) s.1 s.2) = onP p) (fun _ s => onM s.1 s.2) ?_ ?_
  · rintro k rest hk ⟨⟨rd, ag⟩, r⟩ ⟨rfl, hx, hrr, hon⟩
    have e := Option.some.inj (show some _ = some rest from hk)
    subst e
    clear hk
    replace hx : 1 ≤ rd ∧ rd ≤ 1099511627776 := hx
    replace hrr : -1 ≤ r ∧ r ≤ 1099511627776 := hrr
    replace hon : p.at (onF p (onM (rd, ag) r + 1) (rd, ag) r) = onP p := hon
    conv => whnf
    by_cases hc1 : r > rd
    · by_cases hc2 : r > p.dag.low
      · refine mt_dec (fun _ => ?_) (fun h => absurd hc1 h)
        conv => whnf
        refine mt_dec (fun _ => ?_) (fun h => absurd hc2 h)
        conv => whnf
        refine ACalls.mono (post := fun av L => av = .d (.bool (fullB p r)) ∧ L = []) (full_ok (p.at (rd, ag)) hv.fit hn r ⟨by omega, by omega⟩) ?_
        rintro _ _ ⟨rfl, rfl⟩
        cases hfr : fullB p r with
        | false =>
          have hcl : climb p (rd, ag) r = true := by unfold climb; rw [hfr, decide_eq_true ⟨hc1, hc2⟩]; rfl
          conv => whnf
          refine rdw ?_; repeat' ((with_reducible apply tw) <;> intro _)
          refine into_of [0, 2] ?_
          conv => whnf
          exact ⟨((rd, ag), r - 1), rfl, rfl, ⟨rfl, hx, ⟨by show -1 ≤ r - 1; omega, by show r - 1 ≤ _; omega⟩, on_climb hon hx.1 hcl⟩, by show (1099511627776 - rd).toNat + (r - 1).toNat < (1099511627776 - rd).toNat + r.toNat; omega⟩
        | true =>
          have hcl : climb p (rd, ag) r = false := by unfold climb; rw [hfr]; simp
          have hlift : lift p (rd, ag) r = (r, 0) := if_pos ⟨hc1, hc2⟩
          have hx1 : 1 ≤ r ∧ r ≤ 1099511627776 := ⟨by omega, by omega⟩
          conv => whnf
          refine mt_dec (fun _ => ?_) (fun h => absurd hc1 h)
          conv => whnf
          refine mt_dec (fun _ => ?_) (fun h => absurd hc2 h)
          conv => whnf
          refine rdw ?_; repeat' ((with_reducible apply tw) <;> intro _)
          ((with_reducible refine draw_pl ttOk zOk foOk mixedOk pl151x5 ?_ ?_); (focus kernel_rfl); (conv => whnf))
          refine rdw ?_; repeat' ((with_reducible apply tw) <;> intro _)
          refine ACalls.mono (post := fun av L => av = .d (.bool (fullB p r)) ∧ L = []) (full_ok (p.at (r, 0)) hv.fit hn r ⟨by omega, by omega⟩) ?_
          rintro _ _ ⟨rfl, rfl⟩
          cases hfb : fullB p r with
          | false =>
            conv => whnf
            refine rdw ?_; repeat' ((with_reducible apply tw) <;> intro _)
            exact ⟨rfl, by rw [on_end hon hcl hlift (goes_no1 hfb)]; rfl⟩
          | true =>
            conv => whnf
            refine rdw ?_; repeat' ((with_reducible apply tw) <;> intro _)
            · rename_i k1
              replace k1 : r < 1099511627776 := k1
              have k2 : ¬ (0 : Int) ≥ 5 := by decide
              refine ACalls.mono (post := fun av L => av = .d (.bool (ripeB (p.at (r, 0)))) ∧ L = []) (ripe_ok (p.at (r, 0)) hv ⟨hx1.1, hx1.2⟩) ?_
              rintro _ _ ⟨rfl, rfl⟩
              cases hrb : ripeB (p.at (r, 0)) with
              | false =>
                conv => whnf
                refine rdw ?_; repeat' ((with_reducible apply tw) <;> intro _)
                exact ⟨rfl, by rw [on_end hon hcl hlift (goes_no3 (x := (r, 0)) k2 hrb)]; rfl⟩
              | true =>
                conv => whnf
                refine rdw ?_; repeat' ((with_reducible apply tw) <;> intro _)
                have hg := goes_yes2 (x := (r, 0)) hfb k1 hrb
                try
                  refine z_wrap (show -9223372036854775808 ≤ r + 1 ∧ r + 1 < 9223372036854775808 by omega) ?_
                  conv => whnf
                  refine rdw ?_; repeat' ((with_reducible apply tw) <;> intro _)
                have hm := on_mu (x := (rd, ag)) hx.1 hlift hg
                refine into_of [0, 2] ?_
                conv => whnf
                exact ⟨((r + 1, 0), r), rfl, rfl, ⟨rfl, ⟨by show 1 ≤ r + 1; omega, by show r + 1 ≤ _; omega⟩, hrr, on_goes hon hx.1 hcl hlift hg⟩, hm⟩
            · rename_i k1
              replace k1 : ¬ r < 1099511627776 := k1
              exact ⟨rfl, by rw [on_end hon hcl hlift (goes_no2 (x := (r, 0)) k1)]; rfl⟩
      · have hcl : climb p (rd, ag) r = false := by unfold climb; rw [decide_eq_false (fun h => hc2 h.2)]; rfl
        have hlift : lift p (rd, ag) r = (rd, ag) := if_neg (fun h => hc2 h.2)
        have hx1 := hx
        refine mt_dec (fun _ => ?_) (fun h => absurd hc1 h)
        conv => whnf
        refine mt_dec (fun h => absurd h hc2) (fun _ => ?_)
        conv => whnf
        refine mt_dec (fun _ => ?_) (fun h => absurd hc1 h)
        conv => whnf
        refine mt_dec (fun h => absurd h hc2) (fun _ => ?_)
        conv => whnf
        ((with_reducible refine draw_pl ttOk zOk foOk mixedOk pl151x5 ?_ ?_); (focus kernel_rfl); (conv => whnf))
        refine rdw ?_; repeat' ((with_reducible apply tw) <;> intro _)
        refine ACalls.mono (post := fun av L => av = .d (.bool (fullB p rd)) ∧ L = []) (full_ok (p.at (rd, ag)) hv.fit hn rd ⟨by omega, by omega⟩) ?_
        rintro _ _ ⟨rfl, rfl⟩
        cases hfb : fullB p rd with
        | false =>
          conv => whnf
          refine rdw ?_; repeat' ((with_reducible apply tw) <;> intro _)
          exact ⟨rfl, by rw [on_end hon hcl hlift (goes_no1 hfb)]; rfl⟩
        | true =>
          conv => whnf
          refine rdw ?_; repeat' ((with_reducible apply tw) <;> intro _)
          · rename_i k1 k2
            replace k1 : rd < 1099511627776 := k1
            replace k2 : ag ≥ 5 := k2
            have hg := goes_yes1 (x := (rd, ag)) hfb k1 k2
            try
              refine z_wrap (show -9223372036854775808 ≤ rd + 1 ∧ rd + 1 < 9223372036854775808 by omega) ?_
              conv => whnf
              refine rdw ?_; repeat' ((with_reducible apply tw) <;> intro _)
            have hm := on_mu (x := (rd, ag)) hx.1 hlift hg
            refine into_of [0, 2] ?_
            conv => whnf
            exact ⟨((rd + 1, 0), r), rfl, rfl, ⟨rfl, ⟨by show 1 ≤ rd + 1; omega, by show rd + 1 ≤ _; omega⟩, hrr, on_goes hon hx.1 hcl hlift hg⟩, hm⟩
          · rename_i k1 k2
            replace k1 : rd < 1099511627776 := k1
            replace k2 : ¬ ag ≥ 5 := k2
            refine ACalls.mono (post := fun av L => av = .d (.bool (ripeB (p.at (rd, ag)))) ∧ L = []) (ripe_ok (p.at (rd, ag)) hv ⟨hx1.1, hx1.2⟩) ?_
            rintro _ _ ⟨rfl, rfl⟩
            cases hrb : ripeB (p.at (rd, ag)) with
            | false =>
              conv => whnf
              refine rdw ?_; repeat' ((with_reducible apply tw) <;> intro _)
              exact ⟨rfl, by rw [on_end hon hcl hlift (goes_no3 (x := (rd, ag)) k2 hrb)]; rfl⟩
            | true =>
              conv => whnf
              refine rdw ?_; repeat' ((with_reducible apply tw) <;> intro _)
              have hg := goes_yes2 (x := (rd, ag)) hfb k1 hrb
              try
                refine z_wrap (show -9223372036854775808 ≤ rd + 1 ∧ rd + 1 < 9223372036854775808 by omega) ?_
                conv => whnf
                refine rdw ?_; repeat' ((with_reducible apply tw) <;> intro _)
              have hm := on_mu (x := (rd, ag)) hx.1 hlift hg
              refine into_of [0, 2] ?_
              conv => whnf
              exact ⟨((rd + 1, 0), r), rfl, rfl, ⟨rfl, ⟨by show 1 ≤ rd + 1; omega, by show rd + 1 ≤ _; omega⟩, hrr, on_goes hon hx.1 hcl hlift hg⟩, hm⟩
          · rename_i k1
            replace k1 : ¬ rd < 1099511627776 := k1
            exact ⟨rfl, by rw [on_end hon hcl hlift (goes_no2 (x := (rd, ag)) k1)]; rfl⟩
    · have hcl : climb p (rd, ag) r = false := by unfold climb; rw [decide_eq_false (fun h => hc1 h.1)]; rfl
      have hlift : lift p (rd, ag) r = (rd, ag) := if_neg (fun h => hc1 h.1)
      have hx1 := hx
      refine mt_dec (fun h => absurd h hc1) (fun _ => ?_)
      conv => whnf
      refine mt_dec (fun h => absurd h hc1) (fun _ => ?_)
      conv => whnf
      ((with_reducible refine draw_pl ttOk zOk foOk mixedOk pl151x5 ?_ ?_); (focus kernel_rfl); (conv => whnf))
      refine rdw ?_; repeat' ((with_reducible apply tw) <;> intro _)
      refine ACalls.mono (post := fun av L => av = .d (.bool (fullB p rd)) ∧ L = []) (full_ok (p.at (rd, ag)) hv.fit hn rd ⟨by omega, by omega⟩) ?_
      rintro _ _ ⟨rfl, rfl⟩
      cases hfb : fullB p rd with
      | false =>
        conv => whnf
        refine rdw ?_; repeat' ((with_reducible apply tw) <;> intro _)
        exact ⟨rfl, by rw [on_end hon hcl hlift (goes_no1 hfb)]; rfl⟩
      | true =>
        conv => whnf
        refine rdw ?_; repeat' ((with_reducible apply tw) <;> intro _)
        · rename_i k1 k2
          replace k1 : rd < 1099511627776 := k1
          replace k2 : ag ≥ 5 := k2
          have hg := goes_yes1 (x := (rd, ag)) hfb k1 k2
          try
            refine z_wrap (show -9223372036854775808 ≤ rd + 1 ∧ rd + 1 < 9223372036854775808 by omega) ?_
            conv => whnf
            refine rdw ?_; repeat' ((with_reducible apply tw) <;> intro _)
          have hm := on_mu (x := (rd, ag)) hx.1 hlift hg
          refine into_of [0, 2] ?_
          conv => whnf
          exact ⟨((rd + 1, 0), r), rfl, rfl, ⟨rfl, ⟨by show 1 ≤ rd + 1; omega, by show rd + 1 ≤ _; omega⟩, hrr, on_goes hon hx.1 hcl hlift hg⟩, hm⟩
        · rename_i k1 k2
          replace k1 : rd < 1099511627776 := k1
          replace k2 : ¬ ag ≥ 5 := k2
          refine ACalls.mono (post := fun av L => av = .d (.bool (ripeB (p.at (rd, ag)))) ∧ L = []) (ripe_ok (p.at (rd, ag)) hv ⟨hx1.1, hx1.2⟩) ?_
          rintro _ _ ⟨rfl, rfl⟩
          cases hrb : ripeB (p.at (rd, ag)) with
          | false =>
            conv => whnf
            refine rdw ?_; repeat' ((with_reducible apply tw) <;> intro _)
            exact ⟨rfl, by rw [on_end hon hcl hlift (goes_no3 (x := (rd, ag)) k2 hrb)]; rfl⟩
          | true =>
            conv => whnf
            refine rdw ?_; repeat' ((with_reducible apply tw) <;> intro _)
            have hg := goes_yes2 (x := (rd, ag)) hfb k1 hrb
            try
              refine z_wrap (show -9223372036854775808 ≤ rd + 1 ∧ rd + 1 < 9223372036854775808 by omega) ?_
              conv => whnf
              refine rdw ?_; repeat' ((with_reducible apply tw) <;> intro _)
            have hm := on_mu (x := (rd, ag)) hx.1 hlift hg
            refine into_of [0, 2] ?_
            conv => whnf
            exact ⟨((rd + 1, 0), r), rfl, rfl, ⟨rfl, ⟨by show 1 ≤ rd + 1; omega, by show rd + 1 ≤ _; omega⟩, hrr, on_goes hon hx.1 hcl hlift hg⟩, hm⟩
        · rename_i k1
          replace k1 : ¬ rd < 1099511627776 := k1
          exact ⟨rfl, by rw [on_end hon hcl hlift (goes_no2 (x := (rd, ag)) k1)]; rfl⟩
  · intro pass
    conv => whnf
    refine ACalls.mono (post := fun av L => av = .d (.int .i64 (topR p.dag.certs)) ∧ L = []) h1 ?_
    rintro _ _ ⟨rfl, rfl⟩
    conv => whnf
    refine rdw ?_; repeat' ((with_reducible apply tw) <;> intro _)
    refine aw_at (σ := Unit) (fun _ => onSt p out ((p.round, p.age), topR p.dag.certs)) (fun _ => True) [0, 2] ?_ ?_
    · conv => whnf
      exact ⟨(), rfl, rfl, trivial⟩
    · intro _ _
      exact pass 0 _ rfl ((p.round, p.age), topR p.dag.certs) ⟨rfl, hr, ⟨by show -1 ≤ topR _; omega, htop.2⟩, rfl⟩
end Go.Proofs.YtolkmjfkkkiboaaGreat
namespace Go.Proofs.YtolkmjfkkkiboaaGreat
open Go.Ab Go.RowKit Go.MapKept
attribute [local irreducible] ACalls AW ADraw Into fltB fnear
set_option maxRecDepth 100000
attribute [local irreducible] AWr
def takeSeq : Nat → Go.Code → List Go.Code
  | k + 1, .seq x y => x :: takeSeq k y
  | _, _ => []
def dropSeq : Nat → Go.Code → Go.Code
  | k + 1, .seq x y => dropSeq k y
  | _, c => c
theorem seqs_split : ∀ (k : Nat) (c : Go.Code), c = seqs (takeSeq k c) (dropSeq k c)
  | 0, c => by cases c <;> rfl
  | k + 1, c => by
    cases c with
    | seq x y => exact congrArg (Go.Code.seq x) (seqs_split k y)
    | _ => rfl
def agedP (p : Prim) : Prim := { p with age := min (p.age + 1) 1099511627776 }
def beatP (p : Prim) : Prim := onP (agedP p)
theorem backward_ok (l : List Cert) : ACalls Tryz.prog 152 [.d (.sl 6 (certsD l))] [] (fun av L => av = .fn 186 [.ptr 0 0] ∧ L = [.cells [.d (.sl 6 (certsD l))]]) := by
  (refine acalls_go ttOk zOk foOk Tryz.func152 rfl Tryz.ntmps152 rfl true rfl ?_); (conv => whnf)
  refine rdw ?_; repeat' ((with_reducible apply tw) <;> intro _)
  exact ⟨rfl, rfl⟩
theorem fget_pair {x y : AV} {m n : Nat} (F : AF) (h1 : fget F m = x) (h2 : fget F n = y) (s : Nat) : fget [(m, x), (n, y)] s = fget F s ∨ fget [(m, x), (n, y)] s = .d .any := by
  simp only [fget_cons, fget_nil]
  cases hb : Nat.beq m s with
  | true => left; rw [← Nat.eq_of_beq_eq_true hb, h1]; rfl
  | false =>
    cases hb2 : Nat.beq n s with
    | true => left; rw [← Nat.eq_of_beq_eq_true hb2, h2]; rfl
    | false => right; rfl
theorem fget_two {x y : AV} {m n : Nat} (s : Nat) : (s = m ∧ fget [(m, x), (n, y)] s = x) ∨ (s = n ∧ fget [(m, x), (n, y)] s = y) ∨ fget [(m, x), (n, y)] s = .d .any := by
  simp only [fget_cons, fget_nil]
  cases hb : Nat.beq m s with
  | true => left; exact ⟨(Nat.eq_of_beq_eq_true hb).symm, rfl⟩
  | false =>
    cases hb2 : Nat.beq n s with
    | true => right; left; exact ⟨(Nat.eq_of_beq_eq_true hb2).symm, rfl⟩
    | false => right; right; rfl
def zPrim : List AV := [.d (.int .i64 0), .d (.int .i64 0), .d (.int .i64 0), .d (.int .i64 0), .d (.int .i64 0), .d (.int .i64 0), .d (.int .i64 0), .d .nils, .d .nils, .d (.int .i64 0), .d .nils, .d .nils, .d (.int .i64 0), .d (.int .i64 0), .d .nils, .d .nils]
def bF : AF := [(4, .ptr 5 0), (2, .ptr 1 0)]
end Go.Proofs.YtolkmjfkkkiboaaGreat
namespace Go.Proofs.YtolkmjfkkkiboaaGreat
open Go.Ab Go.RowKit Go.MapKept
attribute [local irreducible] ACalls AW ADraw Into fltB fnear
set_option maxRecDepth 100000
end Go.Proofs.YtolkmjfkkkiboaaGreat
