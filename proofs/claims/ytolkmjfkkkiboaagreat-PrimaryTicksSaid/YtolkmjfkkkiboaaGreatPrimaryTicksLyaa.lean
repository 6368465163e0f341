/- PrimaryTicks: abstract runs. -/
import Derived.Test.YtolkmjfkkkiboaaGreatPrimaryTicksLyy
set_option linter.unusedVariables false
set_option linter.unusedSimpArgs false
namespace Go.Ab
noncomputable section
open Go.RowKit
def isQuiet (o : Oper) : Bool := match o.op with
  | .load _ _ => true
  | .store _ _ _ => true
  | .nilCheck _ => true
  | .fieldAddr _ _ _ => true
  | .move _ => true
  | .assign _ => true
  | _ => false
theorem value_res {P : Program} {s : Sem Value} {w w' : World} {d : Deferred} : ((do pure (.value (← s)) : Sem Next).run P w) ≠ .ok (.defer d) w' := by
  simp only [Sem.run_bind, Sem.run_pure]
  cases s.run P w <;> simp [Result.andThen]
theorem unit_res {P : Program} {s : Sem Unit} {w w' : World} {d : Deferred} : ((do s; pure .skip : Sem Next).run P w) ≠ .ok (.defer d) w' := by
  simp only [Sem.run_bind, Sem.run_pure]
  cases s.run P w <;> simp [Result.andThen]
theorem quiet_res {P : Program} {o : Oper} (hq : isQuiet o = true) {ρ : Operand → Value} {w w' : World} {d : Deferred} : (execOp ρ o).run P w ≠ .ok (.defer d) w' := by
  unfold isQuiet at hq
  cases hop : o.op <;> rw [hop] at hq <;> first | cases hq | skip
  all_goals
    unfold execOp
    simp only [hop]
    first
      | exact value_res
      | exact unit_res
      | (simp; done)
      | skip
  all_goals
    split
    all_goals first
      | (simp [runtimePanic]; done)
      | skip
  split
  · simp [runtimePanic]
  · generalize nilAhead = g
    rw [Sem.run_bind]
    cases Sem.run P program w with
    | halt x y => simp [Result.andThen]
    | ok p w1 =>
      simp only [Result.andThen_ok]
      rw [Sem.run_bind]
      cases Sem.run P (g _ _ _ _) w1 with
      | halt x y => simp [Result.andThen]
      | ok p2 w2 =>
        simp only [Result.andThen_ok]
        split
        · generalize (unsupported _ : Sem Unit) = s0
          rw [Sem.run_bind]
          cases Sem.run P s0 w2 <;> simp [Result.andThen]
        · simp
  · simp
theorem put_df (a : Act) (ds : List Deferred) (d : Option Tmp) (v : Value) : ({ a with defers := ds } : Act).put d v = { a.put d v with defers := ds } := by cases d <;> rfl
theorem oper_df {P : Program} {o : Oper} (hq : isQuiet o = true) (ds : List Deferred) {a : Act} {w : World} {K K' : Act → World → Prop} {Q Q' : Exit → Act → World → Prop} (hK : ∀ a w, K' a w → K { a with defers := ds } w) (hQ : ∀ e a w, Q' e a w → Q e { a with defers := ds } w) (h : o.wp P a w K' Q') : o.wp P { a with defers := ds } w K Q := by
  unfold Oper.wp at h ⊢
  rw [show ({ a with defers := ds } : Act).eval = a.eval from rfl]
  have hn : ∀ w' d, (execOp a.eval o).run P w ≠ .ok (.defer d) w' := fun w' d => quiet_res hq
  generalize (execOp a.eval o).run P w = r at h hn
  cases r with
  | ok x w' =>
    cases x with
    | value v => show K _ _; rw [put_df]; exact hK _ _ h
    | skip => show K _ _; rw [put_df]; exact hK _ _ h
    | defer d => exact absurd rfl (hn w' d)
    | enter f args =>
      refine Calls.mono h ?_
      intro e w'' he
      cases e with
      | returned v => show K _ _; rw [put_df]; exact hK _ _ he
      | panicked ch => exact hQ _ _ _ he
      | outgrown => obtain ⟨a0, w0, h0⟩ := he; exact ⟨_, w0, hQ _ _ _ h0⟩
    | row r args => exact Rows.mono h fun v w'' he => by show K _ _; rw [put_df]; exact hK _ _ he
    | _ => exact h.elim
  | halt x w' => cases x <;> first | exact hQ _ _ _ h | exact h.elim
def quietB (ops : List Oper) : Bool := ops.all isQuiet
theorem op_df {P : Program} {ops : Array Oper} (hq : quietB ops.toList = true) (ds : List Deferred) {i : Nat} {a : Act} {w : World} {K K' : Act → World → Prop} {Q Q' : Exit → Act → World → Prop} (hl : ¬ LetsOut Q') (hK : ∀ a w, K' a w → K { a with defers := ds } w) (hQ : ∀ e a w, Q' e a w → Q e { a with defers := ds } w) (h : wpOp P ops Q' i K' a w) : wpOp P ops Q i K { a with defers := ds } w := by
  unfold wpOp at h ⊢
  cases hi : ops[i]? with
  | none => rw [hi] at h; exact hK _ _ h
  | some o =>
    rw [hi] at h
    replace h : if Region.wanted o (yielded ops a.tmps) = true then o.wp P a w K' Q' ∨ (o.asks P a w ∧ LetsOut Q') else K' (a.put o.dst undef) w := h
    show if Region.wanted o (yielded ops ({ a with defers := ds } : Act).tmps) = true then o.wp P { a with defers := ds } w K Q ∨ (o.asks P { a with defers := ds } w ∧ LetsOut Q) else K (({ a with defers := ds } : Act).put o.dst undef) w
    rw [show ({ a with defers := ds } : Act).tmps = a.tmps from rfl]
    split
    · rename_i hw
      rw [if_pos hw] at h
      rcases h with h | h
      · exact .inl (oper_df (List.all_eq_true.1 hq o (List.mem_of_getElem? (by simpa using hi))) ds hK hQ h)
      · exact absurd h.2 hl
    · rename_i hw
      rw [if_neg hw] at h
      rw [put_df]
      exact hK _ _ h
theorem any_df {P : Program} {md : Region.Mode} {ops : Array Oper} (hq : quietB ops.toList = true) (ds : List Deferred) {Q Q' : Exit → Act → World → Prop} (hl : ¬ LetsOut Q') (hQ : ∀ e a w, Q' e a w → Q e { a with defers := ds } w) : ∀ {fuel : Nat} {listed : Array Bool} {a : Act} {w : World}, wpAny P md ops Q' fuel listed a w → wpAny P md ops Q fuel listed { a with defers := ds } w
  | 0, listed, a, w, h => ⟨h.1, hQ _ _ _ h.2⟩
  | fuel + 1, listed, a, w, h => ⟨fun hr => hQ _ _ _ (h.1 hr), fun i hi => op_df hq ds hl (fun a w => any_df hq ds hl hQ) hQ (h.2 i hi)⟩
section
variable {P : Program} {tt : TypeId → Option TI} {fo : FuncId → Bool} {n : Nat}
theorem tail_ok (ht : TTok P tt) (hz : ZOok tt) (hfo : FOok P fo) (hm : P.follows .mixedOrders = true) {id : Nat} {ops : Array Oper} (hq : quietB ops.toList = true) (pl : Plan) (hpl : planB ops.toList pl = true) {K : AF → List AB → Prop} {F : AF} {L : List AB}
    (h : rOpsR P tt fo n ops.toList pl.r0 F L [] fun F D => eOpsR P tt fo n ops.toList pl.anc pl.ph F L D K) {c : Ctx} {E : Nat → Option Nat} {a : Act} {w : World} (hc : c.wf) (hcn : c.n = n) (hs : Sim c E F L a w) (ds : List Deferred) {m : Nat} {Q : Exit → Act → World → Prop}
    (hret : ∀ E' F' L' a' w', K F' L' → Sim c E' F' L' a' w' → Q .ret { a' with defers := ds } w') : (Code.seq (.region id ops true) .ret).wpIn Fence.wide m P Q { a with defers := ds } w := by
  simp only [rOpsR_eq, eOpsR_eq] at h
  refine wpIn_seq (wpIn_wide.2 (wp_region_any hm ?_))
  refine any_df hq ds (w := { w with drawn := w.drawn + 1 }) no_out ?_ (adraw_any ht hz hfo pl hpl h hc hcn hs)
  rintro e a' w' ⟨E', F', L', h1, rfl, h2⟩
  exact wpIn_ret (hret E' F' L' a' w' h2 h1)
noncomputable def seqsR (P : Program) (tt : TypeId → Option TI) (fo : FuncId → Bool) (n k0 : Nat) (K R : AF → List AB → Prop) (l : List Code) : AF → List AB → Prop :=
  List.rec (motive := fun _ => AF → List AB → Prop) K (fun x _ ih F L => acodeR P tt fo n k0 x (fun e F L => match e with
    | .normal => ih F L
    | .ret => R F L
    | _ => False) F L) l
def seqs : List Code → Code → Code
  | [], y => y
  | x :: r, y => .seq x (seqs r y)
theorem seqs_ok {k0 : Nat} (ht : TTok P tt) (hz : ZOok tt) (hfo : FOok P fo) {K R : AF → List AB → Prop} {c : Ctx} (hc : c.wf) (hcn : c.n = n) (hck : c.L0.length = k0) {rest : Code} {m : Nat} {Q : Exit → Act → World → Prop}
    (hrest : ∀ E' F' L' a' w', K F' L' → Sim c E' F' L' a' w' → rest.wpIn Fence.wide m P Q a' w') (hret : ∀ E' F' L' a' w', R F' L' → Sim c E' F' L' a' w' → Q .ret a' w') :
    ∀ (l : List Code) {E : Nat → Option Nat} {F : AF} {L : List AB} {a : Act} {w : World}, seqsR P tt fo n k0 K R l F L → Sim c E F L a w → (seqs l rest).wpIn Fence.wide m P Q a w
  | [], E, F, L, a, w, h, hs => hrest E F L a w h hs
  | x :: r, E, F, L, a, w, h, hs => by
    refine wpIn_seq (wpIn_mono (wpIn_wide.2 (AW_go ht hz hfo h c E a w hc hcn hck hs)) ?_)
    rintro e a' w' ⟨E', F', L', h1, h2⟩
    cases e with
    | normal => exact seqs_ok ht hz hfo hc hcn hck hrest hret r h2 h1
    | ret => exact hret E' F' L' a' w' h2 h1
    | exit id => exact h2.elim
    | goto l => exact h2.elim
    | panic ch => exact h2.elim
    | outgrown => exact h2.elim
end
end
end Go.Ab
