/- PrimaryTicks: abstract runs. -/
import Derived.Test.YtolkmjfkkkiboaaGreatPrimaryTicksLyd
import Derived.RangeFuncNested
import Derived.TacticsInMore
import Derived.OrdersIn
set_option linter.unusedVariables false
set_option linter.unusedSimpArgs false
namespace Go.Ab
noncomputable section
open Go.RowKit
def rf (l : Nat) : Fence := Fence.wide.inRound l
theorem rf_enter (l n : Nat) : (rf l).depth.isSome = true → 1 ≤ n := fun h => by
  have h' : (none : Option Nat).isSome = true := h
  cases h'
theorem callsIn_rf {P : Program} {l n : Nat} {f : FuncId} {args : Array Value} {w : World} {R : Ending → World → Prop} (h : Calls P f args w R) : CallsIn (rf l) n P f args w R :=
  callsIn_wide.2 h
theorem rowsIn_rf {P : Program} {l n : Nat} {row : String} {args : Array Value} {w : World} {R : Value → World → Prop} (h : Rows P row args w R) : RowsIn (rf l) n P row args w R := by
  intro c cs _
  obtain ⟨v, w', r, s⟩ := h c cs
  exact ⟨v, w', r, (stepsIn_wide (P := P)).2 s⟩
theorem operIn_rf {P : Program} {l n : Nat} {o : Oper} (hd : ∀ c, o.op ≠ .defer c) {a : Act} {w : World} {K : Act → World → Prop} {Q : Exit → Act → World → Prop} (h : o.wp P a w K Q) : o.wpIn (rf l) n P a w K Q := by
  refine ⟨fun _ _ => trivial, ?_⟩
  rw [Oper.semAt_eq _ _ _ hd]
  unfold Oper.wp at h
  generalize (execOp a.eval o).run P w = r at h
  cases r with
  | ok x w' =>
    cases x <;> first | exact h | exact ⟨rf_enter l n, CallsIn.mono (callsIn_rf h) (fun e w'' he => by cases e <;> exact he)⟩ | exact ⟨rf_enter l n, rowsIn_rf h⟩ | exact h.elim
  | halt x w' => cases x <;> exact h
def noDefer (ops : List Oper) : Prop := ∀ o ∈ ops, ∀ c, o.op ≠ .defer c
def isDefer (o : Oper) : Bool := match o.op with | .defer _ => true | _ => false
theorem noDefer_of {ops : List Oper} (h : ops.all (fun o => !isDefer o) = true) : noDefer ops := by
  intro o ho c hc
  have := List.all_eq_true.1 h o ho
  simp [isDefer, hc] at this
theorem listIn_rf {P : Program} {l n : Nat} {full : Array Oper} {Q : Exit → Act → World → Prop} (hq : ¬ LetsOut Q) : ∀ {ops : List Oper} {a : Act} {w : World}, noDefer ops → wpList P full Q ops a w → wpListIn (rf l) n P full Q ops a w
  | [], a, w, _, h => h
  | o :: r, a, w, hd, h => by
    have ih : ∀ a w, wpList P full Q r a w → wpListIn (rf l) n P full Q r a w := fun a w => listIn_rf hq (fun o ho => hd o (List.mem_cons_of_mem _ ho))
    simp only [wpList] at h
    simp only [wpListIn]
    split
    · rename_i hw
      rw [if_pos hw] at h
      rcases h with h | h
      · exact Oper.wpIn_mono ih (operIn_rf (hd o (List.mem_cons_self ..)) h)
      · exact absurd h.2 hq
    · rename_i hw
      rw [if_neg hw] at h
      exact ⟨fun _ _ => trivial, ih _ _ h⟩
theorem opIn_rf {P : Program} {l n : Nat} {ops : Array Oper} {Q : Exit → Act → World → Prop} (hq : ¬ LetsOut Q) (hd : noDefer ops.toList) {i : Nat} {K : Act → World → Prop} {a : Act} {w : World} (h : wpOp P ops Q i K a w) : wpOpIn (rf l) n P ops Q i K a w := by
  unfold wpOp at h
  unfold wpOpIn
  split at h
  · rename_i hi
    simp only [hi]; exact h
  · rename_i o hi
    simp only [hi]
    split
    · rename_i hw
      rw [if_pos hw] at h
      rcases h with h | h
      · exact operIn_rf (hd o (List.mem_of_getElem? (by simpa using hi))) h
      · exact absurd h.2 hq
    · rename_i hw
      rw [if_neg hw] at h
      exact ⟨fun _ _ => trivial, h⟩
theorem anyIn_rf {P : Program} {l n : Nat} {md : Region.Mode} {ops : Array Oper} {Q : Exit → Act → World → Prop} (hq : ¬ LetsOut Q) (hd : noDefer ops.toList) : ∀ {fuel : Nat} {listed : Array Bool} {a : Act} {w : World}, wpAny P md ops Q fuel listed a w → wpAnyIn (rf l) n P md ops Q fuel listed a w
  | 0, listed, a, w, h => h
  | fuel + 1, listed, a, w, h =>
    ⟨h.1, fun i hi => wpOpIn_mono (fun a w => anyIn_rf hq hd) (opIn_rf hq hd (h.2 i hi))⟩
end
end Go.Ab
