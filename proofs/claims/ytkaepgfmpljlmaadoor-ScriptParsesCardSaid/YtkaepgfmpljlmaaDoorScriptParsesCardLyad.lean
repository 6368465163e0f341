/- ScriptParsesCard: abstract runs. -/
import Derived.Test.YtkaepgfmpljlmaaDoorScriptParsesCardLyq2
import Derived.LoopN
set_option linter.unusedVariables false
set_option linter.unusedSimpArgs false
namespace Go.Ab
open Go.RowKit
section
variable {P : Program} {tt : TypeId → Option TI} {fo : FuncId → Bool} {n k0 : Nat}
noncomputable def loopR (P : Program) (tt : TypeId → Option TI) (fo : FuncId → Bool) (n k0 : Nat) (x : Code) (Q : Exit → AF → List AB → Prop) (N : Nat) : AF → List AB → Prop :=
  Nat.rec (motive := fun _ => AF → List AB → Prop) (fun _ _ => False) (fun _ ih F L => acodeR P tt fo n k0 x (fun e F' L' => match e with
      | .normal => ih F' L'
      | .exit id => Q (.exit id) F' L'
      | .goto l => Q (.goto l) F' L'
      | .ret => Q .ret F' L'
      | _ => False) F L) N
variable (ht : TTok P tt) (hz : ZOok tt) (hfo : FOok P fo)
include ht hz hfo
theorem loop_some {x : Code} {Q : Exit → AF → List AB → Prop} (N : Nat) {F : AF} {L : List AB} (h : loopR P tt fo n k0 x Q N F L) : AW P n k0 (.loop x) Q F L := by
  intro c E a w hc hcn hk hs
  refine wp_loop_rounds N ?_
  induction N generalizing F L E a w with
  | zero => exact h.elim
  | succ N ih =>
    rw [rounds_succ]
    refine wp_mono (AW_go ht hz hfo (show acodeR P tt fo n k0 x _ F L from h) c E a w hc hcn hk hs) ?_
    rintro e a' w' ⟨E', F', L', h1, h2⟩
    cases e with
    | normal => exact ih h2 E' a' w' h1
    | exit id => exact ⟨E', F', L', h1, h2⟩
    | goto l => exact ⟨E', F', L', h1, h2⟩
    | ret => exact ⟨E', F', L', h1, h2⟩
    | panic ch => exact h2.elim
    | outgrown => exact h2.elim
end
end Go.Ab
