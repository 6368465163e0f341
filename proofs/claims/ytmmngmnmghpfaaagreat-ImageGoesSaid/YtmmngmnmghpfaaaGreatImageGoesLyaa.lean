/- ImageGoes: abstract runs. -/
import Derived.Test.YtmmngmnmghpfaaaGreatImageGoesLyy
set_option linter.unusedVariables false
set_option linter.unusedSimpArgs false
namespace Go.Ab
noncomputable section
open Go.RowKit
section
variable {P : Program} {tt : TypeId → Option TI} {fo : FuncId → Bool} {n : Nat}
noncomputable def seqsR (P : Program) (tt : TypeId → Option TI) (fo : FuncId → Bool) (n k0 : Nat) (K R : AF → List AB → Prop) (l : List Code) : AF → List AB → Prop :=
  List.rec (motive := fun _ => AF → List AB → Prop) K (fun x _ ih F L => acodeR P tt fo n k0 x (fun e F L => match e with
    | .normal => ih F L
    | .ret => R F L
    | _ => False) F L) l
def seqs : List Code → Code → Code
  | [], y => y
  | x :: r, y => .seq x (seqs r y)
theorem seqs_ok {k0 : Nat} (ht : TTok P tt) (hz : ZOok tt) (hfo : FOok P fo) {K R : AF → List AB → Prop} {c : Ctx} (hc : c.wf) (hcn : c.n = n) (hck : c.L0.length = k0) {rest : Code} {m : Nat} {Q : Exit → Act → World → Prop}
    (hrest : ∀ E' F' L' a' w', K F' L' → Sim c E' F' L' a' w' → rest.wpIn Fence.wide m P Q a' w') (hret : ∀ E' F' L' a' w', R F' L' → Sim c E' F' L' a' w' → Q .ret a' w') :
    ∀ (l : List Code) {E : Nat → Option Nat} {F : AF} {L : List AB} {a : Act} {w : World}, seqsR P tt fo n k0 K R l F L → Sim c E F L a w → (seqs l rest).wpIn Fence.wide m P Q a w
  | [], E, F, L, a, w, h, hs => hrest E F L a w h hs
  | x :: r, E, F, L, a, w, h, hs => by
    refine wpIn_seq (wpIn_mono (wpIn_wide.2 (AW_go ht hz hfo h c E a w hc hcn hck hs)) ?_)
    rintro e a' w' ⟨E', F', L', h1, h2⟩
    cases e with
    | normal => exact seqs_ok ht hz hfo hc hcn hck hrest hret r h2 h1
    | ret => exact hret E' F' L' a' w' h2 h1
    | exit id => exact h2.elim
    | goto l => exact h2.elim
    | panic ch => exact h2.elim
    | outgrown => exact h2.elim
end
end
end Go.Ab
