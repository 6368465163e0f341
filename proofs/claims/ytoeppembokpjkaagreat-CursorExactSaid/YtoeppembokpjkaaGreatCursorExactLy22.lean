/- Part of the proof of CursorExact: what an abstract run of the code shows of its runs. -/
import Derived.Test.YtoeppembokpjkaaGreatCursorExactLy21

set_option linter.unusedVariables false
set_option linter.unusedSimpArgs false
namespace Go.Ab
open Go.RowKit
theorem adraw_plan {P : Program} {tt : TypeId → Option TI} {fo : FuncId → Bool} {n : Nat} (ht : TTok P tt) (hz : ZOok tt) (hfo : FOok P fo) (hm : P.follows .mixedOrders = true) {id k0 : Nat} {ops : Array Oper} (ov : Nat → Option Bool) (hpl : planB ops.toList (planOf ov ops.toList) = true) {K : AF → List AB → Prop} {F : AF} {L : List AB}
    (h : rOps P tt fo n ops.toList (planOf ov ops.toList).r0 F L [] fun F D => eOps P tt fo n ops.toList (planOf ov ops.toList).anc (planOf ov ops.toList).ph F L D K) : ADraw P n k0 id ops K F L :=
  adraw_of ht hz hfo hm _ hpl h
end Go.Ab
namespace Go.Ab
theorem u8s_get {xs : List UInt8} {k : Nat} (h : k < xs.length) : (u8s xs)[k]? = some [.int .u8 xs[k].toNat] := by simp [u8s, h]
end Go.Ab
namespace Go.Ab
theorem wrapI {n : Int} (h : -9223372036854775808 ≤ n ∧ n < 9223372036854775808) : IntKind.i64.wrap n = n := by
  simp [IntKind.wrap, IntKind.bits, IntKind.signed]
  omega
theorem decT {p : Prop} [Decidable p] (h : decide p = true) : p := of_decide_eq_true h
theorem decF {p : Prop} [Decidable p] (h : decide p = false) : ¬ p := of_decide_eq_false h
end Go.Ab
