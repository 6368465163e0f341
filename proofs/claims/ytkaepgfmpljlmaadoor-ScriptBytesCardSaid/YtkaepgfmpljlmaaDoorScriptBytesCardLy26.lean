/- ScriptBytesCard: abstract runs. -/
import Derived.Test.YtkaepgfmpljlmaaDoorScriptBytesCardLy25
set_option linter.unusedVariables false
set_option linter.unusedSimpArgs false
namespace Go.Ab
noncomputable section
open Go.RowKit
section
variable {P : Program} {tt : TypeId → Option TI} {fo : FuncId → Bool} {n k0 : Nat} (ht : TTok P tt) (hz : ZOok tt) (hfo : FOok P fo)
include ht hz hfo
end
section
variable {P : Program} {tt : TypeId → Option TI} {fo : FuncId → Bool} {n k0 : Nat} (ht : TTok P tt) (hz : ZOok tt) (hfo : FOok P fo)
include ht hz hfo
theorem draw_pl (hm : P.follows .mixedOrders = true) {id : Nat} {ops : Array Oper} (pl : Plan) (hpl : planB ops.toList pl = true) {K : AF → List AB → Prop} {F : AF} {L : List AB}
    (h : rOpsR P tt fo n ops.toList pl.r0 F L [] fun F D => eOpsR P tt fo n ops.toList pl.anc pl.ph F L D K) : ADraw P n k0 id ops K F L := by
  simp only [rOpsR_eq, eOpsR_eq] at h
  exact adraw_of ht hz hfo hm _ hpl h
end
attribute [simp] u8s_length
@[simp] theorem u8s_app (a b : List UInt8) : u8s (a ++ b) = u8s a ++ u8s b := List.map_append ..
@[simp] theorem u8s_nil : u8s [] = [] := rfl
section
variable {P : Program} {tt : TypeId → Option TI} {fo : FuncId → Bool}
theorem gd_and {full : List Oper} {o : Oper} {F : AF} {L : List AB} {v : AV} {B : Prop} (h1 : gdet P tt fo full o F L v) (h2 : B) : gdet P tt fo full o F L v ∧ B := ⟨h1, h2⟩
theorem rd_intro {o : Oper} {F : AF} {L : List AB} {v : AV} {B : AV → Prop} (h1 : Det P tt fo o F L v) (h2 : B v) : ∃ v, Det P tt fo o F L v ∧ B v := ⟨v, h1, h2⟩
end
theorem mt_any {t : Bool} {A B : Prop} (h1 : t = true → A) (h2 : t = false → B) : splitB.match_1 (fun _ => Prop) (t) (fun _ => A) (fun _ => B) := by cases t; exact h2 rfl; exact h1 rfl
theorem mt_dec {p : Prop} [Decidable p] {A B : Prop} (h1 : p → A) (h2 : ¬ p → B) : splitB.match_1 (fun _ => Prop) (decide p) (fun _ => A) (fun _ => B) := mt_any (fun h => h1 (of_decide_eq_true h)) (fun h => h2 (of_decide_eq_false h))
theorem mt_eq {a b : Int} {A B : Prop} (h1 : a = b → A) (h2 : a ≠ b → B) : splitB.match_1 (fun _ => Prop) (a == b) (fun _ => A) (fun _ => B) := mt_any (fun h => h1 (by simpa using h)) (fun h => h2 (by simpa using h))
theorem mt_ne {a b : Int} {A B : Prop} (h1 : a ≠ b → A) (h2 : a = b → B) : splitB.match_1 (fun _ => Prop) (a != b) (fun _ => A) (fun _ => B) := mt_any (fun h => h1 (by simpa using h)) (fun h => h2 (by simpa using h))
theorem mt_not {t : Bool} {A B : Prop} (h1 : t = false → A) (h2 : t = true → B) : splitB.match_1 (fun _ => Prop) (!t) (fun _ => A) (fun _ => B) := by cases t; exact h1 rfl; exact h2 rfl
theorem z_wrap {e : Int} {B : Int → Prop} (he : -9223372036854775808 ≤ e ∧ e < 9223372036854775808) (h : B e) : ∀ z, z = IntKind.i64.wrap e → B z := fun z hz => by rw [hz, wrapI he]; exact h
theorem ix_map {α : Type} {f : α → List DV} {l : List α} {z : Int} {k : Nat} {a : α} {B : List DV → Prop} (h : l[k]? = some a) (hz : z = (k : Int)) (hb : B (f a)) : 0 ≤ z ∧ ∃ cs, (l.map f)[z.toNat]? = some cs ∧ B cs :=
  ⟨by omega, f a, by rw [hz, Int.toNat_natCast, List.getElem?_map, h]; rfl, hb⟩
theorem ix_u8 {l : List UInt8} {z : Int} {k : Nat} {a : UInt8} {B : List DV → Prop} (h : l[k]? = some a) (hz : z = (k : Int)) (hb : B [.int .u8 a.toNat]) : 0 ≤ z ∧ ∃ cs, (u8s l)[z.toNat]? = some cs ∧ B cs := ix_map (f := fun b : UInt8 => [.int .u8 b.toNat]) h hz hb
theorem boolEq {b c : Bool} (h : b = true ↔ c = true) : AV.d (.bool b) = AV.d (.bool c) := by rw [Bool.eq_iff_iff.2 h]
end
end Go.Ab
