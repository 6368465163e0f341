/- Part of the proof of LogQuotas: what an abstract run of the code shows of its runs. -/
import Derived.Test.YtpedbknmkgcldaaLogQuotasLbyA
import Derived.Orders

set_option linter.unusedVariables false
set_option linter.unusedSimpArgs false
namespace Go.Ab
noncomputable section
open Go.RowKit

/-! ## an operation asks of the frame what its operands are -/
theorem evsK_congr {F F' : AF} : ∀ {l : List Operand} {K : List AV → Prop}, (∀ x ∈ l, ev F x = ev F' x) → evsK F l K → evsK F' l K
  | [], _, _, h => h
  | x :: r, K, hx, h => by
    simp only [evsK_nil, evsK_c] at h ⊢
    rw [← hx x (by simp)]
    have := movK_ok h
    have h2 := evsK_congr (F' := F') (fun y hy => hx y (by simp [hy])) this
    revert h2
    cases ev F x <;> exact id
theorem evPartsK_congr {F F' : AF} : ∀ {l : List (Nat × Operand)} {K : List (Nat × AV) → Prop}, (∀ x ∈ l.map (·.2), ev F x = ev F' x) → evPartsK F l K → evPartsK F' l K
  | [], _, _, h => h
  | (i, x) :: r, K, hx, h => by
    simp only [evPartsK_nil, evPartsK_c] at h ⊢
    rw [← hx x (by simp)]
    have := movK_ok h
    have h2 := evPartsK_congr (F' := F') (fun y hy => hx y (by simp only [List.map_cons, List.mem_cons]; exact .inr hy)) this
    revert h2
    cases ev F x <;> exact id
theorem optEv_congr {F F' : AF} {x : Option Operand} (h : ∀ y ∈ x.toArray, ev F y = ev F' y) : optEv F x = optEv F' x := by
  cases x with
  | none => rfl
  | some x => simp only [optEv]; rw [h x (by simp)]

variable {P : Program} {tt : TypeId → Option TI} {fo : FuncId → Bool} {n : Nat}

theorem aopK_congr {o : Oper} {F F' : AF} {L : List AB} {K : AV → List AB → Prop} (hx : ∀ x ∈ o.op.operands, ev F x = ev F' x) (h : aopK P tt fo o F L K) : aopK P tt fo o F' L K := by
  unfold aopK at h ⊢
  cases ho : o.op <;> rw [ho] at h hx <;> simp only [Op.operands] at hx <;> simp only at h ⊢ <;> first
    | exact h
    | (rw [← hx _ (by simp)]; exact h)
    | (rw [← hx _ (by simp), ← hx _ (by simp)]; exact h)
    | skip
  case pick cc x y =>
    rw [← hx cc (by simp), ← hx x (by simp), ← hx y (by simp)]; exact h
  case mapUpdate t m k v =>
    rw [← hx m (by simp), ← hx k (by simp), ← hx v (by simp)]; exact h
  case build t ps => exact evPartsK_congr (fun x hm => hx x (by simpa using hm)) h
  case buildSlice t l ps => exact evPartsK_congr (fun x hm => hx x (by simpa using hm)) h
  case slice t x lo hi mx =>
    rw [← hx x (by simp), ← optEv_congr (F := F) (x := lo) (fun y hy => hx y (by simp_all)), ← optEv_congr (F := F) (x := hi) (fun y hy => hx y (by simp_all))]; exact h
  case makeFunc fn first caps =>
    obtain ⟨f, h1, h2, h3⟩ := mkFnK_ok h
    rw [h1, h2]
    exact evsK_congr (fun x hm => hx x (by simp_all)) h3
  case call cl =>
    unfold callOpK at h ⊢
    simp only [Call.operands] at hx
    cases hc : cl.callee with
    | value f =>
      rw [hc] at h hx
      simp only at h hx ⊢
      rw [← hx f (by simp)]
      revert h
      cases ev F f <;> simp only [movK] <;> first | exact id | skip
      rename_i g caps
      intro h
      cases hg : fo g with
      | false => rw [hg] at h; exact h.elim
      | true =>
        rw [hg] at h
        exact evsK_congr (fun x hm => hx x (by simp_all)) h
    | builtin b =>
      rw [hc] at h hx
      cases b <;> simp only at h hx ⊢ <;> first | exact h.elim | skip
      · split at h
        · rename_i s x t t' h1 h2
          have hs : s ∈ cl.args.toList := by rw [h1]; simp
          have hxx : x ∈ cl.args.toList := by rw [h1]; simp
          rw [← hx s (by simpa using hs), ← hx x (by simpa using hxx)]
          exact h
        · exact h.elim
      · split at h
        · rename_i s x t t' h1 h2
          have hs : s ∈ cl.args.toList := by rw [h1]; simp
          have hxx : x ∈ cl.args.toList := by rw [h1]; simp
          rw [← hx s (by simpa using hs), ← hx x (by simpa using hxx)]
          exact h
        · exact h.elim
      · split at h
        · rename_i s x t ts h1 h2
          have hs : s ∈ cl.args.toList := by rw [h1]; simp
          have hxx : x ∈ cl.args.toList := by rw [h1]; simp
          rw [← hx s (by simpa using hs), ← hx x (by simpa using hxx)]
          exact h
        · exact h.elim
      · split at h
        · rename_i x t h1 h2
          have hxx : x ∈ cl.args.toList := by rw [h1]; simp
          rw [← hx x (by simpa using hxx)]
          exact h
        · exact h.elim
      · split at h
        · rename_i x y h1
          have hs : x ∈ cl.args.toList := by rw [h1]; simp
          have hxx : y ∈ cl.args.toList := by rw [h1]; simp
          rw [← hx x (by simpa using hs), ← hx y (by simpa using hxx)]
          exact h
        · exact h.elim
      · split at h
        · rename_i x y h1
          have hs : x ∈ cl.args.toList := by rw [h1]; simp
          have hxx : y ∈ cl.args.toList := by rw [h1]; simp
          rw [← hx x (by simpa using hs), ← hx y (by simpa using hxx)]
          exact h
        · exact h.elim
    | _ => rw [hc] at h; exact h.elim

end
end Go.Ab
