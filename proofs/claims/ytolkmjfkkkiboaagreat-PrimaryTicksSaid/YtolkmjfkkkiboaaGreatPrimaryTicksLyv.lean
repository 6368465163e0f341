/- PrimaryTicks: abstract runs. -/
import Derived.Test.YtolkmjfkkkiboaaGreatPrimaryTicksLyu
set_option linter.unusedVariables false
set_option linter.unusedSimpArgs false
namespace Go.Ab
noncomputable section
open Go.RowKit
section
variable {P : Program} {tt : TypeId → Option TI} {fo : FuncId → Bool} {n : Nat}
theorem adraw_any (ht : TTok P tt) (hz : ZOok tt) (hfo : FOok P fo) {ops : Array Oper} (pl : Plan) (hpl : planB ops.toList pl = true) {K : AF → List AB → Prop} {F : AF} {L : List AB}
    (h : rOps P tt fo n ops.toList pl.r0 F L [] fun F D => eOps P tt fo n ops.toList pl.anc pl.ph F L D K) {c : Ctx} {E : Nat → Option Nat} {a : Act} {w : World} (hc : c.wf) (hcn : c.n = n) (hs : Sim c E F L a w) :
    wpAny P .any ops (fun x a' w' => ∃ E' F' L', Sim c E' F' L' a' w' ∧ x = .normal ∧ K F' L') ops.size (Array.replicate ops.size false) a { w with drawn := w.drawn + 1 } := by
  unfold planB at hpl
  simp only [Bool.and_eq_true, List.all_eq_true, Bool.not_eq_true'] at hpl
  obtain ⟨⟨⟨⟨⟨⟨⟨⟨p1, p2⟩, p3⟩, p4⟩, p5⟩, p6⟩, p7⟩, p8⟩, p9⟩ := hpl
  have hnd := nodupB_ok p1
  have hlen := Nat.eq_of_beq_eq_true p2.1
  have hall : ∀ i, i < ops.toList.length → i ∈ pl.r0 ++ later pl.ph := fun i hi => by
    have := allI_ok p3 i ops.toList[i] (by rw [List.getElem?_eq_getElem hi])
    rw [Nat.zero_add] at this
    exact memB_true this
  have hpp : PlanP ops.toList pl.anc (pl.ph.map (·.1)) := ⟨dstsB_ok p8, ancB_ok p5, fun j o ho m hm => by
    have := allI_ok p9 j o ho
    simp only [List.all_eq_true, Nat.zero_add] at this
    exact Nat.lt_of_lt_of_le (Nat.lt_succ_self _) (Nat.le_of_ble_eq_true (this m hm))⟩
  -- all the numbers are in range
  have hrange : ∀ i ∈ pl.r0 ++ later pl.ph, i < ops.toList.length := by
    intro i hi
    exact Nat.lt_of_lt_of_le (Nat.lt_succ_self _) (Nat.le_of_ble_eq_true (p2.2 i hi))
  have hs0 : Sim c E F L a { w with drawn := w.drawn + 1 } := hs.keeps hc (Keeps.drew w)
  obtain ⟨F', D', pre', k1, k2, k2b, k3, k4, k5, k6⟩ := rOps_ok (A := pl.anc) (es := pl.ph.map (·.1)) (rest := later pl.ph) hpp.dst h (looksB_ok p4) hnd (by simp) (fun r hr => memB_ok (p7 r hr)) (by simp)
  have e : ops = ops.toList.toArray := by simp
  rw [e]
  refine draw_any ht hz hfo hpp hc hcn (K := K) ?_ _ pl.ph pl.r0 pre' F' L D' _ a _ ⟨by simp, ?_, ?_, ?_, k3, k4, k2, hnd, k2b, ⟨none, chainB_ok p6⟩, k1⟩ ?_
  · intro E F L a w hK hs
    exact ⟨E, F, L, hs, rfl, hK⟩
  · intro i
    rw [← List.mem_append]
    constructor
    · intro hi
      by_cases hlt : i < ops.toList.length
      · exact hall i hlt
      · simp at hlt
        simp [Nat.not_lt.2 hlt] at hi
    · intro hi
      have := hrange i hi
      simp at this
      simp [this]
  · intro j o ho hj1 hj2
    exact absurd (hall j (List.getElem?_eq_some_iff.1 ho).1) (by simp [hj1, hj2])
  · refine ⟨E, hs0.weak fun s => ?_⟩
    by_cases hin : s ∈ dstsOf ops.toList pl.r0
    · right; exact fget_mask_in hin
    · left; rw [fget_mask_out hin, k6 s hin]
  · have : ops.toList.toArray.size = (pl.r0 ++ later pl.ph).length := by rw [hlen]; simp
    rw [this]
    simp
end
def AWr (l : Nat) (P : Program) (n k0 : Nat) (code : Code) (Q : Exit → AF → List AB → Prop) (F : AF) (L : List AB) : Prop :=
  ∀ (c : Ctx) (E : Nat → Option Nat) (a : Act) (w : World) (m : Nat), c.wf → c.n = n → c.L0.length = k0 → Sim c E F L a w →
    code.wpIn (rf l) m P (fun x a' w' => ∃ E' F' L', Sim c E' F' L' a' w' ∧ Q x F' L') a w
section
variable {P : Program} {tt : TypeId → Option TI} {fo : FuncId → Bool} {n k0 l : Nat}
theorem AWr.mono {code : Code} {Q Q' : Exit → AF → List AB → Prop} {F : AF} {L : List AB} (h : AWr l P n k0 code Q F L) (hq : ∀ x F L, Q x F L → Q' x F L) : AWr l P n k0 code Q' F L :=
  fun c E a w m h1 h2 h3 h4 => wpIn_mono (h c E a w m h1 h2 h3 h4) fun _ _ _ ⟨E', F', L', k1, k2⟩ => ⟨E', F', L', k1, hq _ _ _ k2⟩
theorem no_out {c : Ctx} {K : AF → List AB → Prop} : ¬ LetsOut (fun (x : Exit) (a' : Act) (w' : World) => ∃ E' F' L', Sim c E' F' L' a' w' ∧ x = Exit.normal ∧ K F' L') := by
  rintro ⟨a, w, E, F, L, _, h, _⟩
  cases h
theorem awr_region (ht : TTok P tt) (hz : ZOok tt) (hfo : FOok P fo) {id : Nat} {ops : Array Oper} (hd : ops.toList.all (fun o => !isDefer o) = true) {K : AF → List AB → Prop} {F : AF} {L : List AB}
    (h : acodeR P tt fo n k0 (.region id ops false) (fun e F' L' => e = .normal ∧ K F' L') F L) : AWr l P n k0 (.region id ops false) (fun e F' L' => e = .normal ∧ K F' L') F L := by
  rw [acodeR_eq] at h
  simp only [acodeK] at h
  intro c E a w m hc hcn _ hs
  refine wpIn_region_list ?_
  have h0 := aopsK_ok (Q := fun x a' w' => ∃ E' F' L', Sim c E' F' L' a' w' ∧ x = .normal ∧ K F' L') ht hz hfo hc hcn h hs (fun E' F' L' a' w' hk hs' => ⟨E', F', L', hs', rfl, hk.2⟩)
  rw [Array.toArray_toList] at h0
  exact listIn_rf no_out (noDefer_of hd) h0
theorem awr_draw (ht : TTok P tt) (hz : ZOok tt) (hfo : FOok P fo) (hm : P.follows .mixedOrders = true) {id : Nat} {ops : Array Oper} (hd : ops.toList.all (fun o => !isDefer o) = true) (pl : Plan) (hpl : planB ops.toList pl = true) {K : AF → List AB → Prop} {F : AF} {L : List AB}
    (h : rOpsR P tt fo n ops.toList pl.r0 F L [] fun F D => eOpsR P tt fo n ops.toList pl.anc pl.ph F L D K) : AWr l P n k0 (.region id ops true) (fun e F' L' => e = .normal ∧ K F' L') F L := by
  simp only [rOpsR_eq, eOpsR_eq] at h
  intro c E a w m hc hcn _ hs
  exact wpIn_region_any hm (anyIn_rf no_out (noDefer_of hd) (adraw_any ht hz hfo pl hpl h hc hcn hs))
theorem awr_seq {x y : Code} {Q : Exit → AF → List AB → Prop} {F : AF} {L : List AB} (h : AWr l P n k0 x (fun e F' L' => (e = .normal ∧ AWr l P n k0 y Q F' L') ∨ ((∃ id, e = .exit id) ∧ Q e F' L')) F L) : AWr l P n k0 (.seq x y) Q F L := by
  intro c E a w m hc hcn hk hs
  refine wpIn_seq (wpIn_mono (h c E a w m hc hcn hk hs) ?_)
  rintro e a' w' ⟨E', F', L', h1, (⟨rfl, h2⟩ | ⟨⟨id, rfl⟩, h2⟩)⟩
  · exact h2 c E' a' w' m hc hcn hk h1
  · exact ⟨E', F', L', h1, h2⟩
theorem awr_seqN {x y : Code} {Q : Exit → AF → List AB → Prop} {F : AF} {L : List AB} (h : AWr l P n k0 x (fun e F' L' => e = .normal ∧ AWr l P n k0 y Q F' L') F L) : AWr l P n k0 (.seq x y) Q F L :=
  awr_seq (h.mono fun _ _ _ h => .inl h)
theorem awr_cond {x : Operand} {A B : Code} {Q : Exit → AF → List AB → Prop} {F : AF} {L : List AB} (h : condK F x (fun F => AWr l P n k0 A Q F L) (fun F => AWr l P n k0 B Q F L)) : AWr l P n k0 (.cond x A B) Q F L := by
  intro c E a w m hc hcn hk hs
  obtain ⟨t, F', h1, h2, h3⟩ := condK_ok h hs
  refine wpIn_cond h1 ?_
  cases t with
  | true => exact h3 c E a w m hc hcn hk h2
  | false => exact h3 c E a w m hc hcn hk h2
theorem awr_skip {Q : Exit → AF → List AB → Prop} {F : AF} {L : List AB} (h : Q .normal F L) : AWr l P n k0 .skip Q F L := fun c E a w m _ _ _ hs => wpIn_skip ⟨E, F, L, hs, h⟩
theorem awr_exit {id : Nat} {Q : Exit → AF → List AB → Prop} {F : AF} {L : List AB} (h : Q (.exit id) F L) : AWr l P n k0 (.exit id) Q F L := fun c E a w m _ _ _ hs => wpIn_exit ⟨E, F, L, hs, h⟩
theorem awr_block {id : Nat} {x : Code} {Q : Exit → AF → List AB → Prop} {F : AF} {L : List AB} (h : AWr l P n k0 x (fun e F' L' => (e = .normal ∧ Q .normal F' L') ∨ (∃ id', e = .exit id' ∧ id' ≠ id ∧ Q (.exit id') F' L') ∨ (e = .exit id ∧ Q .normal F' L')) F L) : AWr l P n k0 (.block id x) Q F L := by
  intro c E a w m hc hcn hk hs
  refine wpIn_block (wpIn_mono (h c E a w m hc hcn hk hs) ?_)
  rintro e a' w' ⟨E', F', L', h1, (⟨rfl, h2⟩ | ⟨id', rfl, hne, h2⟩ | ⟨rfl, h2⟩)⟩
  · exact ⟨E', F', L', h1, h2⟩
  · simp only [Exit.inBlock]
    rw [if_neg hne]
    exact ⟨E', F', L', h1, h2⟩
  · simp only [Exit.inBlock, if_true]
    exact ⟨E', F', L', h1, h2⟩
end
end
end Go.Ab
