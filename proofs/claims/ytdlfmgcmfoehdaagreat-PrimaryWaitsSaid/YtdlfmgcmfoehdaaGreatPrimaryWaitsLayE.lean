/- Part of the proof of PrimaryWaits: what an abstract run of the code shows of its runs. -/
import Derived.Test.YtdlfmgcmfoehdaaGreatPrimaryWaitsLayD
import Derived.Laws.MakeOwn

set_option linter.unusedVariables false
set_option linter.unusedSimpArgs false
namespace Go.Ab
noncomputable section
open Go.RowKit

/-! ## 'make([]T, n)', of cells that are one value -/
def makeSliceK (tt : TypeId → Option TI) (t : TypeId) (l c : AV) (L : List AB) (K : AV → List AB → Prop) : Prop :=
  ttK tt t fun i => match sliceElem i.desc with
    | some e => ttK tt e fun ei => bif Nat.beq ei.size 1 then zeroDK ei.zero fun d => match l with
        | .d (.int _ n) => match c with
          | .d (.int _ m) => n = m ∧ 0 ≤ n ∧ n.toNat * ei.bytes ≤ 140737488355328 ∧ n ≤ 140737488355328 ∧ lpushK L (.row e 1 (List.replicate n.toNat [d]) false) 0 fun j L' => K (.arr j) L'
          | _ => False
        | _ => False
      else False
    | none => False

theorem madeCells_one (v : Value) (n : Nat) : (madeCells #[v] n).toList = List.replicate n v := by
  unfold madeCells
  apply List.ext_getElem
  · simp
  · intro k h1 h2
    simp [Nat.mod_one]

theorem makeSliceK_ok {P : Program} {tt : TypeId → Option TI} (ht : TTok P tt) {t : TypeId} {c : Ctx} (hc : c.wf) {E : Nat → Option Nat} {L : List AB} {w : World} (hs : SimH c E L w) {x y : AV} {K : AV → List AB → Prop} (h : makeSliceK tt t x y L K)
    {v u : Value} (hv : VR (rcOf c.M0 E L w) x v) (hu' : VR (rcOf c.M0 E L w) y u) :
    ∃ r w' E' av L', (Instr.makeSlice t v u).run P w = .ok r w' ∧ K av L' ∧ SimH c E' L' w' ∧ (rcOf c.M0 E L w).le (rcOf c.M0 E' L' w') ∧ VR (rcOf c.M0 E' L' w') av r := by
  unfold makeSliceK at h
  replace h := ttK_ok h
  obtain ⟨i, hi, h⟩ := h
  split at h
  rotate_left
  · exact h.elim
  rename_i e he
  replace h := ttK_ok h
  obtain ⟨ei, hei, h⟩ := h
  have hd : i.desc = .slice e := by
    revert he
    cases i.desc <;> simp [sliceElem]
  obtain ⟨hu, _⟩ := ht t i hi
  rw [hd] at hu
  obtain ⟨_, info, k1, k2, k3, k4⟩ := ht e ei hei
  cases hb0 : (Nat.beq ei.size 1) with
  | false => rw [hb0] at h; exact h.elim
  | true =>
  rw [hb0] at h
  simp only [cond_true] at h
  have hsz1 := Nat.eq_of_beq_eq_true hb0
  replace h := zeroDK_ok h
  obtain ⟨d, h, hzc, hz1, hzd⟩ := h
  split at h
  rotate_left
  · exact h.elim
  rename_i kq n
  simp only [VR, VD] at hv
  subst hv
  split at h
  rotate_left
  · exact h.elim
  rename_i kq' m
  simp only [VR, VD] at hu'
  subst hu'
  obtain ⟨rfl, hn0, hbound, hn1, h⟩ := h
  obtain ⟨n, rfl⟩ := Int.eq_ofNat_of_zero_le hn0
  simp only [Int.toNat_natCast] at hbound h
  have h3 := lpushK_ok h
  rw [Nat.zero_add] at h3
  have hby : (info.bytes : Int) * (n : Int) ≤ 281474976710656 := by
    have h : ((info.bytes * n : Nat) : Int) ≤ 281474976710656 := by rw [k4, Nat.mul_comm]; omega
    rwa [Int.natCast_mul] at h
  have hr := run_make (P := P) w t e info ei.zero hu k1 k2 kq kq' (n : Int) (n : Int) hn0 (Int.le_refl _) hby (by omega)
  simp only [Int.toNat_natCast] at hr
  rw [hzc, k3, hsz1, Nat.mul_one] at hr
  have hml : (madeCells #[ei.zero] n).size = n * 1 := by rw [← Array.length_toList, madeCells_one]; simp
  obtain ⟨hs', hle⟩ := hs.newRow hc (Keeps.alloc w (.cells (madeCells #[ei.zero] n) e)) (e := e) (cap := n) (xs := List.replicate n [d]) false (by omega) (by intro cs hcs; rw [(List.mem_replicate.1 hcs).2]; rfl) (heap_alloc_new w _) hml (by simp) (by unfold maxLen; omega) (by
    rw [madeCells_one, List.length_replicate, Nat.mul_one, List.take_of_length_le (by simp)]
    exact VDs_replicate hz1 (hzd _) n)
  refine ⟨_, _, _, _, _, hr, h3, hs', hle, ?_⟩
  have := rc_arr_new (M0 := c.M0) (E := E) (L := L) (e := e) (n := 1) (xs := List.replicate n [d]) (sh := false) (heap_alloc_new w (.cells (madeCells #[ei.zero] n) e)) hml
  rwa [List.length_replicate] at this
end
end Go.Ab
