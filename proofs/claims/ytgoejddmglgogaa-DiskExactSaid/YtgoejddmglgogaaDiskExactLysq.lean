/- DiskExact: abstract runs. -/
import Derived.Test.YtgoejddmglgogaaDiskExactLysp
import Derived.ArgAppend
set_option linter.unusedVariables false
set_option linter.unusedSimpArgs false
namespace Go.Ab
open Go.RowKit
theorem wpList_append_spoil {P : Program} (w : World) {ops : Array Oper} {rest : List Oper} {o : Oper} {a : Act} {Q : Exit → Act → World → Prop}
    (hg : o.guard = none) (s x : Operand) (t : TypeId) (hop : o.op = Op.call { callee := Callee.builtin Builtin.append, args := #[s, x], argTypes := #[t, t] })
    (e : TypeId) (i : TypeInfo) (z : Value) (size bytes : Nat) (h1 : P.underlying t = some (.slice e)) (h2 : P.info? e = some i) (h3 : i.zero = some z) (h4 : i.size = size) (h5 : i.bytes = bytes) (h6 : z.cells.size = size) (h7 : 0 < size)
    {lo n k : Nat} {v : Value} (hv : SL lo n w (k + 1) size v) (hs : a.eval s = v)
    (ad : Addr) (c : Nat) (news : List Value) (hx : a.eval x = .slice (some ad) 1 c) (hn : news.length = size) (hc : ∀ j u, news[j]? = some u → w.cell? (ad.add j) = some u) (h1c : ∀ u ∈ news, u.oneCell' = true)
    (htr : ∀ (j : Nat) (u : Value) (sh : Sh), news[j]? = some u → (gsh size)[j]? = some sh → Triv sh u) (hby : 4294967297 * bytes ≤ 140737488355328) (hbl : ∀ b, lo ≤ b → b < lo + n → b < w.heap.size)
    (hk : ∀ v' w', Spoil lo n w w' → w.heap.size ≤ w'.heap.size → wpList P ops Q rest (a.put o.dst v') w') : wpList P ops Q (o :: rest) a w := by
  obtain ⟨p, len, cap, rfl, k1, ⟨k2, k3⟩, k4⟩ := hv
  have hm : (len + 1) * bytes ≤ 140737488355328 := Nat.le_trans (Nat.mul_le_mul_right _ (by omega)) hby
  have hbig : len + 1 ≤ maxLen := by unfold maxLen; omega
  rcases k4 with rfl | ⟨q, rfl, q2, q3, q4, ⟨cur, e', mk, q5, q6, q7, q8, q9⟩, q10⟩
  · obtain rfl : len = 0 := by omega
    refine wpList_append_grows w hg s x t hop e i z size bytes h1 h2 h3 h4 h5 h6 h7 p 0 0 [] hs (fun _ => ⟨rfl, rfl⟩) (by simp) (fun b _ j u hu => by simp at hu) ad 1 c news hx (by omega) hc h1c (by omega) hbig hm ?_
    intro v' w' _ hgr
    have hkp : Keeps w w' := ⟨hgr.os, hgr.tape, hgr.output, hgr.size, fun b hb => hgr.block b hb (fun h => by cases h)⟩
    exact hk v' w' (Spoil.keeps hbl hkp) hgr.size
  · have hlt : q.block < w.heap.size := (Array.getElem?_eq_some_iff.1 q5).1
    have hq : q = ⟨q.block, q.off, none⟩ := (addr_eta q q2).symm
    have hcell : ∀ j, w.cell? ⟨q.block, j, none⟩ = cur[j]? := fun j => cell_of_row w q.block j cur e' mk q5
    have hle : q.off + len * size ≤ cur.size := Nat.le_trans (Nat.add_le_add_left (Nat.mul_le_mul_right _ k1) _) q9
    refine wpList_append_arg w hg s x t hop e i z size bytes h1 h2 h3 h4 h5 h6 h7 q.block q.off len cap ((cur.toList.drop q.off).take (len * size)) (by rw [hs, ← hq]) ?_ ?_ ad 1 c news hx (by omega) hc h1c ?_ hbig hm ?_ ?_
    · rw [List.length_take, List.length_drop, Array.length_toList]; omega
    · intro j u hu
      rw [hcell]
      rw [List.getElem?_take] at hu
      split at hu
      · rw [List.getElem?_drop] at hu
        simpa using hu
      · cases hu
    · intro hr j hj
      have h9 : q.off + (len + 1) * size ≤ cur.size := Nat.le_trans (Nat.add_le_add_left (Nat.mul_le_mul_right _ hr) _) q9
      rw [Nat.add_mul] at h9
      have hjl : q.off + len * size + j < cur.size := by omega
      refine ⟨by rw [hcell, Array.getElem?_eq_getElem hjl]; rfl, ?_⟩
      have hq6 := q6 _ hjl
      unfold World.frozen?
      rw [q5]
      show (decide (mk.1 ≤ q.off + len * size + j) && decide (q.off + len * size + j < mk.2)) = false
      by_cases hp : mk.1 ≤ q.off + len * size + j
      · rw [decide_eq_false (p := q.off + len * size + j < mk.2) fun h => hq6 ⟨hp, h⟩, Bool.and_false]
      · rw [decide_eq_false hp, Bool.false_and]
    · intro hr
      refine hk _ _ ?_ ?_
      · refine Spoil.cells q3 q4 news _ w cur q5 fun j u hj sh hs => ?_
        have hjl : j < size := by rw [← hn]; exact (List.getElem?_eq_some_iff.1 hj).1
        refine htr j u sh hj ?_
        rw [q7] at hs
        have : (q.off + len * size + j) % size = j := by
          rw [Nat.add_right_comm, Nat.add_mul_mod_self_right, Nat.add_mod, q8, Nat.zero_add, Nat.mod_mod, Nat.mod_eq_of_lt hjl]
        rwa [this] at hs
      · exact (Spoil.cells q3 q4 news _ w cur q5 fun j u hj sh hs => by
          have hjl : j < size := by rw [← hn]; exact (List.getElem?_eq_some_iff.1 hj).1
          refine htr j u sh hj ?_
          rw [q7] at hs
          have : (q.off + len * size + j) % size = j := by
            rw [Nat.add_right_comm, Nat.add_mul_mod_self_right, Nat.add_mod, q8, Nat.zero_add, Nat.mod_mod, Nat.mod_eq_of_lt hjl]
          rwa [this] at hs).size
    · intro hr v' w' _ hgr
      have hkp : Keeps w w' := ⟨hgr.os, hgr.tape, hgr.output, hgr.size, fun b hb => hgr.block b hb (fun h => by cases h)⟩
      exact hk v' w' (Spoil.keeps hbl hkp) hgr.size
end Go.Ab
