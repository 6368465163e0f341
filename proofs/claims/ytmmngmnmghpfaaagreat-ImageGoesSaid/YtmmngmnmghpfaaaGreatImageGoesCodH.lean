/- ImageGoes: contracts. -/
import Derived.Test.YtmmngmnmghpfaaaGreatImageGoesCodG
import Derived.Shelf.Spec.SlicesInsertGrow
set_option linter.unusedVariables false
set_option linter.unusedSimpArgs false
namespace Go.Proofs.YtmmngmnmghpfaaaGreat
open Go Go.Ab Go.RowKit Go.Lib Go.Proofs Go.Shelf
set_option maxRecDepth 100000
theorem insPair_shift (b n c i vb vc : Nat) (cs vs : List Value) {cur curv : Array Value} (w : World) (hi : i < n) (hroom : n + 1 ≤ c) (hc63 : c ≤ 9223372036854775807) (hvb : vb ≠ b)
    (hcur : w.heap[b]? = some (.cells cur 88 (0, 0))) (hsz : cur.size = c * 2) (hcv : w.heap[vb]? = some (.cells curv 88 (0, 0))) (hvl : curv.toList.take 2 = vs) (hv6 : vs.length = 2)
    (hcs : cur.toList.take (n * 2) = cs) (h1c : ∀ v ∈ cs, v.oneCell' = true) (h1v : ∀ v ∈ vs, v.oneCell' = true) :
    Calls Tryz.prog 137 #[.slice (some ⟨b, 0, none⟩) n c, .int .i64 i, .slice (some ⟨vb, 0, none⟩) 1 vc] w fun e w' =>
      e = .returned (.slice (some ⟨b, 0, none⟩) (n + 1) c) ∧ ∃ (cur' : Array Value) (w1 : World), Keeps w w1 ∧ w' = w1.setRow b cur' ∧ cur'.size = cur.size ∧ cur'.toList.take ((n + 1) * 2) = cs.take (i * 2) ++ vs ++ cs.drop (i * 2) := by
  have t0 := Tryz.underlying0; have a0 := Tryz.isAgg0; have z0 := Tryz.sizeOf0; have v0 := Tryz.zeroValue0
  have t3 := Tryz.underlying3; have a3 := Tryz.isAgg3; have z3 := Tryz.sizeOf3; have v3 := Tryz.zeroValue3
  have t4 := Tryz.underlying4; have a4 := Tryz.isAgg4; have z4 := Tryz.sizeOf4; have v4 := Tryz.zeroValue4
  have t22 := Tryz.underlying36; have a22 := Tryz.isAgg36; have z22 := Tryz.sizeOf36; have v22 := Tryz.zeroValue36
  have t68 := Tryz.underlying88; have a68 := Tryz.isAgg88; have z68 := Tryz.sizeOf88; have v68 := Tryz.zeroValue88
  have u0 := run_underlying t0; have u3 := run_underlying t3; have u4 := run_underlying t4; have u22 := run_underlying t22; have u68 := run_underlying t68
  have mixed := mixedOk
  have hz2 : ¬ ((i : Int) = (n : Int)) := by omega
  have hin : i ≤ n := by omega
  have hw1 : IntKind.i64.wrap ((i : Int) + 1) = (i : Int) + 1 := by rw [IntKind.wrap_i64]; omega
  have hwn : IntKind.i64.wrap ((n : Int) + 1) = (n : Int) + 1 := by rw [IntKind.wrap_i64]; omega
  have hb1 : (0 : Int) ≤ (i : Int) + 1 := by omega
  have htn : ((i : Int) + 1).toNat = i + 1 := by omega
  have hnn : ((n : Int) + 1).toNat = n + 1 := by omega
  have hb2 : ¬ (c = i + 1) := by omega
  have hb3 : (i : Int) ≤ (n : Int) + 1 := by omega
  have hb4 : ¬ (c = i) := by omega
  have hb5 : ¬ ((n : Int) + 1 > (c : Int)) := by omega
  have hshv : w.shape? vb = some (88, curv.size) := by simp [World.shape?, hcv]
  have hshb : w.shape? b = some (88, cur.size) := by simp [World.shape?, hcur]
  have hfr : ∀ o, w.frozen? ⟨vb, o, none⟩ = false := fun o => by simp [World.frozen?, hcv]
  have hcs0 : cur.size ≠ 0 := by omega
  have hov : ∀ lb cb, (callFunc 158 #[.slice (some ⟨vb, 0, none⟩) 1 vc, .slice (some ⟨b, (i + 1) * 2, none⟩) lb cb]).run Tryz.prog w = .ok (.value (.bool false)) w := fun lb cb => by
    rw [run_callFunc_extern Tryz.func158 (by kernel_rfl) (by kernel_rfl) (by kernel_rfl) (e := Extern.SlicesOverlaps.overlaps #[36, 36] #[4]) (by kernel_rfl),
      Lib.run_overlaps_apart w 36 4 88 t22 2 z68 ⟨vb, 0, none⟩ ⟨b, (i + 1) * 2, none⟩ 1 vc lb cb hvb 88 88 curv.size cur.size hshv hshb hcs0 (hfr _) (hfr _)]
    rfl
  have hcl : cs.length = n * 2 := by rw [← hcs, List.length_take, Array.length_toList, hsz]; exact Nat.min_eq_left (Nat.mul_le_mul_right _ (by omega))
  have hul : (cs.drop (i * 2)).length = (n - i) * 2 := by rw [List.length_drop, hcl, Nat.sub_mul]
  obtain ⟨cur1, hc1⟩ : ∃ cur1 : Array Value, (cur.toList.take ((i + 1) * 2) ++ cs.drop (i * 2) ++ cur.toList.drop ((i + 1) * 2 + (cs.drop (i * 2)).length)).toArray = cur1 := ⟨_, rfl⟩
  have hil := ins_list cur.toList vs (i * 2) (n * 2) 2 (Nat.mul_le_mul_right _ hin) (by rw [Array.length_toList, hsz]; omega) hv6 cur1.toList (by rw [← hc1, hcs, Nat.add_mul, Nat.one_mul])
  obtain ⟨cur2, hc2⟩ : ∃ cur2 : Array Value, (cur1.toList.take (i * 2) ++ vs ++ cur1.toList.drop (i * 2 + vs.length)).toArray = cur2 := ⟨_, rfl⟩
  have hl1 : cur1.size = cur.size := by have := hil.2.2; simpa using this
  have hcp1 : ∀ ty dc sc, (Builtin.copy_ #[36, 36] ty #[.slice (some ⟨b, (i + 1) * 2, none⟩) (n - i) dc, .slice (some ⟨b, i * 2, none⟩) (n + 1 - i) sc]).run Tryz.prog w.drew = .ok (goInt (n - i : Nat)) (w.drew.setRow b cur1) := fun ty dc sc => by
    have := run_copy_cellsK (P := Tryz.prog) w.drew 36 36 ty 88 2 b ((i + 1) * 2) (n - i) dc ⟨b, i * 2, none⟩ (n + 1 - i) sc (n - i) (cs.drop (i * 2)) (cur := cur) t22 z68 (Nat.min_eq_right (by omega)) hul
      (fun j v hj => by
        rw [add_lit _ rfl, show w.drew.cell? ⟨b, i * 2 + j, none⟩ = w.cell? ⟨b, i * 2 + j, none⟩ from rfl, cell_of_row w b _ cur _ _ hcur]
        rw [List.getElem?_drop, ← hcs, List.getElem?_take] at hj
        split at hj
        · simpa using hj
        · cases hj) hcur (by rw [hul, hsz]; omega) (fun v hv => h1c v (List.mem_of_mem_drop hv))
    rw [hc1] at this
    exact this
  have hcp2 : ∀ (W : World), (∀ x : Nat, W.heap[x]? = (w.drew.setRow b cur1).heap[x]?) → ∀ ty dc, (Builtin.copy_ #[36, 36] ty #[.slice (some ⟨b, i * 2, none⟩) (n + 1 - i) dc, .slice (some ⟨vb, 0, none⟩) 1 vc]).run Tryz.prog W = .ok (goInt (1 : Nat)) (W.setRow b cur2) := fun W hW ty dc => by
    have := run_copy_cellsK (P := Tryz.prog) W 36 36 ty 88 2 b (i * 2) (n + 1 - i) dc ⟨vb, 0, none⟩ 1 vc 1 vs (cur := cur1) (e := 88) t22 z68 (Nat.min_eq_left (by omega)) (by rw [hv6])
      (fun j v hj => by
        rw [add_lit _ rfl, Nat.zero_add]
        have h1 : W.cell? ⟨vb, j, none⟩ = (w.drew.setRow b cur1).cell? ⟨vb, j, none⟩ := by simp only [World.cell?, hW]
        rw [h1, cell_setRow_other _ _ _ _ hvb, show w.drew.cell? ⟨vb, j, none⟩ = w.cell? ⟨vb, j, none⟩ from rfl, cell_of_row w vb _ curv _ _ hcv]
        rw [← hvl, List.getElem?_take] at hj
        split at hj
        · simpa using hj
        · cases hj) (by rw [hW]; exact setRow_heap _ _ _ _ _ _ hcur) (by rw [hv6, hl1, hsz]; omega) h1v
    rw [hc2] at this
    exact this
  clear hc1 hul hcl
  go_enter Tryz.func137, Tryz.ntmps137
  go_wp2_with (simp only [hov])
  go_region_law_o (refine step_copy_runI rfl _ _ 36 36 rfl (.slice (some ⟨b, (i + 1) * 2, none⟩) (n - i) (c - (i + 1))) (.slice (some ⟨b, i * 2, none⟩) (n + 1 - i) (c - i)) (by simp [Act.eval, Act.put]) (by simp [Act.eval, Act.put]) (hcp1 _ _ _) ?_)
  go_wp2_with (at_builtin; refine wpList_copy_runI _ rfl _ _ 36 36 rfl _ _ rfl rfl (hcp2 _ (fun _ => rfl) _ _) ?_)
  go_ret
  refine ⟨rfl, cur2, w.drew, Keeps.drew w, setRow_setRow _ _ _ _, ?_, ?_⟩
  · have := hil.2.1
    rw [← hc2]
    simpa using this
  · rw [Nat.add_mul, Nat.one_mul, ← hc2]
    have := hil.1
    rw [hcs] at this
    exact this
set_option maxHeartbeats 4000000 in
theorem insPair_grow (b n c i vb vc : Nat) (cs vs : List Value) {cur curv : Array Value} (w : World) (hi : i < n) (hnc : n ≤ c) (hroom : c < n + 1) (hbig : (n + 1) * 8192 ≤ 140737488355328) (hvb : vb ≠ b)
    (hcur : w.heap[b]? = some (.cells cur 88 (0, 0))) (hsz : cur.size = c * 2) (hcv : w.heap[vb]? = some (.cells curv 88 (0, 0))) (hvl : curv.toList.take 2 = vs) (hv6 : vs.length = 2)
    (hcs : cur.toList.take (n * 2) = cs) (h1c : ∀ v ∈ cs, v.oneCell' = true) (h1v : ∀ v ∈ vs, v.oneCell' = true) :
    Calls Tryz.prog 137 #[.slice (some ⟨b, 0, none⟩) n c, .int .i64 i, .slice (some ⟨vb, 0, none⟩) 1 vc] w fun e w' =>
      ∃ (cur' : Array Value) (G : Nat), e = .returned (.slice (some ⟨w.heap.size, 0, none⟩) (n + 1) G) ∧ Keeps w w' ∧ w'.heap[w.heap.size]? = some (.cells cur' 88 (0, 0)) ∧ cur'.size = G * 2 ∧ n + 1 ≤ G ∧ G ≤ maxLen ∧ cur'.toList.take ((n + 1) * 2) = cs.take (i * 2) ++ vs ++ cs.drop (i * 2) := by
  have t0 := Tryz.underlying0; have a0 := Tryz.isAgg0; have z0 := Tryz.sizeOf0; have v0 := Tryz.zeroValue0
  have t3 := Tryz.underlying3; have a3 := Tryz.isAgg3; have z3 := Tryz.sizeOf3; have v3 := Tryz.zeroValue3
  have t4 := Tryz.underlying4; have a4 := Tryz.isAgg4; have z4 := Tryz.sizeOf4; have v4 := Tryz.zeroValue4
  have t22 := Tryz.underlying36; have a22 := Tryz.isAgg36; have z22 := Tryz.sizeOf36; have v22 := Tryz.zeroValue36
  have t68 := Tryz.underlying88; have a68 := Tryz.isAgg88; have z68 := Tryz.sizeOf88; have v68 := Tryz.zeroValue88
  have u0 := run_underlying t0; have u3 := run_underlying t3; have u4 := run_underlying t4; have u22 := run_underlying t22; have u68 := run_underlying t68
  have mixed := mixedOk
  obtain ⟨ti, htt⟩ : ∃ ti, tt 88 = some ti := ⟨_, rfl⟩
  have htb : ti.bytes ≤ 8192 := by cases htt; decide
  have hti : ti.size = 2 := by cases htt; rfl
  obtain ⟨_, info, k1, k2, k3, k4⟩ := ttOk 88 ti htt
  have hzc := zOk 88 ti htt
  rw [hti] at hzc k3
  clear htt
  have hcl : cs.length = n * 2 := by rw [← hcs, List.length_take, Array.length_toList, hsz]; exact Nat.min_eq_left (Nat.mul_le_mul_right _ (by omega))
  have hul : (cs.drop (i * 2)).length = (n - i) * 2 := by rw [List.length_drop, hcl, Nat.sub_mul]
  have hbw : b < w.heap.size := (Array.getElem?_eq_some_iff.1 hcur).1
  have hvw : vb < w.heap.size := (Array.getElem?_eq_some_iff.1 hcv).1
  have hold : (Builtin.firstCells info.size i (.slice (some ⟨b, 0, none⟩) i c)).run Tryz.prog w.drew = .ok (cs.take (i * 2)).toArray w.drew :=
    run_firstCells_some w.drew info.size i ⟨b, 0, none⟩ i c (cs.take (i * 2)) (by rw [List.length_take, hcl, k3]; exact Nat.min_eq_left (Nat.mul_le_mul_right _ (by omega))) (fun j v hj => by
      rw [add_lit _ rfl, Nat.zero_add, show w.drew.cell? ⟨b, j, none⟩ = w.cell? ⟨b, j, none⟩ from rfl, cell_of_row w b _ cur _ _ hcur]
      rw [← hcs, List.getElem?_take] at hj
      split at hj
      · rw [List.getElem?_take] at hj
        split at hj
        · simpa using hj
        · cases hj
      · cases hj)
  have hby : (n + 1) * info.bytes ≤ 140737488355328 := Nat.le_trans (Nat.mul_le_mul_left _ (by rw [k4]; exact htb)) hbig
  have hkk : (n : Int) + 1 - (i : Int) = ((n + 1 - i : Nat) : Int) := by omega
  have hik : i + (n + 1 - i) = n + 1 := by omega
  obtain ⟨G, hG⟩ : ∃ G, G = grownCap w (n + 1) c 88 := ⟨_, rfl⟩
  obtain ⟨ROW, hROW⟩ : ∃ ROW : Array Value, ROW = (cs.take (i * 2)).toArray ++ Builtin.zeroCells ti.zero.cells (n + 1 - i) ++ Builtin.zeroCells ti.zero.cells (G - (n + 1)) := ⟨_, rfl⟩
  have hrz : ∀ ty, (Builtin.append_ #[36, 3] ty #[.slice (some ⟨b, 0, none⟩) i c, .int .i64 ((n : Int) + 1 - (i : Int))]).run Tryz.prog w =
      .ok (.slice (some ⟨w.heap.size, 0, none⟩) (n + 1) G) (w.drew.alloc (.cells ROW 88)) := fun ty => by
    have h := Lib.run_append_grow_zeros w 36 3 ty 88 info _ .i64 .i64 t22 t3 k1 k2 (some ⟨b, 0, none⟩) i c (cs.take (i * 2)) hold (n + 1 - i) (by omega) (by omega) (by omega) (by omega) (Nat.le_trans (Nat.mul_le_mul_right _ (by omega)) (Nat.le_trans hby (by decide))) (by rw [hik]; exact growslice_fits hroom hby)
    rw [hik, ← hG, ← hROW] at h
    rw [hkk]
    exact h
  have hGn : n + 1 ≤ G := by rw [hG]; exact grownCap_ge w _ _ _
  have hGm : G ≤ maxLen := by
    rw [hG]
    exact grownCap_le_maxLen w (n + 1) c 88 (by unfold maxLen; omega)
  have hG63 : G ≤ 9223372036854775807 := by unfold maxLen at hGm; omega
  have hRs : ROW.size = G * 2 := by
    rw [hROW]
    simp only [Array.size_append, size_zeroCells, List.size_toArray, List.length_take, hcl, hzc]
    rw [Nat.min_eq_left (Nat.mul_le_mul_right _ (by omega : i ≤ n)), ← Nat.add_mul, ← Nat.add_mul]
    congr 1
    omega
  have hRt : ROW.toList.take (i * 2) = cs.take (i * 2) := by
    rw [hROW, Array.toList_append, Array.toList_append, List.append_assoc, List.take_append_of_le_length (by simp [hcl]; omega), List.take_of_length_le (by simp; omega)]
  obtain ⟨R1, hR1⟩ : ∃ R1 : Array Value, (ROW.toList.take (i * 2) ++ vs ++ ROW.toList.drop (i * 2 + vs.length)).toArray = R1 := ⟨_, rfl⟩
  obtain ⟨R2, hR2⟩ : ∃ R2 : Array Value, (R1.toList.take ((i + 1) * 2) ++ cs.drop (i * 2) ++ R1.toList.drop ((i + 1) * 2 + (cs.drop (i * 2)).length)).toArray = R2 := ⟨_, rfl⟩
  have hil := ins_list2 ROW.toList vs (cs.drop (i * 2)) _ (i * 2) (n * 2) 2 (Nat.mul_le_mul_right _ (by omega)) (by rw [Array.length_toList, hRs]; omega) hv6 (by rw [hul, Nat.sub_mul]) hRt
  have hl1 : R1.size = G * 2 := by rw [← hRs, ← hR1]; simpa using hil.2.2
  have e1 : R1.toList = ROW.toList.take (i * 2) ++ vs ++ ROW.toList.drop (i * 2 + vs.length) := by rw [← hR1]
  rw [← e1, show i * 2 + 2 = (i + 1) * 2 by omega] at hil
  have hl2 : R2.size = G * 2 := by rw [← hRs, ← hR2]; simpa using hil.2.1
  have hr2 : R2.toList.take ((n + 1) * 2) = cs.take (i * 2) ++ vs ++ cs.drop (i * 2) := by
    rw [← hR2, show (n + 1) * 2 = n * 2 + 2 by omega]
    exact hil.1
  have hnew : (w.drew.alloc (.cells ROW 88)).heap[w.heap.size]? = some (.cells ROW 88 (0, 0)) := heap_alloc_new w.drew _
  have hvbN : vb ≠ w.heap.size := by omega
  have hbN : b ≠ w.heap.size := by omega
  have hcpA : ∀ (W : World), (∀ x : Nat, W.heap[x]? = (w.drew.alloc (.cells ROW 88)).heap[x]?) → ∀ ty dc, (Builtin.copy_ #[36, 36] ty #[.slice (some ⟨w.heap.size, i * 2, none⟩) (n + 1 - i) dc, .slice (some ⟨vb, 0, none⟩) 1 vc]).run Tryz.prog W = .ok (goInt (1 : Nat)) (W.setRow w.heap.size R1) := fun W hW ty dc => by
    have := run_copy_cellsK (P := Tryz.prog) W 36 36 ty 88 2 w.heap.size (i * 2) (n + 1 - i) dc ⟨vb, 0, none⟩ 1 vc 1 vs (cur := ROW) (e := 88) t22 z68 (Nat.min_eq_left (by omega)) (by rw [hv6])
      (fun j v hj => by
        rw [add_lit _ rfl, Nat.zero_add]
        have h1 : W.cell? ⟨vb, j, none⟩ = (w.drew.alloc (.cells ROW 88)).cell? ⟨vb, j, none⟩ := by simp only [World.cell?, hW]
        rw [h1]
        refine (Keeps.alloc w.drew _).cell ?_
        rw [show w.drew.cell? ⟨vb, j, none⟩ = w.cell? ⟨vb, j, none⟩ from rfl, cell_of_row w vb _ curv _ _ hcv]
        rw [← hvl, List.getElem?_take] at hj
        split at hj
        · simpa using hj
        · cases hj) (by rw [hW]; exact hnew) (by rw [hv6, hRs]; omega) h1v
    rw [hR1] at this
    exact this
  have hcpB : ∀ (W : World), (∀ x : Nat, W.heap[x]? = ((w.drew.alloc (.cells ROW 88)).setRow w.heap.size R1).heap[x]?) → ∀ ty dc sc, (Builtin.copy_ #[36, 36] ty #[.slice (some ⟨w.heap.size, (i + 1) * 2, none⟩) (n - i) dc, .slice (some ⟨b, i * 2, none⟩) (n - i) sc]).run Tryz.prog W = .ok (goInt (n - i : Nat)) (W.setRow w.heap.size R2) := fun W hW ty dc sc => by
    have := run_copy_cellsK (P := Tryz.prog) W 36 36 ty 88 2 w.heap.size ((i + 1) * 2) (n - i) dc ⟨b, i * 2, none⟩ (n - i) sc (n - i) (cs.drop (i * 2)) (cur := R1) (e := 88) t22 z68 (Nat.min_self _) hul
      (fun j v hj => by
        rw [add_lit _ rfl]
        have h1 : W.cell? ⟨b, i * 2 + j, none⟩ = ((w.drew.alloc (.cells ROW 88)).setRow w.heap.size R1).cell? ⟨b, i * 2 + j, none⟩ := by simp only [World.cell?, hW]
        rw [h1, cell_setRow_other _ _ _ _ hbN]
        refine (Keeps.alloc w.drew _).cell ?_
        rw [show w.drew.cell? ⟨b, i * 2 + j, none⟩ = w.cell? ⟨b, i * 2 + j, none⟩ from rfl, cell_of_row w b _ cur _ _ hcur]
        rw [List.getElem?_drop, ← hcs, List.getElem?_take] at hj
        split at hj
        · simpa using hj
        · cases hj) (by rw [hW]; exact setRow_heap _ _ _ _ _ _ hnew) (by rw [hul, hl1]; omega) (fun v hv => h1c v (List.mem_of_mem_drop hv))
    rw [hR2] at this
    exact this
  have hw1 : IntKind.i64.wrap ((i : Int) + 1) = (i : Int) + 1 := by rw [IntKind.wrap_i64]; omega
  have hwn : IntKind.i64.wrap ((n : Int) + 1) = (n : Int) + 1 := by rw [IntKind.wrap_i64]; omega
  have hws : IntKind.i64.wrap ((n : Int) + 1 - i) = (n : Int) + 1 - i := by rw [IntKind.wrap_i64]; omega
  have hb1 : (0 : Int) ≤ (i : Int) + 1 := by omega
  have htn : ((i : Int) + 1).toNat = i + 1 := by omega
  have hz2 : ¬ ((i : Int) = (n : Int)) := by omega
  have hin : i ≤ n := by omega
  have hb3 : (i : Int) ≤ (n : Int) := by omega
  have hb5 : (c : Int) < (n : Int) + 1 := by omega
  have hGi : ¬ (G = i) := by omega
  have hGim : ¬ (G = i + 1) := by omega
  have hci : ¬ (c = i) := by omega
  clear hkk hik hold hROW hG hRt hRs hR1 hR2 hil hl1 e1
  have hcpA' : ∀ dc, (Builtin.copy_ #[36, 36] 3 #[.slice (some ⟨w.heap.size, i * 2, none⟩) (n + 1 - i) dc, .slice (some ⟨vb, 0, none⟩) 1 vc]).run Tryz.prog (w.alloc (.cells ROW 88)).drew = .ok (goInt (1 : Nat)) ((w.alloc (.cells ROW 88)).drew.setRow w.heap.size R1) := fun dc => hcpA _ (fun _ => rfl) _ _
  have hcpB' := hcpB ((w.alloc (.cells ROW 88)).drew.setRow w.heap.size R1).drew (fun _ => rfl) 3 (G - (i + 1)) (c - i)
  go_enter Tryz.func137, Tryz.ntmps137
  go_wp2_with (first
    | (at_builtin; refine Lib.wpList_append_run _ rfl _ _ _ _ rfl _ _ rfl rfl _ _ (hrz _) ?_)
    | simp only [hcpA'])
  go_region_law_o (refine step_copy_runI rfl _ _ 36 36 rfl (.slice (some ⟨w.heap.size, (i + 1) * 2, none⟩) (n - i) (G - (i + 1))) (.slice (some ⟨b, i * 2, none⟩) (n - i) (c - i)) (by simp [Act.eval, Act.put]) (by simp [Act.eval, Act.put]) hcpB' ?_)
  go_wp2
  go_ret
  exact ⟨R2, G, rfl, (((Keeps.alloc w _).trans (Keeps.drew _)).setNew _ (Nat.le_refl _) _).trans (Keeps.drew _) |>.setNew _ (Nat.le_refl _) _, setRow_heap _ _ _ _ _ _ (setRow_heap _ _ _ _ _ _ hnew), hl2, hGn, hGm, hr2⟩
theorem insertPair_in (l : List (List DV)) (x : List DV) (i : Nat) (hi : i < l.length) (hl : l.length ≤ 4294967296) : ACalls Tryz.prog 137 [.arr 0, .d (.int .i64 i), .arr 1] [.row 88 2 l false, .row 88 2 [x] false] (fun av L => av = .arr 2 ∧ L = [.dead, .row 88 2 [x] false, .row 88 2 (l.take i ++ x :: l.drop i) false]) := by
  intro c vs hc hL0 hs hv
  simp only [VRt, VR, VD] at hv
  obtain ⟨u0, r0, hvs, ⟨ab0, hab0, har0⟩, u1, r1, rfl, hu1, u2, r2, rfl, ⟨ab2, hab2, har2⟩, rfl⟩ := hv
  simp only [List.getElem?_cons_zero, List.getElem?_cons_succ, Option.some.injEq] at hab0 hab2
  subst hab0; subst hab2; subst hu1
  have hvs' : vs = #[u0, .int .i64 i, u2] := by rw [← Array.toArray_toList (xs := vs), hvs]
  rw [hvs']
  have hb0 := hs.blk 0 _ rfl
  have hb1 := hs.blk 1 _ rfl
  obtain ⟨_, hxl, hb1⟩ := hb1
  obtain ⟨_, hll, hb0⟩ := hb0
  have hx6 : x.length = 2 := hxl x (by simp)
  cases hE1 : c.E0 1 with
  | none => rw [hE1] at hb1; cases hb1
  | some vb =>
  cases hE : c.E0 0 with
  | none =>
    rw [hE] at hb0
    have hb0 : l = [] := hb0
    subst hb0
    simp at hi
  | some b =>
  rw [hE] at hb0
  rw [hE1] at hb1
  simp only [arRel, hE, hE1] at har0 har2
  obtain ⟨cap, cur, rfl, hh, hsz⟩ := har0
  obtain ⟨vc, curv, rfl, hhv, hszv⟩ := har2
  obtain ⟨cap', cur', hh', hsz', hcap, hmax, hvd⟩ := hb0
  rw [hh] at hh'; cases hh'
  obtain rfl : cap = cap' := by omega
  obtain ⟨vc', curv', hhv', hszv', hvcap, _, hvdv⟩ := hb1
  rw [hhv] at hhv'; cases hhv'
  have hne : vb ≠ b := by
    rintro rfl
    have := hs.inj 1 0 _ _ _ rfl rfl rfl rfl hE1 hE
    cases this
  simp only [List.length_cons, List.length_nil, Nat.zero_add, Nat.one_mul, List.flatten_cons, List.flatten_nil, List.append_nil] at hvdv hvcap ⊢
  have h1c := Cs_one hvd
  have h1v := Cs_one hvdv
  have hv6 : (curv.toList.take 2).length = 2 := by rw [Cs_length hvdv, hx6]
  have hzl : (l.take i ++ x :: l.drop i).length = l.length + 1 := by simp; omega
  have hzn : ∀ cs ∈ l.take i ++ x :: l.drop i, cs.length = 2 := by
    intro cs hcs
    rcases List.mem_append.1 hcs with h | h
    · exact hll cs (List.mem_of_mem_take h)
    · rcases List.mem_cons.1 h with rfl | h
      · exact hx6
      · exact hll cs (List.mem_of_mem_drop h)
  have hnew : VDs (rcOf c.M0 c.E0 [AB.row 88 2 l false, AB.row 88 2 [x] false] c.w0).rd (l.take i ++ x :: l.drop i).flatten ((cur.toList.take (l.length * 2)).take (i * 2) ++ curv.toList.take 2 ++ (cur.toList.take (l.length * 2)).drop (i * 2)) := by
    rw [List.flatten_append, List.flatten_cons, flatten_takeN l hll, flatten_dropN l hll, ← List.append_assoc]
    exact Cs_append (Cs_append (Cs_take _ hvd) hvdv) (Cs_drop _ hvd)
  by_cases hroom : l.length + 1 ≤ cap
  · refine (insPair_shift b l.length cap i vb vc _ _ c.w0 hi hroom (by unfold maxLen at hmax; omega) hne hh hsz hhv rfl hv6 rfl h1c h1v).mono ?_
    rintro e w' ⟨rfl, cur2, w1, kk, rfl, hs2, ht2⟩
    have hblt := hs.lt (i := 0) rfl rfl hE
    obtain ⟨hs3, hle3⟩ := (hs.keeps hc kk).turn (i := 0) (zs := l.take i ++ x :: l.drop i) rfl hE (cur' := cur2) (by rw [kk.block b hblt]; exact hh) hs2 (by rw [hzl, hsz]; exact Nat.mul_le_mul_right _ hroom) hzn (by
      rw [hzl, ht2]
      exact VDs.mono (le_keeps hs.bl kk).rd hnew)
    refine ⟨_, .arr 2, _, _, rfl, ⟨rfl, rfl⟩, hs3, ?_⟩
    simp only [VR]
    refine ⟨_, rfl, ?_⟩
    simp only [arRel, Eupd]
    exact ⟨cap, cur2, by rw [hzl], setRow_heap _ _ _ _ _ _ (by rw [kk.block b hblt]; exact hh), by rw [hs2]; exact hsz⟩
  · refine (insPair_grow b l.length cap i vb vc _ _ c.w0 hi hcap (by omega) (by omega) hne hh hsz hhv rfl hv6 rfl h1c h1v).mono ?_
    rintro e w' ⟨cur2, G, rfl, kk, hh2, hs2, hG1, hG2, ht2⟩
    obtain ⟨hk, hkle⟩ := hs.kill (i := 0) rfl
    obtain ⟨hs3, hle3⟩ := hk.newRow hc kk (e := 88) (xs := l.take i ++ x :: l.drop i) false (by exact ⟨by decide, rfl⟩) hzn hh2 hs2 (by rw [hzl]; exact hG1) hG2 (by
      rw [hzl, ht2]
      exact VDs.mono hkle.rd hnew)
    refine ⟨_, .arr 2, _, _, rfl, ⟨rfl, rfl⟩, hs3, ?_⟩
    simp only [VR]
    refine ⟨_, rfl, ?_⟩
    simp only [arRel, Eupd]
    exact ⟨G, cur2, by rw [hzl], hh2, hs2⟩
theorem insertPair_end (l : List (List DV)) (hll : ∀ cs ∈ l, cs.length = 2) (x : List DV) (hx : x.length = 2) (hl : l.length ≤ 4294967296) : ACalls Tryz.prog 137 [.arr 0, .d (.int .i64 l.length), .arr 1] [.row 88 2 l false, .row 88 2 [x] false] (fun av L => av = .arr 2 ∧ L = [.dead, .row 88 2 [x] false, .row 88 2 (l ++ [x]) false]) := by
  intro c vs hc hL0 hs hv
  have hv0 := hv
  simp only [VRt, VR, VD] at hv
  obtain ⟨u0, r0, hvs, ⟨ab0, hab0, har0⟩, u1, r1, rfl, hu1, u2, r2, rfl, ⟨ab2, hab2, har2⟩, rfl⟩ := hv
  have hq : appendK tt 36 [AB.row 88 2 l false, AB.row 88 2 [x] false] (.arr 0) (.arr 1) (fun av L => av = .arr 2 ∧ L = [.dead, .row 88 2 [x] false, .row 88 2 (l ++ [x]) false]) := by
    conv => whnf
    refine ⟨by simp; omega, ?_⟩
    conv => whnf
    exact ⟨rfl, rfl⟩
  have hv1 : VR (rcOf c.M0 c.E0 [AB.row 88 2 l false, AB.row 88 2 [x] false] c.w0) (.arr 0) u0 := ⟨ab0, hab0, har0⟩
  have hv2 : VR (rcOf c.M0 c.E0 [AB.row 88 2 l false, AB.row 88 2 [x] false] c.w0) (.arr 1) u2 := ⟨ab2, hab2, har2⟩
  have hr := fun ty => appendK_run ttOk zOk hc hs hq ty hv1 hv2
  simp only [List.getElem?_cons_zero, List.getElem?_cons_succ, Option.some.injEq] at hab0 hab2
  subst hab0; subst hab2; subst hu1
  have hvs' : vs = #[u0, .int .i64 l.length, u2] := by rw [← Array.toArray_toList (xs := vs), hvs]
  rw [hvs']
  have hb0 := hs.blk 0 _ rfl
  have hb1 := hs.blk 1 _ rfl
  obtain ⟨_, hxl, hb1⟩ := hb1
  obtain ⟨_, hll, hb0⟩ := hb0
  cases hE1 : c.E0 1 with
  | none => rw [hE1] at hb1; cases hb1
  | some vb =>
  simp only [arRel, hE1] at har2
  obtain ⟨vc, curv, rfl, hhv, hszv⟩ := har2
  obtain ⟨r, w', E', av, L', hrun, ⟨rfl, rfl⟩, hsim, hle, hvr⟩ := hr 36
  simp only [List.length_cons, List.length_nil, Nat.zero_add] at hrun ⊢
  have t0 := Tryz.underlying0; have a0 := Tryz.isAgg0; have z0 := Tryz.sizeOf0; have v0 := Tryz.zeroValue0
  have t3 := Tryz.underlying3; have a3 := Tryz.isAgg3; have z3 := Tryz.sizeOf3; have v3 := Tryz.zeroValue3
  have t4 := Tryz.underlying4; have a4 := Tryz.isAgg4; have z4 := Tryz.sizeOf4; have v4 := Tryz.zeroValue4
  have t22 := Tryz.underlying36; have a22 := Tryz.isAgg36; have z22 := Tryz.sizeOf36; have v22 := Tryz.zeroValue36
  have t68 := Tryz.underlying88; have a68 := Tryz.isAgg88; have z68 := Tryz.sizeOf88; have v68 := Tryz.zeroValue88
  have u0 := run_underlying t0; have u3 := run_underlying t3; have u4 := run_underlying t4; have u22 := run_underlying t22; have u68 := run_underlying t68
  have mixed := mixedOk
  cases hE : c.E0 0 with
  | none =>
    rw [hE] at hb0
    have hb0 : l = [] := hb0
    subst hb0
    simp only [arRel, hE] at har0
    subst har0
    refine Calls.mono (R := fun e w2 => e = .returned r ∧ w2 = w') ?_ (by rintro _ _ ⟨rfl, rfl⟩; exact ⟨_, .arr 2, _, _, rfl, ⟨rfl, rfl⟩, hsim, hvr⟩)
    go_enter Tryz.func137, Tryz.ntmps137
    go_wp2_with (at_builtin; refine Lib.wpList_append_run _ rfl _ _ _ _ rfl _ _ rfl rfl _ _ hrun ?_)
    go_ret
    exact ⟨rfl, rfl⟩
  | some b =>
    rw [hE] at hb0
    simp only [arRel, hE] at har0
    obtain ⟨cap, cur, rfl, hh, hsz⟩ := har0
    obtain ⟨cap', cur', hh', hsz', hcap, hmax, hvd⟩ := hb0
    rw [hh] at hh'; cases hh'
    obtain rfl : cap = cap' := by omega
    have hc63 : cap ≤ 9223372036854775807 := by unfold maxLen at hmax; omega
    refine Calls.mono (R := fun e w2 => e = .returned r ∧ w2 = w') ?_ (by rintro _ _ ⟨rfl, rfl⟩; exact ⟨_, .arr 2, _, _, rfl, ⟨rfl, rfl⟩, hsim, hvr⟩)
    clear hsz hsz' hvr hsim hle
    obtain ⟨n, hn⟩ : ∃ n, l.length = n := ⟨_, rfl⟩
    rw [hn] at hrun hcap ⊢
    go_enter Tryz.func137, Tryz.ntmps137
    go_wp2_with (at_builtin; refine Lib.wpList_append_run _ rfl _ _ _ _ rfl _ _ rfl rfl _ _ hrun ?_)
    all_goals (go_ret; exact ⟨rfl, rfl⟩)
set_option maxHeartbeats 4000000 in
theorem delPair_cells (b n c i : Nat) (cs : List Value) {cur : Array Value} (w : World) (hi : i < n) (hnc : n ≤ c) (hc63 : c ≤ 9223372036854775807)
    (hcur : w.heap[b]? = some (.cells cur 88 (0, 0))) (hsz : cur.size = c * 2) (hcs : cur.toList.take (n * 2) = cs) (h1c : ∀ v ∈ cs, v.oneCell' = true) :
    Calls Tryz.prog 136 #[.slice (some ⟨b, 0, none⟩) n c, .int .i64 i, .int .i64 ((i : Int) + 1)] w fun e w' =>
      e = .returned (.slice (some ⟨b, 0, none⟩) (n - 1) c) ∧ ∃ (cur' : Array Value) (w1 : World), Keeps w w1 ∧ w' = w1.setRow b cur' ∧ cur'.size = cur.size ∧ cur'.toList.take ((n - 1) * 2) = cs.take (i * 2) ++ cs.drop ((i + 1) * 2) := by
  have t0 := Tryz.underlying0; have a0 := Tryz.isAgg0; have z0 := Tryz.sizeOf0; have v0 := Tryz.zeroValue0
  have t3 := Tryz.underlying3; have a3 := Tryz.isAgg3; have z3 := Tryz.sizeOf3; have v3 := Tryz.zeroValue3
  have t4 := Tryz.underlying4; have a4 := Tryz.isAgg4; have z4 := Tryz.sizeOf4; have v4 := Tryz.zeroValue4
  have t22 := Tryz.underlying36; have a22 := Tryz.isAgg36; have z22 := Tryz.sizeOf36; have v22 := Tryz.zeroValue36
  have t68 := Tryz.underlying88; have a68 := Tryz.isAgg88; have z68 := Tryz.sizeOf88; have v68 := Tryz.zeroValue88
  have u0 := run_underlying t0; have u3 := run_underlying t3; have u4 := run_underlying t4; have u22 := run_underlying t22; have u68 := run_underlying t68
  have mixed := mixedOk
  have hz1 : ¬ ((i : Int) = (i : Int) + 1) := by omega
  have hb1 : (0 : Int) ≤ (i : Int) + 1 := by omega
  have htn : ((i : Int) + 1).toNat = i + 1 := by omega
  have hb2 : (i : Int) + 1 ≤ (n : Int) := by omega
  have hb3 : (i : Int) ≤ (i : Int) + 1 := by omega
  have hni : ¬ (n = i) := by omega
  have hci : ¬ (c = i) := by omega
  have hin : i + 1 ≤ n := by omega
  have hnc' : (n : Int) ≤ (c : Int) := by omega
  obtain ⟨ti, htt⟩ : ∃ ti, tt 88 = some ti := ⟨_, rfl⟩
  have hti : ti.size = 2 := by cases htt; rfl
  obtain ⟨_, info, k1, k2, k3, k4⟩ := ttOk 88 ti htt
  have hzc := zOk 88 ti htt
  have hz1c : ∀ v ∈ ti.zero.cells, v.oneCell' = true := by cases htt; decide
  have hzv : ∀ w, (zeroValue 88).run Tryz.prog w = .ok ti.zero w := by cases htt; exact v68
  rw [hti] at hzc k3
  clear htt
  have hcl : cs.length = n * 2 := by rw [← hcs, List.length_take, Array.length_toList, hsz]; exact Nat.min_eq_left (Nat.mul_le_mul_right _ (by omega))
  have hul : (cs.drop ((i + 1) * 2)).length = (n - (i + 1)) * 2 := by rw [List.length_drop, hcl, Nat.sub_mul]
  obtain ⟨cur1, hc1⟩ : ∃ cur1 : Array Value, (cur.toList.take (i * 2) ++ cs.drop ((i + 1) * 2) ++ cur.toList.drop (i * 2 + (cs.drop ((i + 1) * 2)).length)).toArray = cur1 := ⟨_, rfl⟩
  obtain ⟨cur2, hc2⟩ : ∃ cur2 : Array Value, (cur1.toList.take ((n - 1) * 2) ++ ti.zero.cells.toList ++ cur1.toList.drop ((n - 1) * 2 + 2)).toArray = cur2 := ⟨_, rfl⟩
  have hil := del_list cur.toList ti.zero.cells.toList (i * 2) (n * 2) 2 (by omega) (by rw [Array.length_toList, hsz]; omega) (by simpa using hzc) cur1.toList (by rw [← hc1, hcs, show i * 2 + 2 = (i + 1) * 2 by omega])
  rw [show n * 2 - 2 = (n - 1) * 2 by omega, show i * 2 + 2 = (i + 1) * 2 by omega, hcs] at hil
  have hl1 : cur1.size = cur.size := by have := hil.2.2; simpa using this
  have hr2 : cur2.toList.take ((n - 1) * 2) = cs.take (i * 2) ++ cs.drop ((i + 1) * 2) := by rw [← hc2]; exact hil.1
  have hl2 : cur2.size = cur.size := by rw [← hc2]; simpa using hil.2.1
  have hap : ∀ (p : Option Addr) (sc : Nat), (i + 1 < c → p = some ⟨b, (i + 1) * 2, none⟩) → ∀ ty, (Builtin.append_ #[36, 36] ty #[.slice (some ⟨b, 0, none⟩) i c, .slice p (n - (i + 1)) sc]).run Tryz.prog w.drew = .ok (.slice (some ⟨b, 0, none⟩) (n - 1) c) (w.drew.setRow b cur1) := by
    intro p sc hp ty
    rcases Nat.lt_or_ge (i + 1) c with h | h
    · rw [hp h]
      have := run_append_room (P := Tryz.prog) w.drew 36 ty 88 info t22 k1 b i c cur hcur ⟨b, (i + 1) * 2, none⟩ (n - (i + 1)) sc (cs.drop ((i + 1) * 2)) (by rw [hul, k3]) (fun j v hj => by
        rw [add_lit _ rfl, show w.drew.cell? ⟨b, (i + 1) * 2 + j, none⟩ = w.cell? ⟨b, (i + 1) * 2 + j, none⟩ from rfl, cell_of_row w b _ cur _ _ hcur]
        rw [List.getElem?_drop, ← hcs, List.getElem?_take] at hj
        split at hj
        · simpa using hj
        · cases hj) (fun v hv => h1c v (List.mem_of_mem_drop hv)) (by omega) (by rw [hul, k3, hsz]; omega)
      rw [k3, hc1, show i + (n - (i + 1)) = n - 1 by omega] at this
      exact this
    · obtain rfl : n = i + 1 := by omega
      have e1 : cur1 = cur := by
        rw [← hc1, List.drop_of_length_le (by omega : cs.length ≤ (i + 1) * 2)]
        simp
      have := run_append_none (P := Tryz.prog) (w := w.drew) (ty := ty) t22 k1 (some ⟨b, 0, none⟩) i c p sc (by omega)
      rw [e1, setRow_self w.drew b cur _ _ hcur, Nat.sub_self, show i + 1 - 1 = i by omega]
      exact this
  have hclr : ∀ (W : World), (∀ x : Nat, W.heap[x]? = (w.drew.setRow b cur1).heap[x]?) → ∀ ty cc, (Builtin.clear_ #[36] ty #[.slice (some ⟨b, (n - 1) * 2, none⟩) 1 cc]).run Tryz.prog W = .ok (.tuple #[]) (W.setRow b cur2) := fun W hW ty cc => by
    have := run_clear_cellsK (P := Tryz.prog) W 36 88 ty ti.zero t22 hzv hz1c b ((n - 1) * 2) cc (cur := cur1) (e' := 88) (by rw [hW]; exact setRow_heap _ _ _ _ _ _ hcur) (by rw [hzc, hl1, hsz]; omega)
    rw [hzc, hc2] at this
    exact this
  have hclr' := fun cc => hclr (w.drew.setRow b cur1) (fun _ => rfl) 0 cc
  have hn1 : n - (n - 1) = 1 := by omega
  have hcn : ¬ (c = n - 1) := by omega
  have hic : i ≤ c := by omega
  have hici : (i : Int) ≤ (c : Int) := by omega
  have hn1i : ((n - 1 : Nat) : Int) ≤ (n : Int) := by omega
  have hn1j : n - 1 ≤ n := by omega
  clear hc1 hul hcl hil hl1 hc2
  by_cases hlast : c = i + 1
  · have hap0 := fun sc => hap (some ⟨b, 0, none⟩) sc (fun h => absurd h (by omega)) 36
    simp only [hlast] at hap0 hcn
    clear hap hclr hcs hsz hcur h1c
    go_enter Tryz.func136, Tryz.ntmps136
    go_wp2
    go_region_law_o (refine step_append_runI rfl _ _ 36 36 rfl (.slice (some ⟨b, 0, none⟩) i (i + 1)) (.slice (some ⟨b, 0, none⟩) (n - (i + 1)) 0) (by simp [Act.eval, Act.put]) (by simp [Act.eval, Act.put]) (hap0 _) ?_)
    go_wp2_with (simp only [hclr'])
    go_ret
    exact ⟨by rw [hlast]; rfl, cur2, w.drew, Keeps.drew w, setRow_setRow _ _ _ _, hl2, hr2⟩
  · have hap0 := hap (some ⟨b, (i + 1) * 2, none⟩) (c - (i + 1)) (fun _ => rfl) 36
    clear hap hclr
    go_enter Tryz.func136, Tryz.ntmps136
    go_wp2
    go_region_law_o (refine step_append_runI rfl _ _ 36 36 rfl (.slice (some ⟨b, 0, none⟩) i c) (.slice (some ⟨b, (i + 1) * 2, none⟩) (n - (i + 1)) (c - (i + 1))) (by simp [Act.eval, Act.put]) (by simp [Act.eval, Act.put]) hap0 ?_)
    go_wp2_with (simp only [hclr'])
    go_ret
    exact ⟨rfl, cur2, w.drew, Keeps.drew w, setRow_setRow _ _ _ _, hl2, hr2⟩
theorem deletePair_ok (l : List (List DV)) (i : Nat) (hi : i < l.length) : ACalls Tryz.prog 136 [.arr 0, .d (.int .i64 i), .d (.int .i64 ((i : Int) + 1))] [.row 88 2 l false] (fun av L => av = .arr 1 ∧ L = [.dead, .row 88 2 (l.take i ++ l.drop (i + 1)) false]) := by
  intro c vs hc hL0 hs hv
  simp only [VRt, VR, VD] at hv
  obtain ⟨u0, r0, hvs, ⟨ab0, hab0, har0⟩, u1, r1, rfl, hu1, u2, r2, rfl, hu2, rfl⟩ := hv
  simp only [List.getElem?_cons_zero, Option.some.injEq] at hab0
  subst hab0; subst hu1; subst hu2
  have hvs' : vs = #[u0, .int .i64 i, .int .i64 ((i : Int) + 1)] := by rw [← Array.toArray_toList (xs := vs), hvs]
  rw [hvs']
  have hb0 := hs.blk 0 _ rfl
  obtain ⟨_, hll, hb0⟩ := hb0
  cases hE : c.E0 0 with
  | none =>
    rw [hE] at hb0
    have hb0 : l = [] := hb0
    subst hb0
    simp at hi
  | some b =>
  rw [hE] at hb0
  simp only [arRel, hE] at har0
  obtain ⟨cap, cur, rfl, hh, hsz⟩ := har0
  obtain ⟨cap', cur', hh', hsz', hcap, hmax, hvd⟩ := hb0
  rw [hh] at hh'; cases hh'
  obtain rfl : cap = cap' := by omega
  have hzl : (l.take i ++ l.drop (i + 1)).length = l.length - 1 := by simp; omega
  have hzn : ∀ cs ∈ l.take i ++ l.drop (i + 1), cs.length = 2 := by
    intro cs hcs
    rcases List.mem_append.1 hcs with h | h
    · exact hll cs (List.mem_of_mem_take h)
    · exact hll cs (List.mem_of_mem_drop h)
  refine (delPair_cells b l.length cap i _ c.w0 hi hcap (by unfold maxLen at hmax; omega) hh hsz rfl (Cs_one hvd)).mono ?_
  rintro e w' ⟨rfl, cur2, w1, kk, rfl, hs2, ht2⟩
  have hblt := hs.lt (i := 0) rfl rfl hE
  obtain ⟨hs3, hle3⟩ := (hs.keeps hc kk).turn (i := 0) (zs := l.take i ++ l.drop (i + 1)) rfl hE (cur' := cur2) (by rw [kk.block b hblt]; exact hh) hs2 (by rw [hzl, hsz]; exact Nat.mul_le_mul_right _ (by omega)) hzn (by
    rw [hzl, ht2, List.flatten_append, flatten_takeN l hll, flatten_dropN l hll]
    exact VDs.mono (le_keeps hs.bl kk).rd (Cs_append (Cs_take _ hvd) (Cs_drop _ hvd)))
  refine ⟨_, .arr 1, _, _, rfl, ⟨rfl, rfl⟩, hs3, ?_⟩
  simp only [VR]
  refine ⟨_, rfl, ?_⟩
  simp only [arRel, Eupd]
  exact ⟨cap, cur2, by rw [hzl], setRow_heap _ _ _ _ _ _ (by rw [kk.block b hblt]; exact hh), by rw [hs2]; exact hsz⟩
end Go.Proofs.YtmmngmnmghpfaaaGreat
namespace Go.Proofs.YtmmngmnmghpfaaaGreat
open Go.Ab Go.RowKit Go.MapKept
attribute [local irreducible] ACalls AW ADraw Into fltB fnear
set_option maxRecDepth 100000
structure Tab where
  prs : List PairS
  accs : List AccS
def Tab.has (t : Tab) (x : Tx) : Bool := fndB (fun h : AccS => decide (h.sender < x.sender)) (fun h => decide (h.sender = x.sender)) t.accs
def Tab.ia (t : Tab) (x : Tx) : Nat := posB (fun h : AccS => decide (h.sender < x.sender)) t.accs
def Tab.there (t : Tab) (x : Tx) : Bool := fndB (fun h : PairS => lessB h.key x.key) (fun h => decide (h.key = x.key)) t.prs
def Tab.ip (t : Tab) (x : Tx) : Nat := posB (fun h : PairS => lessB h.key x.key) t.prs
def Tab.last (t : Tab) (x : Tx) : Int := match t.has x, t.accs[t.ia x]? with
  | true, some a => a.seq
  | _, _ => 0
def Tab.fits (t : Tab) (x : Tx) : Prop := okTx x ∧ x.seq = t.last x + 1 ∧ ¬ (t.has x = false ∧ t.accs.length ≥ 4096) ∧ ¬ (t.there x = false ∧ x.val.size ≠ 0 ∧ t.prs.length ≥ 4096)
def Tab.accs2 (t : Tab) (x : Tx) : List AccS := match t.has x, t.accs[t.ia x]? with
  | true, some a => t.accs.set (t.ia x) ⟨a.sender, x.seq⟩
  | _, _ => t.accs.take (t.ia x) ++ ⟨x.sender, x.seq⟩ :: t.accs.drop (t.ia x)
def Tab.prs2 (t : Tab) (x : Tx) : List PairS :=
  if x.val.size = 0 then (if t.there x = true then t.prs.take (t.ip x) ++ t.prs.drop (t.ip x + 1) else t.prs) else
  match t.there x, t.prs[t.ip x]? with
  | true, some a => t.prs.set (t.ip x) ⟨a.key, x.val⟩
  | _, _ => t.prs.take (t.ip x) ++ ⟨x.key, x.val⟩ :: t.prs.drop (t.ip x)
open Classical in
noncomputable def Tab.act (t : Tab) (x : Tx) : Tab := if t.fits x then ⟨t.prs2 x, t.accs2 x⟩ else t
structure Tab.ok (t : Tab) : Prop where
  pl : t.prs.length ≤ 4096
  al : t.accs.length ≤ 4096
  ps : t.prs.Pairwise fun x y => lessB x.key y.key = true
  sa : t.accs.Pairwise fun x y => x.sender < y.sender
  aq : ∀ a ∈ t.accs, 1 ≤ a.seq ∧ a.seq ≤ 1099511627776
abbrev rowP (l : List PairS) : AB := .row 88 2 (pairsD l) false
abbrev rowA (l : List AccS) : AB := .row 83 2 (accsD l) false
def TL (mp ma : Bool) (t : Tab) (s : DV) (c : Int) : List AB := match mp, ma with
  | false, false => [.cells [.arr 1, .arr 2, .d s, .d (.int .i64 c)], rowP t.prs, rowA t.accs]
  | true, false => [.cells [.arr 3, .arr 2, .d s, .d (.int .i64 c)], .dead, rowA t.accs, rowP t.prs]
  | false, true => [.cells [.arr 1, .arr 3, .d s, .d (.int .i64 c)], rowP t.prs, .dead, rowA t.accs]
  | true, true => [.cells [.arr 3, .arr 4, .d s, .d (.int .i64 c)], .dead, .dead, rowP t.prs, rowA t.accs]
theorem flat_tib (z : Int) (b : Bool) : flatA (.tup [.d (.int .i64 z), .d (.bool b)]) := fun R R' v h => by
  simpa [VR, VRt, VD] using h
theorem bsAcc_row (l : List AccS) (hl : few l) (d : Int) (hs : l.Pairwise fun x y => x.sender < y.sender) : ACalls Tryz.prog 132 [.arr 0, .d (.int .i64 d), .fn 133 []] [rowA l] (fun av L => av = .tup [.d (.int .i64 (posB (fun h => decide (h.sender < d)) l : Nat)), .d (.bool (fndB (fun h => decide (h.sender < d)) (fun h => decide (h.sender = d)) l))] ∧ L = [rowA l]) :=
  acalls_lendF (avs := [.arr 0, .d (.int .i64 d)]) (avs' := [.d (.sl 2 (accsD l)), .d (.int .i64 d)]) (X := fun av => av = .tup [.d (.int .i64 (posB (fun h => decide (h.sender < d)) l : Nat)), .d (.bool (fndB (fun h => decide (h.sender < d)) (fun h => decide (h.sender = d)) l))]) (fun av e => by rw [e]; exact flat_tib _ _)
    ⟨_, _, rfl, .inl (.inr (.inl ⟨_, _, _, _, _, rfl, rfl, rfl⟩)), _, _, rfl, .inl (.inl ⟨_, rfl, rfl⟩), rfl⟩ (bsAcc_ok l hl d hs)
theorem pair_row (l : List PairS) (hl : few l) (ac : List AccS) (d : ByteArray) (hs : l.Pairwise fun x y => lessB x.key y.key = true) : ACalls Tryz.prog 134 [.agg [.arr 0, .arr 1], .d (.str d)] [rowP l, rowA ac] (fun av L => av = .tup [.d (.int .i64 (posB (fun h => lessB h.key d) l : Nat)), .d (.bool (fndB (fun h => lessB h.key d) (fun h => decide (h.key = d)) l))] ∧ L = [rowP l, rowA ac]) :=
  acalls_lendP (X := fun av => av = .tup [.d (.int .i64 (posB (fun h => lessB h.key d) l : Nat)), .d (.bool (fndB (fun h => lessB h.key d) (fun h => decide (h.key = d)) l))]) (fun av e => by rw [e]; exact flat_tib _ _)
    ⟨_, _, rfl, .inr ⟨_, _, rfl, rfl, _, _, rfl, .inr (.inl ⟨_, _, _, _, _, rfl, rfl, rfl⟩), _, _, rfl, .inr (.inl ⟨_, _, _, _, _, rfl, rfl, rfl⟩), rfl⟩, _, _, rfl, .inl (.inl ⟨_, rfl, rfl⟩), rfl⟩ (pair_ok l hl ac d hs)
theorem accI {l : List AccS} {i : Nat} {a : AccS} (h : l[i]? = some a) : (accsD l)[(i : Int).toNat]? = some a.cs := by rw [Int.toNat_natCast]; exact accsD_at h
theorem pairI {l : List PairS} {i : Nat} {a : PairS} (h : l[i]? = some a) : (pairsD l)[(i : Int).toNat]? = some a.cs := by rw [Int.toNat_natCast]; exact pairsD_at h
theorem fnd_some {α : Type} {lt eq : α → Bool} {l : List α} (h : fndB lt eq l = true) : ∃ a, l[posB lt l]? = some a ∧ eq a = true := by
  unfold fndB at h
  cases hg : l[posB lt l]? with
  | none => rw [hg] at h; cases h
  | some a => rw [hg] at h; exact ⟨a, rfl, h⟩
theorem insP_cs (l : List PairS) (c : PairS) (i : Nat) : (pairsD l).take i ++ c.cs :: (pairsD l).drop i = pairsD (l.take i ++ c :: l.drop i) := by simp [pairsD]
theorem insA_cs (l : List AccS) (c : AccS) (i : Nat) : (accsD l).take i ++ c.cs :: (accsD l).drop i = accsD (l.take i ++ c :: l.drop i) := by simp [accsD]
theorem delP_cs (l : List PairS) (i : Nat) : (pairsD l).take i ++ (pairsD l).drop (i + 1) = pairsD (l.take i ++ l.drop (i + 1)) := by simp [pairsD]
theorem setA_cs (l : List AccS) (c : AccS) (i : Nat) : (accsD l).set (i : Int).toNat c.cs = accsD (l.set i c) := by rw [Int.toNat_natCast, accsD, ← List.map_set]; rfl
theorem setP_cs (l : List PairS) (c : PairS) (i : Nat) : (pairsD l).set (i : Int).toNat c.cs = pairsD (l.set i c) := by rw [Int.toNat_natCast, pairsD, ← List.map_set]; rfl
theorem insertP_ok (l : List PairS) (c : PairS) (i : Nat) (hi : i ≤ l.length) (hl : l.length ≤ 4294967296) : ACalls Tryz.prog 137 [.arr 0, .d (.int .i64 i), .arr 1] [.row 88 2 (pairsD l) false, .row 88 2 [c.cs] false] (fun av L => av = .arr 2 ∧ L = [.dead, .row 88 2 [c.cs] false, .row 88 2 (pairsD (l.take i ++ c :: l.drop i)) false]) := by
  have hpl := pairsD_length l
  rcases Nat.lt_or_ge i l.length with h | h
  · have := insertPair_in (pairsD l) c.cs i (by omega) (by omega)
    rw [insP_cs] at this
    exact this
  · obtain rfl : i = l.length := by omega
    have := insertPair_end (pairsD l) (fun cs hcs => by obtain ⟨c, _, rfl⟩ := List.mem_map.1 hcs; rfl) c.cs rfl (by omega)
    rw [hpl] at this
    rw [List.take_length, List.drop_length, show pairsD (l ++ [c]) = pairsD l ++ [c.cs] by simp [pairsD]]
    exact this
theorem insertA_ok (l : List AccS) (c : AccS) (i : Nat) (hi : i ≤ l.length) (hl : l.length ≤ 4294967296) : ACalls Tryz.prog 135 [.arr 0, .d (.int .i64 i), .arr 1] [.row 83 2 (accsD l) false, .row 83 2 [c.cs] false] (fun av L => av = .arr 2 ∧ L = [.dead, .row 83 2 [c.cs] false, .row 83 2 (accsD (l.take i ++ c :: l.drop i)) false]) := by
  have hpl := accsD_length l
  rcases Nat.lt_or_ge i l.length with h | h
  · have := insertAcc_in (accsD l) c.cs i (by omega) (by omega)
    rw [insA_cs] at this
    exact this
  · obtain rfl : i = l.length := by omega
    have := insertAcc_end (accsD l) (fun cs hcs => by obtain ⟨c, _, rfl⟩ := List.mem_map.1 hcs; rfl) c.cs rfl (by omega)
    rw [hpl] at this
    rw [List.take_length, List.drop_length, show accsD (l ++ [c]) = accsD l ++ [c.cs] by simp [accsD]]
    exact this
theorem deleteP_ok (l : List PairS) (i : Nat) (hi : i < l.length) : ACalls Tryz.prog 136 [.arr 0, .d (.int .i64 i), .d (.int .i64 ((i : Int) + 1))] [.row 88 2 (pairsD l) false] (fun av L => av = .arr 1 ∧ L = [.dead, .row 88 2 (pairsD (l.take i ++ l.drop (i + 1))) false]) := by
  have := deletePair_ok (pairsD l) i (by rw [pairsD_length]; exact hi)
  rw [delP_cs] at this
  exact this
theorem no_val {v : ByteArray} (h : (v.toList == (ByteArray.mk #[]).toList) = true) : v.size = 0 := by rw [emptyB] at h; exact of_decide_eq_true h
theorem is_val {v : ByteArray} (h : (v.toList == (ByteArray.mk #[]).toList) = false) : ¬ v.size = 0 := nz h
theorem act_is {t : Tab} {x : Tx} (hf : t.fits x) {P : List PairS} {A : List AccS} (h1 : t.prs2 x = P) (h2 : t.accs2 x = A) : t.act x = ⟨P, A⟩ := by rw [Tab.act, if_pos hf, h1, h2]
theorem tl0 {P : List PairS} {A : List AccS} {s : DV} {c : Int} {p a : List (List DV)} (h1 : p = pairsD P) (h2 : a = accsD A) : [AB.cells [.arr 1, .arr 2, .d s, .d (.int .i64 c)], .row 88 2 p false, .row 83 2 a false] = TL false false ⟨P, A⟩ s c := by subst h1; subst h2; rfl
theorem tl1 {P : List PairS} {A : List AccS} {s : DV} {c : Int} {p a : List (List DV)} (h1 : p = pairsD P) (h2 : a = accsD A) : [AB.cells [.arr 3, .arr 2, .d s, .d (.int .i64 c)], .dead, .row 83 2 a false, .row 88 2 p false] = TL true false ⟨P, A⟩ s c := by subst h1; subst h2; rfl
theorem tl2 {P : List PairS} {A : List AccS} {s : DV} {c : Int} {p a : List (List DV)} (h1 : p = pairsD P) (h2 : a = accsD A) : [AB.cells [.arr 1, .arr 3, .d s, .d (.int .i64 c)], .row 88 2 p false, .dead, .row 83 2 a false] = TL false true ⟨P, A⟩ s c := by subst h1; subst h2; rfl
theorem tl3 {P : List PairS} {A : List AccS} {s : DV} {c : Int} {p a : List (List DV)} (h1 : p = pairsD P) (h2 : a = accsD A) : [AB.cells [.arr 3, .arr 4, .d s, .d (.int .i64 c)], .dead, .dead, .row 88 2 p false, .row 83 2 a false] = TL true true ⟨P, A⟩ s c := by subst h1; subst h2; rfl
open Classical in
theorem do_ok (t : Tab) (ht : t.ok) (x : Tx) (s : DV) (c : Int) : ACalls Tryz.prog 116 [.ptr 0 0, x.av] (TL false false t s c) (fun av L => (∃ b, av = .d (.bool b)) ∧ ∃ mp ma, L = TL mp ma (t.act x) s c) := by
  have hpl := ht.pl
  have hal := ht.al
  have hpd := pairsD_length t.prs
  have had := accsD_length t.accs
  (refine acalls_go ttOk zOk foOk Tryz.func116 rfl Tryz.ntmps116 rfl false rfl ?_); (conv => whnf)
  refine scope_go ttOk zOk foOk (σ := Unit) (fun _ => ([], TL false false t s c)) (fun k _ => k = 0 ∧ ¬ t.fits x) (fun _ _ => 0) ?_ ?_
  · rintro k rest hk _ ⟨rfl, hnp⟩
    have e := Option.some.inj (show some _ = some rest from hk)
    subst e
    clear hk
    conv => whnf
    refine rdw ?_; repeat' ((with_reducible apply tw) <;> intro _)
    exact ⟨⟨_, rfl⟩, false, false, by rw [Tab.act, if_neg hnp]; rfl⟩
  · intro pass
    conv => whnf
    ((with_reducible refine draw_pl ttOk zOk foOk mixedOk pl116x1 ?_ ?_); (focus kernel_rfl); (conv => whnf))
    refine rdw ?_; repeat' ((with_reducible apply tw) <;> intro _)
    (refine Or.inr ?_; (conv => whnf))
    (refine (bsAcc_row t.accs (by unfold few; omega) x.sender ht.sa).mono ?_; rintro _ _ ⟨rfl, rfl⟩; (conv => whnf))
    rw [show fndB (fun h : AccS => decide (h.sender < x.sender)) (fun h => decide (h.sender = x.sender)) t.accs = t.has x from rfl, show posB (fun h : AccS => decide (h.sender < x.sender)) t.accs = t.ia x from rfl]
    refine rdw ?_; repeat' ((with_reducible apply tw) <;> intro _)
    ((with_reducible refine draw_pl ttOk zOk foOk mixedOk pl116x2 ?_ ?_); (focus kernel_rfl); (conv => whnf))
    refine rdw ?_; repeat' ((with_reducible apply tw) <;> intro _)
    (refine (pair_row t.prs (by unfold few; omega) t.accs x.key ht.ps).mono ?_; rintro _ _ ⟨rfl, rfl⟩; (conv => whnf))
    rw [show fndB (fun h : PairS => lessB h.key x.key) (fun h => decide (h.key = x.key)) t.prs = t.there x from rfl, show posB (fun h : PairS => lessB h.key x.key) t.prs = t.ip x from rfl]
    have hil : t.ia x ≤ t.accs.length := posB_le _ _
    have hkl : t.ip x ≤ t.prs.length := posB_le _ _
    clear pass
    cases hh : t.has x with
    | true =>
      obtain ⟨a, ha, hae⟩ := fnd_some hh
      replace ha : t.accs[t.ia x]? = some a := ha
      have hil2 := (List.getElem?_eq_some_iff.1 ha).1
      have haq := ht.aq a (List.mem_of_getElem? ha)
      have hla : t.last x = a.seq := by rw [Tab.last, hh, ha]
      have hA0 : t.accs2 x = t.accs.set (t.ia x) ⟨a.sender, x.seq⟩ := by rw [Tab.accs2, hh, ha]
      obtain ⟨A, hA⟩ : ∃ A, t.accs2 x = A := ⟨_, rfl⟩
      have hset : (accsD t.accs).set ((t.ia x : Nat) : Int).toNat [.int .i64 a.sender, .int .i64 x.seq] = accsD A := by rw [← hA, hA0, ← setA_cs]; rfl
      refine rdw ?_; repeat' ((with_reducible apply tw) <;> intro _)
      refine ⟨by omega, by rw [had]; omega, ?_⟩
      conv => whnf
      refine ⟨_, accI ha, ?_⟩
      conv => whnf
      refine (mayTx_ok x).mono ?_
      rintro _ _ ⟨rfl, rfl⟩
      by_cases hok : okTx x
      rotate_left
      · have hbad : 0 = 0 ∧ ¬ t.fits x := ⟨rfl, fun h => hok h.1⟩
        rw [decide_eq_false hok]
        conv => whnf
        refine rdw ?_; repeat' ((with_reducible apply tw) <;> intro _)
        refine into_of [] ?_
        conv => whnf
        exact ⟨(), rfl, rfl, hbad⟩
      rw [decide_eq_true hok]
      conv => whnf
      ((with_reducible apply z_wrap); (focus omega); (conv => whnf))
      ((with_reducible refine mt_ne (fun _ => ?_) (fun _ => ?_)) <;> (conv => whnf))
      · rename_i hsq
        replace hsq : x.seq ≠ a.seq + 1 := hsq
        have hbad : 0 = 0 ∧ ¬ t.fits x := ⟨rfl, fun h => hsq (by rw [h.2.1, hla])⟩
        refine into_of [] ?_
        conv => whnf
        exact ⟨(), rfl, rfl, hbad⟩
      rename_i hsq
      replace hsq : x.seq = a.seq + 1 := hsq
      cases hth : t.there x with
      | true =>
        obtain ⟨q, hq, hqe⟩ := fnd_some hth
        replace hq : t.prs[t.ip x]? = some q := hq
        have hkl2 := (List.getElem?_eq_some_iff.1 hq).1
        have hfit : t.fits x := ⟨hok, by rw [hla]; exact hsq, fun h => (by rw [hh] at h; cases h.1), fun h => (by rw [hth] at h; cases h.1)⟩
        conv => whnf
        ((with_reducible refine draw_pl ttOk zOk foOk mixedOk pl116x10 ?_ ?_); (focus kernel_rfl); (conv => whnf))
        refine rdw ?_; repeat' ((with_reducible apply tw) <;> intro _)
        ((with_reducible apply rd_intro); (focus (intro K hK; (conv => whnf); exact ⟨by omega, (by rw [had]; omega), hK⟩)); (conv => whnf))
        refine rdw ?_; repeat' ((with_reducible apply tw) <;> intro _)
        refine ⟨_, accI ha, ?_⟩
        conv => whnf
        refine rdw ?_; repeat' ((with_reducible apply tw) <;> intro _)
        rotate_left
        rotate_left
        · rename_i e2
          have hv := is_val e2
          have hP : t.prs2 x = t.prs.set (t.ip x) ⟨q.key, x.val⟩ := by rw [Tab.prs2, if_neg hv, hth, hq]
          ((with_reducible refine draw_pl ttOk zOk foOk mixedOk pl116x16 ?_ ?_); (focus kernel_rfl); (conv => whnf))
          refine rdw ?_; repeat' ((with_reducible apply tw) <;> intro _)
          ((with_reducible apply rd_intro); (focus (intro K hK; (conv => whnf); exact ⟨by omega, (by rw [hpd]; omega), hK⟩)); (conv => whnf))
          refine rdw ?_; repeat' ((with_reducible apply tw) <;> intro _)
          refine ⟨_, pairI hq, ?_⟩
          conv => whnf
          refine rdw ?_; repeat' ((with_reducible apply tw) <;> intro _)
          rw [act_is hfit hP hA]
          exact ⟨⟨_, rfl⟩, false, false, tl0 (setP_cs t.prs ⟨q.key, x.val⟩ (t.ip x)) hset⟩
        · rename_i e2
          have hv := no_val e2
          have hP : t.prs2 x = t.prs.take (t.ip x) ++ t.prs.drop (t.ip x + 1) := by rw [Tab.prs2, if_pos hv, if_pos hth]
          (refine Or.inr ?_; (conv => whnf))
          (refine (deleteP_ok t.prs (t.ip x) hkl2).mono ?_; rintro _ _ ⟨rfl, rfl⟩; (conv => whnf))
          refine rdw ?_; repeat' ((with_reducible apply tw) <;> intro _)
          rw [act_is hfit hP hA]
          exact ⟨⟨_, rfl⟩, true, false, tl1 rfl hset⟩
        · rename_i e2 e3
          rw [e2] at e3
          cases e3
      | false =>
        conv => whnf
        refine rdw ?_; repeat' ((with_reducible apply tw) <;> intro _)
        · rename_i e1 e2
          have hbad : 0 = 0 ∧ ¬ t.fits x := ⟨rfl, fun h => h.2.2.2 ⟨hth, is_val e1, by omega⟩⟩
          refine into_of [] ?_
          conv => whnf
          exact ⟨(), rfl, rfl, hbad⟩
        · rename_i e1 e2
          have hfit : t.fits x := ⟨hok, by rw [hla]; exact hsq, fun h => (by rw [hh] at h; cases h.1), fun h => by have := h.2.2; omega⟩
          have hv := is_val e1
          have hP : t.prs2 x = t.prs.take (t.ip x) ++ ⟨x.key, x.val⟩ :: t.prs.drop (t.ip x) := by rw [Tab.prs2, if_neg hv, hth]
          ((with_reducible refine draw_pl ttOk zOk foOk mixedOk pl116x10 ?_ ?_); (focus kernel_rfl); (conv => whnf))
          refine rdw ?_; repeat' ((with_reducible apply tw) <;> intro _)
          ((with_reducible apply rd_intro); (focus (intro K hK; (conv => whnf); exact ⟨by omega, (by rw [had]; omega), hK⟩)); (conv => whnf))
          refine rdw ?_; repeat' ((with_reducible apply tw) <;> intro _)
          refine ⟨_, accI ha, ?_⟩
          conv => whnf
          refine rdw ?_; repeat' ((with_reducible apply tw) <;> intro _)
          all_goals (rename_i e2 e3; first | (exfalso; rw [e1] at e2; cases e2; done) | (exfalso; rw [e1] at e3; cases e3; done) | skip)
          ((with_reducible refine draw_pl ttOk zOk foOk mixedOk pl116x11 ?_ ?_); (focus kernel_rfl); (conv => whnf))
          refine rdw ?_; repeat' ((with_reducible apply tw) <;> intro _)
          (refine Or.inr ?_; (conv => whnf))
          (refine (insertP_ok t.prs ⟨x.key, x.val⟩ (t.ip x) hkl (by omega)).mono ?_; rintro _ _ ⟨rfl, rfl⟩; (conv => whnf))
          refine rdw ?_; repeat' ((with_reducible apply tw) <;> intro _)
          rw [act_is hfit hP hA]
          exact ⟨⟨_, rfl⟩, true, false, tl1 rfl hset⟩
        · rename_i e1
          have hfit : t.fits x := ⟨hok, by rw [hla]; exact hsq, fun h => (by rw [hh] at h; cases h.1), fun h => h.2.1 (no_val e1)⟩
          have hv := no_val e1
          have hP : t.prs2 x = t.prs := by rw [Tab.prs2, if_pos hv, if_neg (by rw [hth]; decide)]
          ((with_reducible refine draw_pl ttOk zOk foOk mixedOk pl116x10 ?_ ?_); (focus kernel_rfl); (conv => whnf))
          refine rdw ?_; repeat' ((with_reducible apply tw) <;> intro _)
          ((with_reducible apply rd_intro); (focus (intro K hK; (conv => whnf); exact ⟨by omega, (by rw [had]; omega), hK⟩)); (conv => whnf))
          refine rdw ?_; repeat' ((with_reducible apply tw) <;> intro _)
          refine ⟨_, accI ha, ?_⟩
          conv => whnf
          refine rdw ?_; repeat' ((with_reducible apply tw) <;> intro _)
          all_goals (rename_i e2 e3; first | (exfalso; rw [e1] at e2; cases e2; done) | (exfalso; rw [e1] at e3; cases e3; done) | skip)
          rw [act_is hfit hP hA]
          exact ⟨⟨_, rfl⟩, false, false, tl0 rfl hset⟩
    | false =>
      have hla : t.last x = 0 := by rw [Tab.last, hh]
      have hA0 : t.accs2 x = t.accs.take (t.ia x) ++ ⟨x.sender, x.seq⟩ :: t.accs.drop (t.ia x) := by rw [Tab.accs2, hh]
      obtain ⟨A, hA⟩ : ∃ A, t.accs2 x = A := ⟨_, rfl⟩
      have hins : (t.accs.take (t.ia x) ++ AccS.mk x.sender 0 :: t.accs.drop (t.ia x))[t.ia x]? = some ⟨x.sender, 0⟩ := by
        rw [List.getElem?_append_right (by rw [List.length_take]; omega), List.length_take, show t.ia x - min (t.ia x) t.accs.length = 0 by omega]; rfl
      have hil3 : (t.accs.take (t.ia x) ++ AccS.mk x.sender 0 :: t.accs.drop (t.ia x)).length = t.accs.length + 1 := by
        rw [List.length_append, List.length_cons, List.length_take, List.length_drop]; omega
      have hset : (accsD (t.accs.take (t.ia x) ++ AccS.mk x.sender 0 :: t.accs.drop (t.ia x))).set ((t.ia x : Nat) : Int).toNat [.int .i64 x.sender, .int .i64 x.seq] = accsD A := by
        rw [← hA, hA0, show [DV.int .i64 x.sender, DV.int .i64 x.seq] = AccS.cs ⟨x.sender, x.seq⟩ from rfl, setA_cs, List.set_append_right _ _ (by rw [List.length_take]; omega), List.length_take, show t.ia x - min (t.ia x) t.accs.length = 0 by omega]
        rfl
      refine rdw ?_; repeat' ((with_reducible apply tw) <;> intro _)
      refine (mayTx_ok x).mono ?_
      rintro _ _ ⟨rfl, rfl⟩
      by_cases hok : okTx x
      rotate_left
      · have hbad : 0 = 0 ∧ ¬ t.fits x := ⟨rfl, fun h => hok h.1⟩
        rw [decide_eq_false hok]
        conv => whnf
        refine rdw ?_; repeat' ((with_reducible apply tw) <;> intro _)
        refine into_of [] ?_
        conv => whnf
        exact ⟨(), rfl, rfl, hbad⟩
      rw [decide_eq_true hok]
      conv => whnf
      repeat' ((with_reducible apply z_wrap); (focus omega); (conv => whnf))
      ((with_reducible refine mt_ne (fun _ => ?_) (fun _ => ?_)) <;> (conv => whnf))
      · rename_i hsq
        have hbad : 0 = 0 ∧ ¬ t.fits x := ⟨rfl, fun h => hsq (by rw [h.2.1, hla])⟩
        refine into_of [] ?_
        conv => whnf
        exact ⟨(), rfl, rfl, hbad⟩
      rename_i hsq
      ((with_reducible refine mt_dec (fun _ => ?_) (fun _ => ?_)) <;> (conv => whnf))
      · rename_i hfull
        have hbad : 0 = 0 ∧ ¬ t.fits x := ⟨rfl, fun h => h.2.2.1 ⟨hh, by omega⟩⟩
        refine rdw ?_; repeat' ((with_reducible apply tw) <;> intro _)
        refine into_of [] ?_
        conv => whnf
        exact ⟨(), rfl, rfl, hbad⟩
      rename_i hfull
      cases hth : t.there x with
      | true =>
        obtain ⟨q, hq, hqe⟩ := fnd_some hth
        replace hq : t.prs[t.ip x]? = some q := hq
        have hkl2 := (List.getElem?_eq_some_iff.1 hq).1
        have hfit : t.fits x := ⟨hok, by rw [hla]; exact hsq, fun h => by omega, fun h => (by rw [hth] at h; cases h.1)⟩
        conv => whnf
        ((with_reducible refine draw_pl ttOk zOk foOk mixedOk pl116x9 ?_ ?_); (focus kernel_rfl); (conv => whnf))
        refine rdw ?_; repeat' ((with_reducible apply tw) <;> intro _)
        (refine Or.inr ?_; (conv => whnf))
        (refine (insertA_ok t.accs ⟨x.sender, 0⟩ (t.ia x) hil (by omega)).mono ?_; rintro _ _ ⟨rfl, rfl⟩; (conv => whnf))
        refine rdw ?_; repeat' ((with_reducible apply tw) <;> intro _)
        ((with_reducible refine draw_pl ttOk zOk foOk mixedOk pl116x10 ?_ ?_); (focus kernel_rfl); (conv => whnf))
        refine rdw ?_; repeat' ((with_reducible apply tw) <;> intro _)
        ((with_reducible apply rd_intro); (focus (intro K hK; (conv => whnf); exact ⟨by omega, (by rw [accsD_length, hil3]; omega), hK⟩)); (conv => whnf))
        refine rdw ?_; repeat' ((with_reducible apply tw) <;> intro _)
        refine ⟨_, accI hins, ?_⟩
        conv => whnf
        refine rdw ?_; repeat' ((with_reducible apply tw) <;> intro _)
        rotate_left
        rotate_left
        · rename_i e2
          have hv := is_val e2
          have hP : t.prs2 x = t.prs.set (t.ip x) ⟨q.key, x.val⟩ := by rw [Tab.prs2, if_neg hv, hth, hq]
          ((with_reducible refine draw_pl ttOk zOk foOk mixedOk pl116x16 ?_ ?_); (focus kernel_rfl); (conv => whnf))
          refine rdw ?_; repeat' ((with_reducible apply tw) <;> intro _)
          ((with_reducible apply rd_intro); (focus (intro K hK; (conv => whnf); exact ⟨by omega, (by rw [hpd]; omega), hK⟩)); (conv => whnf))
          refine rdw ?_; repeat' ((with_reducible apply tw) <;> intro _)
          refine ⟨_, pairI hq, ?_⟩
          conv => whnf
          refine rdw ?_; repeat' ((with_reducible apply tw) <;> intro _)
          rw [act_is hfit hP hA]
          exact ⟨⟨_, rfl⟩, false, true, tl2 (setP_cs t.prs ⟨q.key, x.val⟩ (t.ip x)) hset⟩
        · rename_i e2
          have hv := no_val e2
          have hP : t.prs2 x = t.prs.take (t.ip x) ++ t.prs.drop (t.ip x + 1) := by rw [Tab.prs2, if_pos hv, if_pos hth]
          (refine Or.inr ?_; (conv => whnf))
          (refine (deleteP_ok t.prs (t.ip x) hkl2).mono ?_; rintro _ _ ⟨rfl, rfl⟩; (conv => whnf))
          refine rdw ?_; repeat' ((with_reducible apply tw) <;> intro _)
          rw [act_is hfit hP hA]
          exact ⟨⟨_, rfl⟩, true, true, tl3 rfl hset⟩
        · rename_i e2 e3
          rw [e2] at e3
          cases e3
      | false =>
        conv => whnf
        refine rdw ?_; repeat' ((with_reducible apply tw) <;> intro _)
        · rename_i e1 e2
          have hbad : 0 = 0 ∧ ¬ t.fits x := ⟨rfl, fun h => h.2.2.2 ⟨hth, is_val e1, by omega⟩⟩
          refine into_of [] ?_
          conv => whnf
          exact ⟨(), rfl, rfl, hbad⟩
        · rename_i e1 e2
          have hfit : t.fits x := ⟨hok, by rw [hla]; exact hsq, fun h => by omega, fun h => by have := h.2.2; omega⟩
          have hv := is_val e1
          have hP : t.prs2 x = t.prs.take (t.ip x) ++ ⟨x.key, x.val⟩ :: t.prs.drop (t.ip x) := by rw [Tab.prs2, if_neg hv, hth]
          ((with_reducible refine draw_pl ttOk zOk foOk mixedOk pl116x9 ?_ ?_); (focus kernel_rfl); (conv => whnf))
          refine rdw ?_; repeat' ((with_reducible apply tw) <;> intro _)
          (refine Or.inr ?_; (conv => whnf))
          (refine (insertA_ok t.accs ⟨x.sender, 0⟩ (t.ia x) hil (by omega)).mono ?_; rintro _ _ ⟨rfl, rfl⟩; (conv => whnf))
          refine rdw ?_; repeat' ((with_reducible apply tw) <;> intro _)
          ((with_reducible refine draw_pl ttOk zOk foOk mixedOk pl116x10 ?_ ?_); (focus kernel_rfl); (conv => whnf))
          refine rdw ?_; repeat' ((with_reducible apply tw) <;> intro _)
          ((with_reducible apply rd_intro); (focus (intro K hK; (conv => whnf); exact ⟨by omega, (by rw [accsD_length, hil3]; omega), hK⟩)); (conv => whnf))
          refine rdw ?_; repeat' ((with_reducible apply tw) <;> intro _)
          refine ⟨_, accI hins, ?_⟩
          conv => whnf
          refine rdw ?_; repeat' ((with_reducible apply tw) <;> intro _)
          all_goals (rename_i e2 e3; first | (exfalso; rw [e1] at e2; cases e2; done) | (exfalso; rw [e1] at e3; cases e3; done) | skip)
          ((with_reducible refine draw_pl ttOk zOk foOk mixedOk pl116x11 ?_ ?_); (focus kernel_rfl); (conv => whnf))
          refine rdw ?_; repeat' ((with_reducible apply tw) <;> intro _)
          (refine Or.inr ?_; (conv => whnf))
          (refine (insertP_ok t.prs ⟨x.key, x.val⟩ (t.ip x) hkl (by omega)).mono ?_; rintro _ _ ⟨rfl, rfl⟩; (conv => whnf))
          refine rdw ?_; repeat' ((with_reducible apply tw) <;> intro _)
          rw [act_is hfit hP hA]
          exact ⟨⟨_, rfl⟩, true, true, tl3 rfl hset⟩
        · rename_i e1
          have hfit : t.fits x := ⟨hok, by rw [hla]; exact hsq, fun h => by omega, fun h => h.2.1 (no_val e1)⟩
          have hv := no_val e1
          have hP : t.prs2 x = t.prs := by rw [Tab.prs2, if_pos hv, if_neg (by rw [hth]; decide)]
          ((with_reducible refine draw_pl ttOk zOk foOk mixedOk pl116x9 ?_ ?_); (focus kernel_rfl); (conv => whnf))
          refine rdw ?_; repeat' ((with_reducible apply tw) <;> intro _)
          (refine Or.inr ?_; (conv => whnf))
          (refine (insertA_ok t.accs ⟨x.sender, 0⟩ (t.ia x) hil (by omega)).mono ?_; rintro _ _ ⟨rfl, rfl⟩; (conv => whnf))
          refine rdw ?_; repeat' ((with_reducible apply tw) <;> intro _)
          ((with_reducible refine draw_pl ttOk zOk foOk mixedOk pl116x10 ?_ ?_); (focus kernel_rfl); (conv => whnf))
          refine rdw ?_; repeat' ((with_reducible apply tw) <;> intro _)
          ((with_reducible apply rd_intro); (focus (intro K hK; (conv => whnf); exact ⟨by omega, (by rw [accsD_length, hil3]; omega), hK⟩)); (conv => whnf))
          refine rdw ?_; repeat' ((with_reducible apply tw) <;> intro _)
          refine ⟨_, accI hins, ?_⟩
          conv => whnf
          refine rdw ?_; repeat' ((with_reducible apply tw) <;> intro _)
          all_goals (rename_i e2 e3; first | (exfalso; rw [e1] at e2; cases e2; done) | (exfalso; rw [e1] at e3; cases e3; done) | skip)
          rw [act_is hfit hP hA]
          exact ⟨⟨_, rfl⟩, false, true, tl2 rfl hset⟩
structure Tab.fine (t : Tab) : Prop where
  pl : t.prs.length ≤ 4096
  al : t.accs.length ≤ 4096
  pp : ∀ p ∈ t.prs, (1 ≤ p.key.size ∧ p.key.size ≤ 16) ∧ 1 ≤ p.val.size ∧ p.val.size ≤ 32
  aa : ∀ a ∈ t.accs, (1 ≤ a.sender ∧ a.sender ≤ 1099511627776) ∧ 1 ≤ a.seq ∧ a.seq ≤ 1099511627776
  ps : t.prs.Pairwise fun x y => lessB x.key y.key = true
  sa : t.accs.Pairwise fun x y => x.sender < y.sender
theorem Tab.fine.ok {t : Tab} (h : t.fine) : t.ok := ⟨h.pl, h.al, h.ps, h.sa, fun a ha => (h.aa a ha).2⟩
theorem Tab.fine.may {t : Tab} (h : t.fine) : tabMay t.prs t.accs := by
  refine ⟨⟨h.pl, fun i p hp => ?_⟩, h.al, fun i a ha => ?_⟩
  · obtain ⟨h1, h2⟩ := h.pp p (List.mem_of_getElem? hp)
    refine ⟨by omega, by omega, by omega, by omega, fun q hi hq => ?_⟩
    obtain ⟨i1, rfl⟩ := List.getElem?_eq_some_iff.1 hp
    obtain ⟨i2, rfl⟩ := List.getElem?_eq_some_iff.1 hq
    exact List.pairwise_iff_getElem.1 h.ps (i - 1) i i2 i1 (by omega)
  · obtain ⟨h1, h2⟩ := h.aa a (List.mem_of_getElem? ha)
    refine ⟨h1, h2, fun q hi hq => ?_⟩
    obtain ⟨i1, rfl⟩ := List.getElem?_eq_some_iff.1 ha
    obtain ⟨i2, rfl⟩ := List.getElem?_eq_some_iff.1 hq
    exact List.pairwise_iff_getElem.1 h.sa (i - 1) i i2 i1 (by omega)
theorem ins_pw {α : Type} {R : α → α → Prop} (tr : ∀ a b c, R a b → R b c → R a c) {l : List α} {x : α} {k : Nat} (h : l.Pairwise R) (h1 : ∀ y ∈ l.take k, R y x) (h2 : ∀ y, l[k]? = some y → R x y) : (l.take k ++ x :: l.drop k).Pairwise R := by
  have hd : ∀ y ∈ l.drop k, R x y := by
    intro y hy
    obtain ⟨j, hj, rfl⟩ := List.mem_drop_iff_getElem.1 hy
    have hk : k < l.length := by omega
    have h3 := h2 _ (List.getElem?_eq_getElem hk)
    rcases Nat.eq_zero_or_pos j with rfl | h4
    · exact h3
    · exact tr _ _ _ h3 (List.pairwise_iff_getElem.1 h k (k + j) hk (by omega) (by omega))
  refine List.pairwise_append.2 ⟨h.sublist (List.take_sublist ..), List.pairwise_cons.2 ⟨hd, h.sublist (List.drop_sublist ..)⟩, fun a ha b hb => ?_⟩
  rcases List.mem_cons.1 hb with rfl | hb
  · exact h1 a ha
  · exact tr _ _ _ (h1 a ha) (hd b hb)
theorem take_lt {α : Type} {lt : α → Bool} {l : List α} (h : l.Pairwise fun x y => lt y = true → lt x = true) : ∀ y ∈ l.take (posB lt l), lt y = true := by
  intro y hy
  obtain ⟨i, hi, rfl⟩ := List.mem_take_iff_getElem.1 hy
  exact (posB_iff h (List.getElem?_eq_getElem (by omega))).2 (by omega)
theorem at_pos {α : Type} {lt eq : α → Bool} {l : List α} (h : l.Pairwise fun x y => lt y = true → lt x = true) (hf : fndB lt eq l = false) {y : α} (hy : l[posB lt l]? = some y) : lt y = false ∧ eq y = false := by
  constructor
  · cases hl : lt y with
    | false => rfl
    | true => have := (posB_iff h hy).1 hl; omega
  · unfold fndB at hf
    rw [hy] at hf
    exact hf
theorem less_tot : ∀ (x y : List UInt8), Op.bytesLess x y = false → Op.bytesLess y x = false → x = y
  | [], [], _, _ => rfl
  | [], b :: y, h, _ => by simp [Op.bytesLess] at h
  | a :: x, [], _, h => by simp [Op.bytesLess] at h
  | a :: x, b :: y, h1, h2 => by
    simp only [Op.bytesLess, Bool.or_eq_false_iff, Bool.and_eq_false_iff, decide_eq_false_iff_not, beq_eq_false_iff_ne] at h1 h2
    have hab : a = b := by
      have h3 := h1.1
      have h4 := h2.1
      rw [UInt8.lt_iff_toNat_lt] at h3 h4
      exact UInt8.toNat_inj.1 (by omega)
    subst hab
    rw [less_tot x y (h1.2.resolve_left (fun h => h rfl)) (h2.2.resolve_left (fun h => h rfl))]
theorem lessB_tot {a b : ByteArray} (h1 : lessB a b = false) (h2 : a ≠ b) : lessB b a = true := by
  cases h3 : lessB b a with
  | true => rfl
  | false =>
    have := less_tot _ _ h1 h3
    rw [ByteArray.toList_eq, ByteArray.toList_eq] at this
    exact absurd (ba_inj this) h2
theorem set_pw {α β : Type} {R : β → β → Prop} {f : α → β} {l : List α} {k : Nat} {a b : α} (h : l.Pairwise fun x y => R (f x) (f y)) (hk : l[k]? = some a) (hf : f b = f a) : (l.set k b).Pairwise fun x y => R (f x) (f y) := by
  have h1 : (l.map f).Pairwise R := List.pairwise_map.2 h
  refine List.pairwise_map.1 (?_ : ((l.set k b).map f).Pairwise R)
  rw [List.map_set, hf]
  have : (l.map f)[k]? = some (f a) := by rw [List.getElem?_map, hk]; rfl
  obtain ⟨i1, i2⟩ := List.getElem?_eq_some_iff.1 this
  rw [← i2, List.set_getElem_self]
  exact h1
theorem Tab.fine.act {t : Tab} (h : t.fine) (x : Tx) : (t.act x).fine := by
  unfold Tab.act
  split
  rotate_left
  · exact h
  rename_i hf
  obtain ⟨hok, hsq, hA, hP⟩ := hf
  have hpm := Pair_mono h.ps x.key
  have ham := Acc_mono h.sa x.sender
  have hil : t.ia x ≤ t.accs.length := posB_le _ _
  have hkl : t.ip x ≤ t.prs.length := posB_le _ _
  -- the accounts
  have hacc : (t.accs2 x).length ≤ 4096 ∧ (∀ a ∈ t.accs2 x, (1 ≤ a.sender ∧ a.sender ≤ 1099511627776) ∧ 1 ≤ a.seq ∧ a.seq ≤ 1099511627776) ∧ (t.accs2 x).Pairwise fun x y => x.sender < y.sender := by
    cases hh : t.has x with
    | true =>
      obtain ⟨a, ha, hae⟩ := fnd_some hh
      replace ha : t.accs[t.ia x]? = some a := ha
      have e : t.accs2 x = t.accs.set (t.ia x) ⟨a.sender, x.seq⟩ := by rw [Tab.accs2, hh, ha]
      rw [e]
      refine ⟨by rw [List.length_set]; exact h.al, fun b hb => ?_, set_pw (R := (· < ·)) (f := AccS.sender) h.sa ha rfl⟩
      rcases List.mem_or_eq_of_mem_set hb with hb | rfl
      · exact h.aa b hb
      · exact ⟨(h.aa a (List.mem_of_getElem? ha)).1, hok.seq⟩
    | false =>
      have e : t.accs2 x = t.accs.take (t.ia x) ++ ⟨x.sender, x.seq⟩ :: t.accs.drop (t.ia x) := by rw [Tab.accs2, hh]
      rw [e]
      refine ⟨?_, fun b hb => ?_, ins_pw (R := fun x y : AccS => x.sender < y.sender) (x := ⟨x.sender, x.seq⟩) (fun a b c h1 h2 => Int.lt_trans h1 h2) h.sa (fun y hy => of_decide_eq_true (take_lt ham y hy)) fun y hy => ?_⟩
      · have : ¬ t.accs.length ≥ 4096 := fun h => hA ⟨hh, h⟩
        rw [List.length_append, List.length_cons, List.length_take, List.length_drop]; omega
      · rcases List.mem_append.1 hb with hb | hb
        · exact h.aa b (List.mem_of_mem_take hb)
        · rcases List.mem_cons.1 hb with rfl | hb
          · exact ⟨hok.sender, hok.seq⟩
          · exact h.aa b (List.mem_of_mem_drop hb)
      · obtain ⟨h1, h2⟩ := at_pos ham hh hy
        have h3 := of_decide_eq_false h1
        have h4 := of_decide_eq_false h2
        show x.sender < y.sender
        omega
  have hprs : (t.prs2 x).length ≤ 4096 ∧ (∀ p ∈ t.prs2 x, (1 ≤ p.key.size ∧ p.key.size ≤ 16) ∧ 1 ≤ p.val.size ∧ p.val.size ≤ 32) ∧ (t.prs2 x).Pairwise fun x y => lessB x.key y.key = true := by
    by_cases hv : x.val.size = 0
    · by_cases hth : t.there x = true
      · have e : t.prs2 x = t.prs.take (t.ip x) ++ t.prs.drop (t.ip x + 1) := by rw [Tab.prs2, if_pos hv, if_pos hth]
        rw [e]
        have hsub : (t.prs.take (t.ip x) ++ t.prs.drop (t.ip x + 1)).Sublist t.prs := by
          rw [← List.eraseIdx_eq_take_drop_succ]
          exact List.eraseIdx_sublist ..
        exact ⟨Nat.le_trans hsub.length_le h.pl, fun p hp => h.pp p (hsub.subset hp), h.ps.sublist hsub⟩
      · have e : t.prs2 x = t.prs := by rw [Tab.prs2, if_pos hv, if_neg hth]
        rw [e]
        exact ⟨h.pl, h.pp, h.ps⟩
    · cases hth : t.there x with
      | true =>
        obtain ⟨a, ha, hae⟩ := fnd_some hth
        replace ha : t.prs[t.ip x]? = some a := ha
        have e : t.prs2 x = t.prs.set (t.ip x) ⟨a.key, x.val⟩ := by rw [Tab.prs2, if_neg hv, hth, ha]
        rw [e]
        refine ⟨by rw [List.length_set]; exact h.pl, fun b hb => ?_, set_pw (R := fun a b => lessB a b = true) (f := PairS.key) h.ps ha rfl⟩
        rcases List.mem_or_eq_of_mem_set hb with hb | rfl
        · exact h.pp b hb
        · exact ⟨(h.pp a (List.mem_of_getElem? ha)).1, by show 1 ≤ x.val.size; omega, hok.val⟩
      | false =>
        have e : t.prs2 x = t.prs.take (t.ip x) ++ ⟨x.key, x.val⟩ :: t.prs.drop (t.ip x) := by rw [Tab.prs2, if_neg hv, hth]
        rw [e]
        refine ⟨?_, fun b hb => ?_, ins_pw (R := fun x y : PairS => lessB x.key y.key = true) (x := ⟨x.key, x.val⟩) (fun a b c h1 h2 => less_trans _ _ _ h1 h2) h.ps (fun y hy => take_lt hpm y hy) fun y hy => ?_⟩
        · have : ¬ t.prs.length ≥ 4096 := fun h => hP ⟨hth, hv, h⟩
          rw [List.length_append, List.length_cons, List.length_take, List.length_drop]; omega
        · rcases List.mem_append.1 hb with hb | hb
          · exact h.pp b (List.mem_of_mem_take hb)
          · rcases List.mem_cons.1 hb with rfl | hb
            · exact ⟨hok.key, by show 1 ≤ x.val.size; omega, hok.val⟩
            · exact h.pp b (List.mem_of_mem_drop hb)
        · obtain ⟨h1, h2⟩ := at_pos hpm hth hy
          exact lessB_tot h1 (of_decide_eq_false h2)
  exact ⟨hprs.1, hacc.1, hprs.2.1, hacc.2.1, hprs.2.2, hacc.2.2⟩
noncomputable def Tab.acts (t : Tab) (l : List Tx) : Tab := l.foldl Tab.act t
theorem Tab.fine.acts {t : Tab} (h : t.fine) : ∀ (l : List Tx), (t.acts l).fine := by
  intro l
  induction l generalizing t with
  | nil => exact h
  | cons x r ih => exact ih (h.act x)
theorem acts_snoc (t : Tab) (l : List Tx) (x : Tx) : t.acts (l ++ [x]) = (t.acts l).act x := by simp [Tab.acts]
theorem all_ok (t : Tab) (ht : t.fine) (b : Bat) (hb : b.txs.length ≤ 1000000) (s : DV) (c : Int) : ACalls Tryz.prog 87 [.ptr 0 0, b.bav] (TL false false t s c) (fun av L => (∃ n : Int, av = .d (.int .i64 n)) ∧ ∃ mp ma, L = TL mp ma (t.acts b.txs) s c) := by
  have hbl := txsD_len b.txs
  (refine acalls_go ttOk zOk foOk Tryz.func87 rfl Tryz.ntmps87 rfl false rfl ?_); (conv => whnf)
  refine loop_go ttOk zOk foOk (σ := Nat × Int × Bool × Bool) (fun q => ([(0, .ptr 0 0), (4, .d (.int .i64 q.2.1)), (8, .d (.sl 4 (txsD b.txs))), (9, .d (.int .i64 b.txs.length)), (10, .d (.int .i64 q.1))], TL q.2.2.1 q.2.2.2 (t.acts (b.txs.take q.1)) s c)) (fun q => q.1 ≤ b.txs.length ∧ 0 ≤ q.2.1 ∧ q.2.1 ≤ q.1) (fun q => b.txs.length - q.1) [0, 4, 8, 9, 10] ?_ ?_
  · conv => whnf
    exact ⟨(0, 0, false, false), by rw [hbl]; rfl, rfl, Nat.zero_le _, Int.le_refl _, Int.le_refl _⟩
  · rintro ⟨j, n, mp, ma⟩ ⟨hj, hn0, hn1⟩
    simp only at hj hn0 hn1
    have hf := ht.acts (b.txs.take j)
    have hs : ∀ x, b.txs[j]? = some x → t.acts (b.txs.take (j + 1)) = (t.acts (b.txs.take j)).act x := fun x hx => by rw [List.take_add_one, hx]; exact acts_snoc ..
    cases mp <;> cases ma
    all_goals
      conv => whnf
      refine rdz ?_; repeat' ((with_reducible apply tw) <;> intro _)
      · rename_i k1
        replace k1 : (j : Int) < b.txs.length := k1
        obtain ⟨x, hx⟩ : ∃ x, b.txs[j]? = some x := ⟨_, List.getElem?_eq_getElem (by omega)⟩
        replace hs := hs x hx
        refine ⟨by omega, _, txsD_at hx, ?_⟩
        conv => whnf
        refine (do_ok (t.acts (b.txs.take j)) hf.ok x s c).mono ?_
        rintro _ _ ⟨⟨r, rfl⟩, mp2, ma2, rfl⟩
        cases r <;> cases mp2 <;> cases ma2
        all_goals
          conv => whnf
          refine rdz ?_; repeat' ((with_reducible apply tw) <;> intro _)
          try (intro z hz; replace hz : z = IntKind.i64.wrap (n + 1) := hz; rw [wrapI (by omega)] at hz; subst hz; conv => whnf)
          try (intro z hz; replace hz : z = IntKind.i64.wrap ((j : Int) + 1) := hz; rw [wrapI (by omega)] at hz; subst hz; conv => whnf)
          first
            | exact ⟨(j + 1, n + 1, false, false), rfl, (by show _ = TL false false (t.acts (b.txs.take (j + 1))) s c; rw [hs]; rfl), ⟨by show j + 1 ≤ _; omega, by show 0 ≤ n + 1; omega, by show n + 1 ≤ ((j + 1 : Nat) : Int); omega⟩, by show b.txs.length - (j + 1) < b.txs.length - j; omega⟩
            | exact ⟨(j + 1, n + 1, false, true), rfl, (by show _ = TL false true (t.acts (b.txs.take (j + 1))) s c; rw [hs]; rfl), ⟨by show j + 1 ≤ _; omega, by show 0 ≤ n + 1; omega, by show n + 1 ≤ ((j + 1 : Nat) : Int); omega⟩, by show b.txs.length - (j + 1) < b.txs.length - j; omega⟩
            | exact ⟨(j + 1, n + 1, true, false), rfl, (by show _ = TL true false (t.acts (b.txs.take (j + 1))) s c; rw [hs]; rfl), ⟨by show j + 1 ≤ _; omega, by show 0 ≤ n + 1; omega, by show n + 1 ≤ ((j + 1 : Nat) : Int); omega⟩, by show b.txs.length - (j + 1) < b.txs.length - j; omega⟩
            | exact ⟨(j + 1, n + 1, true, true), rfl, (by show _ = TL true true (t.acts (b.txs.take (j + 1))) s c; rw [hs]; rfl), ⟨by show j + 1 ≤ _; omega, by show 0 ≤ n + 1; omega, by show n + 1 ≤ ((j + 1 : Nat) : Int); omega⟩, by show b.txs.length - (j + 1) < b.txs.length - j; omega⟩
            | exact ⟨(j + 1, n, false, false), rfl, (by show _ = TL false false (t.acts (b.txs.take (j + 1))) s c; rw [hs]; rfl), ⟨by show j + 1 ≤ _; omega, by show 0 ≤ n; omega, by show n ≤ ((j + 1 : Nat) : Int); omega⟩, by show b.txs.length - (j + 1) < b.txs.length - j; omega⟩
            | exact ⟨(j + 1, n, false, true), rfl, (by show _ = TL false true (t.acts (b.txs.take (j + 1))) s c; rw [hs]; rfl), ⟨by show j + 1 ≤ _; omega, by show 0 ≤ n; omega, by show n ≤ ((j + 1 : Nat) : Int); omega⟩, by show b.txs.length - (j + 1) < b.txs.length - j; omega⟩
            | exact ⟨(j + 1, n, true, false), rfl, (by show _ = TL true false (t.acts (b.txs.take (j + 1))) s c; rw [hs]; rfl), ⟨by show j + 1 ≤ _; omega, by show 0 ≤ n; omega, by show n ≤ ((j + 1 : Nat) : Int); omega⟩, by show b.txs.length - (j + 1) < b.txs.length - j; omega⟩
            | exact ⟨(j + 1, n, true, true), rfl, (by show _ = TL true true (t.acts (b.txs.take (j + 1))) s c; rw [hs]; rfl), ⟨by show j + 1 ≤ _; omega, by show 0 ≤ n; omega, by show n ≤ ((j + 1 : Nat) : Int); omega⟩, by show b.txs.length - (j + 1) < b.txs.length - j; omega⟩
      · rename_i k1
        replace k1 : ¬ (j : Int) < b.txs.length := k1
        obtain rfl : j = b.txs.length := by omega
        refine ⟨⟨_, rfl⟩, ?_⟩
        first
          | exact ⟨false, false, by rw [List.take_length]; rfl⟩
          | exact ⟨true, false, by rw [List.take_length]; rfl⟩
          | exact ⟨false, true, by rw [List.take_length]; rfl⟩
          | exact ⟨true, true, by rw [List.take_length]; rfl⟩
end Go.Proofs.YtmmngmnmghpfaaaGreat
