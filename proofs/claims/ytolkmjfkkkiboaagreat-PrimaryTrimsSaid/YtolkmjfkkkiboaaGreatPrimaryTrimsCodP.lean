/- PrimaryTrims: contracts. -/
import Derived.Test.YtolkmjfkkkiboaaGreatPrimaryTrimsCodO
set_option linter.unusedVariables false
set_option linter.unusedSimpArgs false
namespace Go.Proofs.YtolkmjfkkkiboaaGreat
open Go.Ab Go.RowKit Go.MapKept
attribute [local irreducible] ACalls AW ADraw Into fltB fnear
set_option maxRecDepth 100000
def overC (low : Int) (l : List Cert) : List Cert := l.filter fun c => decide (c.round > low)
theorem over_snoc {low : Int} {l : List Cert} {j : Nat} {c : Cert} (hc : l[j]? = some c) : overC low (l.take (j + 1)) = if c.round > low then overC low (l.take j) ++ [c] else overC low (l.take j) := by
  unfold overC
  rw [List.take_add_one, hc, List.filter_append]
  show _ ++ List.filter _ [c] = _
  by_cases h1 : c.round > low
  · rw [if_pos h1, List.filter_cons, if_pos (by simpa using h1)]; rfl
  · rw [if_neg h1, List.filter_cons, if_neg (by simpa using h1), List.filter_nil, List.append_nil]
theorem over_all {low : Int} {l : List Cert} (h : ∀ c ∈ l, c.round > low) : overC low l = l := List.filter_eq_self.2 fun c hc => by simpa using h c hc
theorem over_len (low : Int) (l : List Cert) : (overC low l).length ≤ l.length := List.length_filter_le ..
def delR (low : Int) (l : List Cert) (j : Nat) : List Cert := overC low (l.take j) ++ l.drop (overC low (l.take j)).length
theorem trimf_ok (c : Cert) (low : Int) : ACalls Tryz.prog 105 [c.av, .ptr 0 0] [.cells [.d (.int .i64 low)]] (fun av L => av = .d (.bool (decide (c.round ≤ low))) ∧ L = [.cells [.d (.int .i64 low)]]) := by
  (refine acalls_go ttOk zOk foOk Tryz.func105 rfl Tryz.ntmps105 rfl false rfl ?_); (conv => whnf)
  refine rdz ?_; repeat' ((with_reducible apply tw) <;> intro _)
  exact ⟨rfl, rfl⟩
theorem indexT_ok (l : List Cert) (hl : few l) (low : Int) : ACalls Tryz.prog 157 [.arr 0, .fn 105 [.ptr 1 0]] [.row 47 6 (certsD l) false, .cells [.d (.int .i64 low)]]
    (fun av L => ((av = .d (.int .i64 (-1)) ∧ ∀ c ∈ l, c.round > low) ∨ ∃ k : Nat, av = .d (.int .i64 k) ∧ (∃ c, l[k]? = some c ∧ c.round ≤ low) ∧ ∀ c ∈ l.take k, c.round > low) ∧ L = [.row 47 6 (certsD l) false, .cells [.d (.int .i64 low)]]) := by
  have hll := certsD_length l
  unfold few at hl
  (refine acalls_go ttOk zOk foOk Tryz.func157 rfl Tryz.ntmps157 rfl false rfl ?_); (conv => whnf)
  refine loop_go ttOk zOk foOk (σ := Nat) (fun j => ([(0, .arr 0), (1, .fn 105 [.ptr 1 0]), (7, .d (.int .i64 l.length)), (8, .d (.int .i64 j))], [.row 47 6 (certsD l) false, .cells [.d (.int .i64 low)]])) (fun j => j ≤ l.length ∧ ∀ c ∈ l.take j, c.round > low) (fun j => l.length - j) [0, 1, 7, 8] ?_ ?_
  · conv => whnf
    exact ⟨0, by rw [hll]; rfl, rfl, Nat.zero_le _, by simp⟩
  · rintro j ⟨h1, h2⟩
    conv => whnf
    refine rdz ?_; repeat' ((with_reducible apply tw) <;> intro _)
    · rename_i h
      replace h : (j : Int) < l.length := h
      refine Exists.elim (⟨_, List.getElem?_eq_getElem (by omega)⟩ : ∃ c, l[j]? = some c) fun c hc => ?_
      refine ⟨by omega, by omega, ?_⟩
      conv => whnf
      refine ⟨c.cs, certsD_at hc, ?_⟩
      conv => whnf
      refine rdz ?_; repeat' ((with_reducible apply tw) <;> intro _)
      refine (trimf_ok c low).mono ?_
      rintro _ _ ⟨rfl, rfl⟩
      by_cases hr : c.round ≤ low
      · rw [decide_eq_true hr]
        conv => whnf
        refine rdz ?_; repeat' ((with_reducible apply tw) <;> intro _)
        exact ⟨.inr ⟨j, rfl, ⟨c, hc, hr⟩, h2⟩, rfl⟩
      · rw [decide_eq_false hr]
        conv => whnf
        refine rdz ?_; repeat' ((with_reducible apply tw) <;> intro _)
        refine ⟨j + 1, rfl, rfl, ⟨by omega, fun x hx => ?_⟩, by omega⟩
        rw [List.take_add_one, hc] at hx
        rcases List.mem_append.1 hx with hx | hx
        · exact h2 x hx
        · simp at hx; subst hx; omega
    · rename_i h
      replace h : ¬ (j : Int) < l.length := h
      rw [List.take_of_length_le (by omega)] at h2
      exact ⟨.inl ⟨rfl, h2⟩, rfl⟩
def certZ : List DV := [.int .i64 0, .int .i64 0, .nils, .nils, .int .i64 0, .nils]
theorem certZ_ok (rd : Addr → Value → Prop) : VDs rd certZ [.int .i64 0, .int .i64 0, .slice none 0 0, .slice none 0 0, .int .i64 0, .slice none 0 0] := by
  unfold VDs certZ
  simp only [Cs, VD]
  exact ⟨_, _, rfl, rfl, rfl, _, _, rfl, rfl, rfl, _, _, rfl, rfl, rfl, _, _, rfl, rfl, rfl, _, _, rfl, rfl, rfl, _, _, rfl, rfl, rfl, rfl⟩
theorem del_at {low : Int} {l : List Cert} {j : Nat} (hj : j ≤ l.length) : (overC low (l.take j)).length ≤ j := Nat.le_trans (over_len ..) (List.length_take_le ..)
theorem delR_len {low : Int} {l : List Cert} {j : Nat} (hj : j ≤ l.length) : (delR low l j).length = l.length := by
  have := del_at (low := low) hj
  unfold delR
  rw [List.length_append, List.length_drop]
  omega
theorem delR_get {low : Int} {l : List Cert} {j : Nat} {c : Cert} (hc : l[j]? = some c) : (delR low l j)[j]? = some c := by
  have hj := (List.getElem?_eq_some_iff.1 hc).1
  have := del_at (low := low) (Nat.le_of_lt hj)
  unfold delR
  rw [List.getElem?_append_right (by omega), List.getElem?_drop, ← hc]
  congr 1
  omega
theorem delR_set {low : Int} {l : List Cert} {j : Nat} {c : Cert} (hc : l[j]? = some c) (hr : c.round > low) : (delR low l j).set (overC low (l.take j)).length c = delR low l (j + 1) := by
  have hj := (List.getElem?_eq_some_iff.1 hc).1
  have := del_at (low := low) (Nat.le_of_lt hj)
  unfold delR
  rw [over_snoc hc, if_pos hr, List.set_append_right _ _ (Nat.le_refl _), Nat.sub_self, List.drop_eq_getElem_cons (by omega), List.set_cons_zero, List.length_append, List.length_singleton, List.append_assoc]
  rfl
theorem delR_skip {low : Int} {l : List Cert} {j : Nat} {c : Cert} (hc : l[j]? = some c) (hr : ¬ c.round > low) : delR low l j = delR low l (j + 1) := by
  unfold delR
  rw [over_snoc hc, if_neg hr]
theorem delR_all {low : Int} {l : List Cert} {k : Nat} (h : ∀ c ∈ l.take k, c.round > low) (hk : k ≤ l.length) : overC low (l.take k) = l.take k ∧ delR low l k = l := by
  have h1 := over_all h
  refine ⟨h1, ?_⟩
  unfold delR
  rw [h1, List.length_take, Nat.min_eq_left hk, List.take_append_drop]
def deS (low : Int) (l : List Cert) (j : Nat) : AF × List AB := ([(0, .arr 0), (1, .fn 105 [.ptr 1 0]), (5, .d (.int .i64 (overC low (l.take j)).length)), (6, .d (.int .i64 j))], [.row 47 6 (certsD (delR low l j)) false, .cells [.d (.int .i64 low)]])
set_option maxHeartbeats 4000000 in
theorem deleteT_ok (l : List Cert) (hl : l.length ≤ 1000000) (low : Int) : ACalls Tryz.prog 104 [.arr 0, .fn 105 [.ptr 1 0]] [.row 47 6 (certsD l) false, .cells [.d (.int .i64 low)]]
    (fun av L => (av = .arr 0 ∧ overC low l = l ∧ L = [.row 47 6 (certsD l) false, .cells [.d (.int .i64 low)]]) ∨ ∃ xs, av = .d (.sl 6 (certsD (overC low l))) ∧ L = [.row 47 6 xs true, .cells [.d (.int .i64 low)]]) := by
  refine acalls_cut ttOk zOk foOk 4 Tryz.func104 rfl Tryz.ntmps104 rfl true rfl ?_
  conv => whnf
  refine rdz ?_; repeat' ((with_reducible apply tw) <;> intro _)
  (refine Or.inr ?_; (conv => whnf))
  refine (indexT_ok l (by unfold few; omega) low).mono ?_
  rintro _ _ ⟨⟨rfl, hall⟩ | ⟨k, rfl, ⟨c, hc, hr⟩, hall⟩, rfl⟩
  · conv => whnf
    refine rdz ?_; repeat' ((with_reducible apply tw) <;> intro _)
    exact .inl ⟨rfl, over_all hall, rfl⟩
  · have hk := (List.getElem?_eq_some_iff.1 hc).1
    conv => whnf
    refine rdz ?_; repeat' ((with_reducible apply tw) <;> intro _)
    obtain ⟨d1, d2⟩ := delR_all hall (Nat.le_of_lt hk)
    have dk : (overC low (l.take k)).length = k := by rw [d1, List.length_take]; omega
    refine loop_go ttOk zOk foOk (σ := Nat) (deS low l) (fun j => j ≤ l.length) (fun j => l.length - j) [0, 1, 5, 6] ?_ ?_
    · conv => whnf
      refine ⟨k + 1, ?_, ?_, by omega⟩
      · simp only [deS]
        rw [over_snoc hc, if_neg (by omega), dk]
        rfl
      · simp only [deS]
        rw [← delR_skip hc (by omega), d2]
    · intro j hj
      have hdl := delR_len (low := low) hj
      have hcl := certsD_length (delR low l j)
      have hat := del_at (low := low) hj
      conv => whnf
      refine rdz ?_; repeat' ((with_reducible apply tw) <;> intro _)
      · rename_i h
        replace h : (j : Int) < ((certsD (delR low l j)).length : Int) := h
        refine Exists.elim (⟨_, List.getElem?_eq_getElem (by omega)⟩ : ∃ c, l[j]? = some c) fun y hy => ?_
        have hgy := delR_get (low := low) hy
        refine ⟨by omega, by omega, ?_⟩
        conv => whnf
        refine ⟨y.cs, certsD_at hgy, ?_⟩
        conv => whnf
        refine rdz ?_; repeat' ((with_reducible apply tw) <;> intro _)
        refine (trimf_ok y low).mono ?_
        rintro _ _ ⟨rfl, rfl⟩
        by_cases hyr : y.round ≤ low
        · rw [decide_eq_true hyr]
          conv => whnf
          refine rdz ?_; repeat' ((with_reducible apply tw) <;> intro _)
          refine ⟨j + 1, ?_, ?_, (show j + 1 ≤ l.length by omega), (show l.length - (j + 1) < l.length - j by omega)⟩
          · simp only [deS]
            rw [over_snoc hy, if_neg (by omega)]
            rfl
          · simp only [deS]
            rw [← delR_skip hy (by omega)]
        · rw [decide_eq_false hyr]
          conv => whnf
          refine rdz ?_; repeat' ((with_reducible apply tw) <;> intro _)
          refine ⟨by omega, by omega, ?_⟩
          conv => whnf
          refine Exists.elim (⟨_, List.getElem?_eq_getElem (by omega)⟩ : ∃ z, (delR low l j)[(overC low (l.take j)).length]? = some z) fun z hz => ?_
          refine ⟨z.cs, certsD_at hz, ?_⟩
          conv => whnf
          refine rdz ?_; repeat' ((with_reducible apply tw) <;> intro _)
          have hst := delR_set (low := low) hy (by omega)
          have hsn := over_snoc (low := low) hy
          rw [if_pos (by omega)] at hsn
          have hsl : (overC low (l.take (j + 1))).length = (overC low (l.take j)).length + 1 := by rw [hsn, List.length_append, List.length_singleton]
          refine ⟨j + 1, ?_, ?_, (show j + 1 ≤ l.length by omega), (show l.length - (j + 1) < l.length - j by omega)⟩
          · simp only [deS]
            rw [hsl]
            rfl
          · simp only [deS]
            rw [← hst]
            simp [certsD, Cert.cs]
      · rename_i h
        replace h : ¬ (j : Int) < ((certsD (delR low l j)).length : Int) := h
        obtain rfl : j = l.length := by omega
        rw [List.take_length] at hat
        refine aw_seq (aw_clear ttOk zOk foOk (i := 0) (k := (overC low l).length) rfl rfl (by rw [hcl, hdl]; exact over_len ..) rfl rfl rfl rfl (fun x hx => by cases hx; decide) (fun x hx => by cases hx; decide) rfl (by decide) rfl (by (conv => whnf); exact ⟨rfl, rfl⟩) (by (conv => whnf); exact ⟨by rw [List.take_length], rfl⟩) rfl rfl rfl rfl rfl rfl rfl rfl certZ rfl (fun rd => by have h := certZ_ok rd; simpa [VDs, Cs, certZ, VD, Value.cells] using h) ⟨rfl, ?_⟩)
        refine AW_go ttOk zOk foOk ?_
        conv => whnf
        have e1 : delR low l l.length = overC low l ++ l.drop (overC low l).length := by unfold delR; rw [List.take_length]
        have e2 : (certsD (delR low l l.length)).take (overC low l).length = certsD (overC low l) := by
          rw [e1]
          simp [certsD]
        (refine Or.inl ?_; (conv => whnf))
        refine ⟨by omega, by omega, ?_, ?_⟩
        · rw [e2, List.length_append, List.length_replicate, certsD_length, certsD_length, hdl, List.take_length]
          omega
        · conv => whnf
          refine ⟨.inl rfl, .inr ⟨_, ?_, rfl⟩⟩
          rw [e2, List.take_length, show ((overC low l).length : Int).toNat = (certsD (overC low l)).length by rw [certsD_length]; rfl, List.take_left' rfl]
          rfl
def overV (low : Int) (l : List Vote) : List Vote := l.filter fun c => decide (c.round > low)
theorem overV_snoc {low : Int} {l : List Vote} {j : Nat} {c : Vote} (hc : l[j]? = some c) : overV low (l.take (j + 1)) = if c.round > low then overV low (l.take j) ++ [c] else overV low (l.take j) := by
  unfold overV
  rw [List.take_add_one, hc, List.filter_append]
  show _ ++ List.filter _ [c] = _
  by_cases h1 : c.round > low
  · rw [if_pos h1, List.filter_cons, if_pos (by simpa using h1)]; rfl
  · rw [if_neg h1, List.filter_cons, if_neg (by simpa using h1), List.filter_nil, List.append_nil]
theorem overV_all {low : Int} {l : List Vote} (h : ∀ c ∈ l, c.round > low) : overV low l = l := List.filter_eq_self.2 fun c hc => by simpa using h c hc
theorem overV_len (low : Int) (l : List Vote) : (overV low l).length ≤ l.length := List.length_filter_le ..
def delV (low : Int) (l : List Vote) (j : Nat) : List Vote := overV low (l.take j) ++ l.drop (overV low (l.take j)).length
theorem cutf_ok (c : Vote) (low : Int) : ACalls Tryz.prog 156 [.agg (c.cs.map AV.d), .ptr 0 0] [.cells [.d (.int .i64 low)]] (fun av L => av = .d (.bool (decide (c.round ≤ low))) ∧ L = [.cells [.d (.int .i64 low)]]) := by
  (refine acalls_go ttOk zOk foOk Tryz.func156 rfl Tryz.ntmps156 rfl false rfl ?_); (conv => whnf)
  refine rdz ?_; repeat' ((with_reducible apply tw) <;> intro _)
  exact ⟨rfl, rfl⟩
theorem indexV_ok (l : List Vote) (hl : few l) (low : Int) : ACalls Tryz.prog 192 [.arr 0, .fn 156 [.ptr 1 0]] [.row 106 3 (votesD l) false, .cells [.d (.int .i64 low)]]
    (fun av L => ((av = .d (.int .i64 (-1)) ∧ ∀ c ∈ l, c.round > low) ∨ ∃ k : Nat, av = .d (.int .i64 k) ∧ (∃ c, l[k]? = some c ∧ c.round ≤ low) ∧ ∀ c ∈ l.take k, c.round > low) ∧ L = [.row 106 3 (votesD l) false, .cells [.d (.int .i64 low)]]) := by
  have hll := votesD_length l
  unfold few at hl
  (refine acalls_go ttOk zOk foOk Tryz.func192 rfl Tryz.ntmps192 rfl false rfl ?_); (conv => whnf)
  refine loop_go ttOk zOk foOk (σ := Nat) (fun j => ([(0, .arr 0), (1, .fn 156 [.ptr 1 0]), (7, .d (.int .i64 l.length)), (8, .d (.int .i64 j))], [.row 106 3 (votesD l) false, .cells [.d (.int .i64 low)]])) (fun j => j ≤ l.length ∧ ∀ c ∈ l.take j, c.round > low) (fun j => l.length - j) [0, 1, 7, 8] ?_ ?_
  · conv => whnf
    exact ⟨0, by rw [hll]; rfl, rfl, Nat.zero_le _, by simp⟩
  · rintro j ⟨h1, h2⟩
    conv => whnf
    refine rdz ?_; repeat' ((with_reducible apply tw) <;> intro _)
    · rename_i h
      replace h : (j : Int) < l.length := h
      refine Exists.elim (⟨_, List.getElem?_eq_getElem (by omega)⟩ : ∃ c, l[j]? = some c) fun c hc => ?_
      refine ⟨by omega, by omega, ?_⟩
      conv => whnf
      refine ⟨c.cs, votesD_at hc, ?_⟩
      conv => whnf
      refine rdz ?_; repeat' ((with_reducible apply tw) <;> intro _)
      refine (cutf_ok c low).mono ?_
      rintro _ _ ⟨rfl, rfl⟩
      by_cases hr : c.round ≤ low
      · rw [decide_eq_true hr]
        conv => whnf
        refine rdz ?_; repeat' ((with_reducible apply tw) <;> intro _)
        exact ⟨.inr ⟨j, rfl, ⟨c, hc, hr⟩, h2⟩, rfl⟩
      · rw [decide_eq_false hr]
        conv => whnf
        refine rdz ?_; repeat' ((with_reducible apply tw) <;> intro _)
        refine ⟨j + 1, rfl, rfl, ⟨by omega, fun x hx => ?_⟩, by omega⟩
        rw [List.take_add_one, hc] at hx
        rcases List.mem_append.1 hx with hx | hx
        · exact h2 x hx
        · simp at hx; subst hx; omega
    · rename_i h
      replace h : ¬ (j : Int) < l.length := h
      rw [List.take_of_length_le (by omega)] at h2
      exact ⟨.inl ⟨rfl, h2⟩, rfl⟩
def voteZ : List DV := [.int .i64 0, .int .i64 0, .int .i64 0]
theorem voteZ_ok (rd : Addr → Value → Prop) : VDs rd voteZ [.int .i64 0, .int .i64 0, .int .i64 0] := by
  unfold VDs voteZ
  simp only [Cs, VD]
  exact ⟨_, _, rfl, rfl, rfl, _, _, rfl, rfl, rfl, _, _, rfl, rfl, rfl, rfl⟩
theorem delV_at {low : Int} {l : List Vote} {j : Nat} (hj : j ≤ l.length) : (overV low (l.take j)).length ≤ j := Nat.le_trans (overV_len ..) (List.length_take_le ..)
theorem delV_len {low : Int} {l : List Vote} {j : Nat} (hj : j ≤ l.length) : (delV low l j).length = l.length := by
  have := delV_at (low := low) hj
  unfold delV
  rw [List.length_append, List.length_drop]
  omega
theorem delV_get {low : Int} {l : List Vote} {j : Nat} {c : Vote} (hc : l[j]? = some c) : (delV low l j)[j]? = some c := by
  have hj := (List.getElem?_eq_some_iff.1 hc).1
  have := delV_at (low := low) (Nat.le_of_lt hj)
  unfold delV
  rw [List.getElem?_append_right (by omega), List.getElem?_drop, ← hc]
  congr 1
  omega
theorem delV_set {low : Int} {l : List Vote} {j : Nat} {c : Vote} (hc : l[j]? = some c) (hr : c.round > low) : (delV low l j).set (overV low (l.take j)).length c = delV low l (j + 1) := by
  have hj := (List.getElem?_eq_some_iff.1 hc).1
  have := delV_at (low := low) (Nat.le_of_lt hj)
  unfold delV
  rw [overV_snoc hc, if_pos hr, List.set_append_right _ _ (Nat.le_refl _), Nat.sub_self, List.drop_eq_getElem_cons (by omega), List.set_cons_zero, List.length_append, List.length_singleton, List.append_assoc]
  rfl
theorem delV_skip {low : Int} {l : List Vote} {j : Nat} {c : Vote} (hc : l[j]? = some c) (hr : ¬ c.round > low) : delV low l j = delV low l (j + 1) := by
  unfold delV
  rw [overV_snoc hc, if_neg hr]
theorem delV_all {low : Int} {l : List Vote} {k : Nat} (h : ∀ c ∈ l.take k, c.round > low) (hk : k ≤ l.length) : overV low (l.take k) = l.take k ∧ delV low l k = l := by
  have h1 := overV_all h
  refine ⟨h1, ?_⟩
  unfold delV
  rw [h1, List.length_take, Nat.min_eq_left hk, List.take_append_drop]
def deV (low : Int) (l : List Vote) (j : Nat) : AF × List AB := ([(0, .arr 0), (1, .fn 156 [.ptr 1 0]), (5, .d (.int .i64 (overV low (l.take j)).length)), (6, .d (.int .i64 j))], [.row 106 3 (votesD (delV low l j)) false, .cells [.d (.int .i64 low)]])
set_option maxHeartbeats 4000000 in
theorem deleteV_ok (l : List Vote) (hl : l.length ≤ 1000000) (low : Int) : ACalls Tryz.prog 155 [.arr 0, .fn 156 [.ptr 1 0]] [.row 106 3 (votesD l) false, .cells [.d (.int .i64 low)]]
    (fun av L => (av = .arr 0 ∧ overV low l = l ∧ L = [.row 106 3 (votesD l) false, .cells [.d (.int .i64 low)]]) ∨ ∃ xs, av = .d (.sl 3 (votesD (overV low l))) ∧ L = [.row 106 3 xs true, .cells [.d (.int .i64 low)]]) := by
  refine acalls_cut ttOk zOk foOk 4 Tryz.func155 rfl Tryz.ntmps155 rfl true rfl ?_
  conv => whnf
  refine rdz ?_; repeat' ((with_reducible apply tw) <;> intro _)
  (refine Or.inr ?_; (conv => whnf))
  refine (indexV_ok l (by unfold few; omega) low).mono ?_
  rintro _ _ ⟨⟨rfl, hall⟩ | ⟨k, rfl, ⟨c, hc, hr⟩, hall⟩, rfl⟩
  · conv => whnf
    refine rdz ?_; repeat' ((with_reducible apply tw) <;> intro _)
    exact .inl ⟨rfl, overV_all hall, rfl⟩
  · have hk := (List.getElem?_eq_some_iff.1 hc).1
    conv => whnf
    refine rdz ?_; repeat' ((with_reducible apply tw) <;> intro _)
    obtain ⟨d1, d2⟩ := delV_all hall (Nat.le_of_lt hk)
    have dk : (overV low (l.take k)).length = k := by rw [d1, List.length_take]; omega
    refine loop_go ttOk zOk foOk (σ := Nat) (deV low l) (fun j => j ≤ l.length) (fun j => l.length - j) [0, 1, 5, 6] ?_ ?_
    · conv => whnf
      refine ⟨k + 1, ?_, ?_, by omega⟩
      · simp only [deV]
        rw [overV_snoc hc, if_neg (by omega), dk]
        rfl
      · simp only [deV]
        rw [← delV_skip hc (by omega), d2]
    · intro j hj
      have hdl := delV_len (low := low) hj
      have hcl := votesD_length (delV low l j)
      have hat := delV_at (low := low) hj
      conv => whnf
      refine rdz ?_; repeat' ((with_reducible apply tw) <;> intro _)
      · rename_i h
        replace h : (j : Int) < ((votesD (delV low l j)).length : Int) := h
        refine Exists.elim (⟨_, List.getElem?_eq_getElem (by omega)⟩ : ∃ c, l[j]? = some c) fun y hy => ?_
        have hgy := delV_get (low := low) hy
        refine ⟨by omega, by omega, ?_⟩
        conv => whnf
        refine ⟨y.cs, votesD_at hgy, ?_⟩
        conv => whnf
        refine rdz ?_; repeat' ((with_reducible apply tw) <;> intro _)
        refine (cutf_ok y low).mono ?_
        rintro _ _ ⟨rfl, rfl⟩
        by_cases hyr : y.round ≤ low
        · rw [decide_eq_true hyr]
          conv => whnf
          refine rdz ?_; repeat' ((with_reducible apply tw) <;> intro _)
          refine ⟨j + 1, ?_, ?_, (show j + 1 ≤ l.length by omega), (show l.length - (j + 1) < l.length - j by omega)⟩
          · simp only [deV]
            rw [overV_snoc hy, if_neg (by omega)]
            rfl
          · simp only [deV]
            rw [← delV_skip hy (by omega)]
        · rw [decide_eq_false hyr]
          conv => whnf
          refine rdz ?_; repeat' ((with_reducible apply tw) <;> intro _)
          refine ⟨by omega, by omega, ?_⟩
          conv => whnf
          refine Exists.elim (⟨_, List.getElem?_eq_getElem (by omega)⟩ : ∃ z, (delV low l j)[(overV low (l.take j)).length]? = some z) fun z hz => ?_
          refine ⟨z.cs, votesD_at hz, ?_⟩
          conv => whnf
          refine rdz ?_; repeat' ((with_reducible apply tw) <;> intro _)
          have hst := delV_set (low := low) hy (by omega)
          have hsn := overV_snoc (low := low) hy
          rw [if_pos (by omega)] at hsn
          have hsl : (overV low (l.take (j + 1))).length = (overV low (l.take j)).length + 1 := by rw [hsn, List.length_append, List.length_singleton]
          refine ⟨j + 1, ?_, ?_, (show j + 1 ≤ l.length by omega), (show l.length - (j + 1) < l.length - j by omega)⟩
          · simp only [deV]
            rw [hsl]
            rfl
          · simp only [deV]
            rw [← hst]
            simp [votesD, Vote.cs]
      · rename_i h
        replace h : ¬ (j : Int) < ((votesD (delV low l j)).length : Int) := h
        obtain rfl : j = l.length := by omega
        rw [List.take_length] at hat
        refine aw_seq (aw_clear ttOk zOk foOk (i := 0) (k := (overV low l).length) rfl rfl (by rw [hcl, hdl]; exact overV_len ..) rfl rfl rfl rfl (fun x hx => by cases hx; decide) (fun x hx => by cases hx; decide) rfl (by decide) rfl (by (conv => whnf); exact ⟨rfl, rfl⟩) (by (conv => whnf); exact ⟨by rw [List.take_length], rfl⟩) rfl rfl rfl rfl rfl rfl rfl rfl voteZ rfl (fun rd => by have h := voteZ_ok rd; simpa [VDs, Cs, voteZ, VD, Value.cells] using h) ⟨rfl, ?_⟩)
        refine AW_go ttOk zOk foOk ?_
        conv => whnf
        have e1 : delV low l l.length = overV low l ++ l.drop (overV low l).length := by unfold delV; rw [List.take_length]
        have e2 : (votesD (delV low l l.length)).take (overV low l).length = votesD (overV low l) := by
          rw [e1]
          simp [votesD]
        (refine Or.inl ?_; (conv => whnf))
        refine ⟨by omega, by omega, ?_, ?_⟩
        · rw [e2, List.length_append, List.length_replicate, votesD_length, votesD_length, hdl, List.take_length]
          omega
        · conv => whnf
          refine ⟨.inl rfl, .inr ⟨_, ?_, rfl⟩⟩
          rw [e2, List.take_length, show ((overV low l).length : Int).toNat = (votesD (overV low l)).length by rw [votesD_length]; rfl, List.take_left' rfl]
          rfl
def Cert.cso (c : Cert) : List DV := [.int .i64 c.author, .int .i64 c.round, .slo 1 (nums c.bats), .slo 1 (nums c.pars), .int .i64 c.digest, .slo 1 (nums c.sigs)]
def certsDo (l : List Cert) : List (List DV) := l.map Cert.cso
theorem certsDo_length (l : List Cert) : (certsDo l).length = l.length := List.length_map ..
theorem certsDo_at {l : List Cert} {k : Nat} {a : Cert} (h : l[k]? = some a) : (certsDo l)[k]? = some a.cso := by simp [certsDo, h]
def Cert.havo (c : Cert) : AV := .agg [.d (.int .i64 c.author), .d (.int .i64 c.round), .d (.slo 1 (nums c.bats)), .d (.slo 1 (nums c.pars))]
def Cert.avo (c : Cert) : AV := .agg (c.cso.map AV.d)
def Dag.avo (d : Dag) : AV := .agg [.d (.int .i64 d.nodes), .d (.int .i64 d.low), .d (.slo 6 (certsDo d.certs))]
def Prim.cso (p : Prim) : List DV := [.int .i64 p.id, .int .i64 p.nodes, .int .i64 p.round, .int .i64 p.age, .int .i64 p.said, .int .i64 p.mine.author, .int .i64 p.mine.round, .slo 1 (nums p.mine.bats), .slo 1 (nums p.mine.pars), .int .i64 p.dig, .slo 1 (nums p.acks), .slo 3 (votesD p.votes), .int .i64 p.dag.nodes, .int .i64 p.dag.low, .slo 6 (certsDo p.dag.certs), .slo 6 (certsDo p.late)]
def Prim.avo (p : Prim) : AV := .agg (p.cso.map AV.d)
theorem dn_int (n : Int) : DnD (.int .i64 n) (.int .i64 n) := .flat (flat_int _ _)
theorem dnE_nums (l : List Int) : DnE (nums l) (nums l) := DnE.map (f := fun x => [.int .i64 x]) (fun _ => .cons (dn_int _) .nil) l
theorem dnE_votes (l : List Vote) : DnE (votesD l) (votesD l) := DnE.map (fun _ => .cons (dn_int _) (.cons (dn_int _) (.cons (dn_int _) .nil))) l
theorem dn_nums (l : List Int) : DnD (.sl 1 (nums l)) (.slo 1 (nums l)) := .sl (dnE_nums l)
theorem dns_cert (c : Cert) : Dns c.cs c.cso := .cons (dn_int _) (.cons (dn_int _) (.cons (dn_nums _) (.cons (dn_nums _) (.cons (dn_int _) (.cons (dn_nums _) .nil)))))
theorem dn_certs (l : List Cert) : DnD (.sl 6 (certsD l)) (.slo 6 (certsDo l)) := .sl (DnE.map dns_cert l)
theorem up_nums (l : List Int) : UpD (.slo 1 (nums l)) (.sl 1 (nums l)) := .slo (.refl _)
theorem ups_cert (c : Cert) : Ups c.cso c.cs := .cons (.refl _) (.cons (.refl _) (.cons (up_nums _) (.cons (up_nums _) (.cons (.refl _) (.cons (up_nums _) .nil)))))
theorem up_certs (l : List Cert) : UpD (.slo 6 (certsDo l)) (.sl 6 (certsD l)) := .slo (UpE.map ups_cert l)
theorem l1_up {L : List AB} {y y' : DV} (h : UpD y y') : lend1 L (.d y) (.d y') := .inr (.inr (.inr (.inr (.inl ⟨_, _, rfl, rfl, h⟩))))
theorem lendS_c {L : List AB} {a b : AV} {r r' : List AV} (h : lend1 L a b) (k : lendS L r r') : lendS L (a :: r) (b :: r') := ⟨_, _, rfl, h, k⟩
theorem lendS_n {L : List AB} : lendS L [] [] := rfl
theorem l1_int {L : List AB} (n : Int) : lend1 L (.d (.int .i64 n)) (.d (.int .i64 n)) := .inl ⟨_, rfl, rfl⟩
theorem lend_avo (p : Prim) : lend2 [] p.avo p.av := .inr ⟨_, _, rfl, rfl, lendS_c (l1_int _) (lendS_c (l1_int _) (lendS_c (l1_int _) (lendS_c (l1_int _) (lendS_c (l1_int _) (lendS_c (l1_int _) (lendS_c (l1_int _) (lendS_c (l1_up (up_nums _)) (lendS_c (l1_up (up_nums _)) (lendS_c (l1_int _) (lendS_c (l1_up (up_nums _)) (lendS_c (l1_up (.slo (.refl _))) (lendS_c (l1_int _) (lendS_c (l1_int _) (lendS_c (l1_up (up_certs _)) (lendS_c (l1_up (up_certs _)) lendS_n)))))))))))))))⟩
theorem lo_int {L : List AB} (n : Int) : lendO1 L (.d (.int .i64 n)) (.d (.int .i64 n)) := .inl ⟨_, _, rfl, rfl, dn_int n⟩
theorem lo_dn {L : List AB} {y y' : DV} (h : DnD y y') : lendO1 L (.d y) (.d y') := .inl ⟨_, _, rfl, rfl, h⟩
theorem lendO_prim (L : List AB) (p : Prim) : lendO2 L p.av p.avo := .inr ⟨_, _, rfl, rfl, .cons (lo_int _) (.cons (lo_int _) (.cons (lo_int _) (.cons (lo_int _) (.cons (lo_int _) (.cons (lo_int _) (.cons (lo_int _) (.cons (lo_dn (dn_nums _)) (.cons (lo_dn (dn_nums _)) (.cons (lo_int _) (.cons (lo_dn (dn_nums _)) (.cons (lo_dn (.sl (dnE_votes _))) (.cons (lo_int _) (.cons (lo_int _) (.cons (lo_dn (dn_certs _)) (.cons (lo_dn (dn_certs _)) .nil)))))))))))))))⟩
theorem cloneIO_row (l : List Int) (hl : l.length ≤ 1099511627776) : ACalls Tryz.prog 143 [.d (.slo 1 (nums l))] [] (fun av L => av = .arr 0 ∧ L = [.row 3 1 (nums l) false]) := by
  have hll := nums_length l
  (refine acalls_go ttOk zOk foOk Tryz.func143 rfl Tryz.ntmps143 rfl true rfl ?_); (conv => whnf)
  intro b hb
  conv => whnf
  refine rdw ?_; repeat' ((with_reducible apply tw) <;> intro _)
  · rename_i h
    have : l = [] := by simpa [nums] using hb h
    subst this
    exact ⟨rfl, rfl⟩
  · rename_i h
    refine ⟨by rw [hll]; show (0 + l.length) * 8 ≤ _; omega, ?_⟩
    conv => whnf
    exact ⟨rfl, rfl⟩
theorem cloneVO_row (l : List Vote) (hl : l.length ≤ 1099511627776) : ACalls Tryz.prog 147 [.d (.slo 3 (votesD l))] [] (fun av L => av = .arr 0 ∧ L = [.row 106 3 (votesD l) false]) := by
  have hll := votesD_length l
  (refine acalls_go ttOk zOk foOk Tryz.func147 rfl Tryz.ntmps147 rfl true rfl ?_); (conv => whnf)
  intro b hb
  conv => whnf
  refine rdw ?_; repeat' ((with_reducible apply tw) <;> intro _)
  · rename_i h
    have : l = [] := by simpa [votesD] using hb h
    subst this
    exact ⟨rfl, rfl⟩
  · rename_i h
    refine ⟨by rw [hll]; show (0 + l.length) * 24 ≤ _; omega, ?_⟩
    conv => whnf
    exact ⟨rfl, rfl⟩
theorem ownO_row (c : Cert) (h : c.tiny) : ACalls Tryz.prog 144 [c.havo] [] (fun av L => av = .agg [.d (.int .i64 c.author), .d (.int .i64 c.round), .arr 0, .arr 1] ∧ L = [.row 3 1 (nums c.bats) false, .row 3 1 (nums c.pars) false]) := by
  (refine acalls_go ttOk zOk foOk Tryz.func144 rfl Tryz.ntmps144 rfl true rfl ?_); (conv => whnf)
  ((with_reducible refine draw_pl ttOk zOk foOk mixedOk pl144x1 ?_ ?_); (focus kernel_rfl); (conv => whnf))
  refine rdw ?_; repeat' ((with_reducible apply tw) <;> intro _)
  refine (cloneIO_row c.bats h.bats).mono ?_
  rintro _ _ ⟨rfl, rfl⟩
  conv => whnf
  refine rdw ?_; repeat' ((with_reducible apply tw) <;> intro _)
  refine (cloneIO_row c.pars h.pars).mono ?_
  rintro _ _ ⟨rfl, rfl⟩
  conv => whnf
  refine rdw ?_; repeat' ((with_reducible apply tw) <;> intro _)
  exact ⟨rfl, rfl⟩
theorem ownCertO_ok (c : Cert) (h : c.tiny) : ACalls Tryz.prog 180 [c.avo] [] (fun av L => av = c.av ∧ L = []) := by
  have h1 : ACalls Tryz.prog 180 [c.avo] [] (fun av L => av = .agg [.d (.int .i64 c.author), .d (.int .i64 c.round), .arr 0, .arr 1, .d (.int .i64 c.digest), .arr 2] ∧ L = [.row 3 1 (nums c.bats) false, .row 3 1 (nums c.pars) false, .row 3 1 (nums c.sigs) false]) := by
    (refine acalls_go ttOk zOk foOk Tryz.func180 rfl Tryz.ntmps180 rfl true rfl ?_); (conv => whnf)
    ((with_reducible refine draw_pl ttOk zOk foOk mixedOk pl180x1 ?_ ?_); (focus kernel_rfl); (conv => whnf))
    refine rdw ?_; repeat' ((with_reducible apply tw) <;> intro _)
    refine (ownO_row c h).mono ?_
    rintro _ _ ⟨rfl, rfl⟩
    conv => whnf
    refine rdw ?_; repeat' ((with_reducible apply tw) <;> intro _)
    refine (cloneIO_row c.sigs h.sigs).mono ?_
    rintro _ _ ⟨rfl, rfl⟩
    conv => whnf
    refine rdw ?_; repeat' ((with_reducible apply tw) <;> intro _)
    exact ⟨rfl, rfl⟩
  refine acalls_data h1 ?_
  rintro _ _ ⟨rfl, rfl⟩
  conv => whnf
  exact ⟨rfl, rfl⟩
theorem ownCertsO_row (l : List Cert) (hl : tiny l) (h : ∀ c ∈ l, c.tiny) : ACalls Tryz.prog 149 [.d (.slo 6 (certsDo l))] [] (fun av L => av = .arr 0 ∧ L = [.row 47 6 (certsD l) false]) := by
  have hx := certsDo_length l
  unfold tiny at hl
  (refine acalls_go ttOk zOk foOk Tryz.func149 rfl Tryz.ntmps149 rfl true rfl ?_); (conv => whnf)
  refine loop_go ttOk zOk foOk (σ := Nat) (fun k => ([(5, .d (.slo 6 (certsDo l))), (6, .d (.int .i64 l.length)), (7, .d (.int .i64 k)), (2, .arr 0)], [.row 47 6 (certsD (l.take k)) false])) (fun k => k ≤ l.length) (fun k => l.length - k) [5, 6, 7, 2] ?_ ?_
  · conv => whnf
    exact ⟨0, by rw [hx]; rfl, rfl, by omega⟩
  · intro k hk
    conv => whnf
    refine rdw ?_; repeat' ((with_reducible apply tw) <;> intro _)
    · rename_i h2
      refine Exists.elim (⟨_, List.getElem?_eq_getElem (by omega)⟩ : ∃ a, l[k]? = some a) fun a ha => ?_
      have hkn := certsD_length (l.take k)
      refine ⟨by omega, a.cso, certsDo_at ha, ?_⟩
      conv => whnf
      refine rdw ?_; repeat' ((with_reducible apply tw) <;> intro _)
      refine (ownCertO_ok a (h a (List.mem_of_getElem? ha))).mono ?_
      rintro _ _ ⟨rfl, rfl⟩
      conv => whnf
      refine rdw ?_; repeat' ((with_reducible apply tw) <;> intro _)
      refine ⟨by simp [hkn]; omega, ?_⟩
      conv => whnf
      refine rdw ?_; repeat' ((with_reducible apply tw) <;> intro _)
      refine ⟨k + 1, rfl, ?_, by omega, by omega⟩
      rw [List.take_add_one, ha]
      simp [certsD, Cert.cs]
    · rename_i h2
      rw [List.take_of_length_le (by omega)]
      exact ⟨rfl, rfl⟩
theorem cloneIO_ok (l : List Int) (hl : l.length ≤ 1099511627776) : ACalls Tryz.prog 143 [.d (.slo 1 (nums l))] [] (fun av L => av = .d (.sl 1 (nums l)) ∧ L = []) := by
  refine acalls_data (cloneIO_row l hl) ?_
  rintro _ _ ⟨rfl, rfl⟩
  conv => whnf
  exact ⟨rfl, rfl⟩
theorem cloneVO_ok (l : List Vote) (hl : l.length ≤ 1099511627776) : ACalls Tryz.prog 147 [.d (.slo 3 (votesD l))] [] (fun av L => av = .d (.sl 3 (votesD l)) ∧ L = []) := by
  refine acalls_data (cloneVO_row l hl) ?_
  rintro _ _ ⟨rfl, rfl⟩
  conv => whnf
  exact ⟨rfl, rfl⟩
theorem ownO_ok (c : Cert) (h : c.tiny) : ACalls Tryz.prog 144 [c.havo] [] (fun av L => av = c.hav ∧ L = []) := by
  refine acalls_data (ownO_row c h) ?_
  rintro _ _ ⟨rfl, rfl⟩
  conv => whnf
  exact ⟨rfl, rfl⟩
theorem ownCertsO_ok (l : List Cert) (hl : tiny l) (h : ∀ c ∈ l, c.tiny) : ACalls Tryz.prog 149 [.d (.slo 6 (certsDo l))] [] (fun av L => av = .d (.sl 6 (certsD l)) ∧ L = []) := by
  refine acalls_data (ownCertsO_row l hl h) ?_
  rintro _ _ ⟨rfl, rfl⟩
  conv => whnf
  exact ⟨rfl, rfl⟩
theorem dagOwnO_ok (d : Dag) (hl : tiny d.certs) (h : ∀ c ∈ d.certs, c.tiny) : ACalls Tryz.prog 148 [d.avo] [] (fun av L => av = d.av ∧ L = []) := by
  have h1 := ownCertsO_ok d.certs hl h
  (refine acalls_go ttOk zOk foOk Tryz.func148 rfl Tryz.ntmps148 rfl false rfl ?_); (conv => whnf)
  refine h1.mono ?_
  rintro _ _ ⟨rfl, rfl⟩
  conv => whnf
  refine rdw ?_; repeat' ((with_reducible apply tw) <;> intro _)
  exact ⟨rfl, rfl⟩
open Classical in
theorem primMayO_ok (p : Prim) (hok : p.ok) : ACalls Tryz.prog 41 [p.avo] [] (fun av L => av = .d (.bool (decide (May p))) ∧ L = []) :=
  acalls_lend (flat_bool _) ⟨_, _, rfl, lend_avo p, rfl⟩ (primMay_full p hok)
end Go.Proofs.YtolkmjfkkkiboaaGreat
open Go Go.Claim Go.Proofs
namespace Go.Proofs.YtolkmjfkkkiboaaGreat
open Go.Ab Go.RowKit Go.MapKept
attribute [local irreducible] ACalls AW ADraw Into fltB fnear
set_option maxRecDepth 100000
theorem infoInt : (Tryz.prog.info? 3).map (fun i => (i.zero, i.size, i.bytes)) = some (some (.int .i64 0), 1, 8) := by kernel_rfl
theorem int_triv {k : Nat} {u : Value} {sh : Sh} (h : ([Value.int .i64 5] : List Value)[k]? = some u) (hs : (gsh 1)[k]? = some sh) : Triv sh u := by
  cases k with
  | zero =>
    simp at h
    subst h
    have : sh = .int := by simpa [gsh] using hs.symm
    subst this
    exact ⟨5, rfl⟩
  | succ k => simp at h
set_option maxRecDepth 100000 in
theorem numbers_sp (lo n k : Nat) (w : World) (v : Value) (hv : SL lo n w (k + 1) 1 v) (hbl : ∀ b, lo ≤ b → b < lo + n → b < w.heap.size) :
    Calls Tryz.prog 50 #[v] w fun e w' => e = .returned (.tuple #[]) ∧ Spoil lo n w w' := by
  obtain ⟨p, len, cap, rfl, k1, ⟨k2, k3⟩, k4⟩ := id hv
  go_enter Tryz.func50, Tryz.ntmps50
  go_wp2
  go_loopw [2] (fun i wr => ∃ j : Nat, j ≤ len ∧ i = .int .i64 j ∧ Spoil lo n w wr)
    (fun i _ => len - (intOf i).toNat)
  case atStart => exact ⟨0, Nat.zero_le _, rfl, Spoil.refl _ _ _⟩
  case round =>
    obtain ⟨j, hj, rfl, hS⟩ := hrel
    have hv2 := hS.sl _ _ _ hv
    have hbl2 : ∀ b, lo ≤ b → b < lo + n → b < wr.heap.size := fun b h1 h2 => Nat.lt_of_lt_of_le (hbl b h1 h2) hS.size
    by_cases hj2 : j < len
    · rcases k4 with rfl | ⟨⟨b, off, sp⟩, rfl, rfl, _⟩
      · omega
      obtain ⟨p', len', cap', e1, _, _, k5⟩ := hv2
      cases e1
      rcases k5 with h0 | ⟨q, e2, _, q3, q4, ⟨cur, e', mk, q5, q6, q7, q8, q9⟩, q10⟩
      · omega
      cases e2
      obtain ⟨u, u1, x, rfl⟩ := q10 j 0 .int hj2 rfl
      simp only [Nat.mul_one, Nat.add_zero] at u1 q5 q9 q3 q4
      have hlt : off + j < cur.size := by omega
      have hfz : wr.frozen? { block := b, off := off + j } = false := by
        have hq6 := q6 _ hlt
        unfold World.frozen?
        rw [q5]
        show (decide (mk.1 ≤ off + j) && decide (off + j < mk.2)) = false
        by_cases hp : mk.1 ≤ off + j
        · rw [decide_eq_false (p := off + j < mk.2) fun h => hq6 ⟨hp, h⟩, Bool.and_false]
        · rw [decide_eq_false hp, Bool.false_and]
      go_wp2
      refine ⟨⟨j + 1, by omega, by go_num, hS.trans (Spoil.cell q3 q4 q5 fun sh hs => ?_)⟩, by simp [intOf]; omega⟩
      rw [q7, Nat.mod_one] at hs
      have : sh = .int := by simpa [gsh] using hs.symm
      subst this
      exact ⟨-99, rfl⟩
    · obtain rfl : j = len := by omega
      obtain ⟨i0, hi, hz0, hz1, hz2⟩ := info_parts infoInt
      go_wp2_with (at_builtin; refine wpList_append_spoil _ rfl (.tmp 12) (.tmp 13) 22 rfl 3 i0 (.int .i64 0) 1 8 Tryz.underlying22 hi hz0 hz1 hz2 rfl (by decide) (lo := lo) (n := n) (k := k) (v := .slice p j cap) ?sl rfl ⟨wr.heap.size, 0, none⟩ 1 [.int .i64 5] rfl rfl ?c1 ?c2 (fun j u sh h hs => int_triv h hs) (by decide) ?bl ?go)
      case sl => exact (Spoil.keeps hbl2 (Keeps.alloc wr _)).sl _ _ _ hv2
      case c1 => intro j u hj; match j, hj with | 0, hj => simp at hj; subst hj; simp [Addr.add]
      case c2 => intro u hu; simp at hu; subst hu; rfl
      case bl => exact fun b h1 h2 => Nat.lt_of_lt_of_le (hbl2 b h1 h2) (Keeps.alloc wr _).size
      case go =>
        intro v' w' hS2 _
        go_wp2
        go_end0
        exact ⟨rfl, (hS.trans (Spoil.keeps hbl2 (Keeps.alloc wr _))).trans hS2⟩
end Go.Proofs.YtolkmjfkkkiboaaGreat
open Go Go.Claim Go.Proofs
namespace Go.Proofs.YtolkmjfkkkiboaaGreat
open Go.Ab Go.RowKit Go.MapKept
attribute [local irreducible] ACalls AW ADraw Into fltB fnear
set_option maxRecDepth 100000
theorem sl_slice {lo n : Nat} {w : World} {k m : Nat} {v : Value} (h : SL lo n w (k + 1) m v) : ∃ p l c, v = .slice p l c := by
  obtain ⟨p, l, c, e, _⟩ := h
  exact ⟨p, l, c, e⟩
theorem isle_out {lo n : Nat} {w : World} (hbl : ∀ b, lo ≤ b → b < lo + n → b < w.heap.size) {b : Nat} (h : w.heap.size ≤ b) : ¬ (lo ≤ b ∧ b < lo + n) := fun k => Nat.lt_irrefl _ (Nat.lt_of_lt_of_le (hbl b k.1 k.2) h)
theorem Spoil.cellOf {lo n : Nat} {w w' : World} (h : Spoil lo n w w') {a : Addr} {u : Value} (hn : ¬ (lo ≤ a.block ∧ a.block < lo + n)) (hc : w.cell? a = some u) : w'.cell? a = some u := by
  rw [World.cell?_of_block (w := w) (h.block a.block (cell?_lt hc) hn)]
  exact hc
set_option maxHeartbeats 400000 in
set_option maxRecDepth 100000 in
theorem header_sp (lo n k : Nat) (w : World) (au ro : Int) (v1 v2 : Value) (h1 : SL lo n w (k + 1) 1 v1) (h2 : SL lo n w (k + 1) 1 v2) (hbl : ∀ b, lo ≤ b → b < lo + n → b < w.heap.size) :
    Calls Tryz.prog 47 #[.agg #[.int .i64 au, .int .i64 ro, v1, v2]] w fun e w' => e = .returned (.tuple #[]) ∧ Spoil lo n w w' := by
  obtain ⟨p1, l1, c1, rfl⟩ := sl_slice h1
  obtain ⟨p2, l2, c2, rfl⟩ := sl_slice h2
  have hA := Spoil.keeps hbl (Keeps.alloc w (.cells #[.int .i64 au, .int .i64 ro, .slice p1 l1 c1, .slice p2 l2 c2] 24))
  have hblA : ∀ b, lo ≤ b → b < lo + n → b < (w.alloc (.cells #[.int .i64 au, .int .i64 ro, .slice p1 l1 c1, .slice p2 l2 c2] 24)).heap.size := fun b g1 g2 => Nat.lt_of_lt_of_le (hbl b g1 g2) hA.size
  have hc2 : (w.alloc (.cells #[.int .i64 au, .int .i64 ro, .slice p1 l1 c1, .slice p2 l2 c2] 24)).cell? ⟨w.heap.size, 3, none⟩ = some (.slice p2 l2 c2) := by
    rw [cell_of_row _ _ 3 _ _ _ (heap_alloc_new w _)]; rfl
  have hout : ¬ (lo ≤ w.heap.size ∧ w.heap.size < lo + n) := isle_out hbl (Nat.le_refl _)
  go_enter Tryz.func47, Tryz.ntmps47
  go_wp2_with (go_at_call 50; (with_reducible refine (numbers_sp lo n k _ (.slice p1 l1 c1) (hA.sl _ _ _ h1) hblA).mono ?_); rintro e w1 ⟨rfl, hS1⟩; have hc3 := Spoil.cellOf (a := ⟨w.heap.size, 3, none⟩) hS1 hout hc2)
  go_wp2_with (go_at_call 50; (with_reducible refine (numbers_sp lo n k _ (.slice p2 l2 c2) (hS1.sl _ _ _ (hA.sl _ _ _ h2)) (fun b g1 g2 => Nat.lt_of_lt_of_le (hblA b g1 g2) hS1.size)).mono ?_); rintro e w2 ⟨rfl, hS2⟩)
  go_end0
  exact ⟨rfl, hA.trans (hS1.trans hS2)⟩
set_option maxHeartbeats 400000 in
set_option maxRecDepth 100000 in
theorem cert_sp (lo n k : Nat) (w : World) (au ro di : Int) (v1 v2 v3 : Value) (h1 : SL lo n w (k + 1) 1 v1) (h2 : SL lo n w (k + 1) 1 v2) (h3 : SL lo n w (k + 1) 1 v3) (hbl : ∀ b, lo ≤ b → b < lo + n → b < w.heap.size) :
    Calls Tryz.prog 121 #[.agg #[.int .i64 au, .int .i64 ro, v1, v2, .int .i64 di, v3]] w fun e w' => e = .returned (.tuple #[]) ∧ Spoil lo n w w' := by
  obtain ⟨p1, l1, c1, rfl⟩ := sl_slice h1
  obtain ⟨p2, l2, c2, rfl⟩ := sl_slice h2
  obtain ⟨p3, l3, c3, rfl⟩ := sl_slice h3
  have hA := Spoil.keeps hbl (Keeps.alloc w (.cells #[.int .i64 au, .int .i64 ro, .slice p1 l1 c1, .slice p2 l2 c2, .int .i64 di, .slice p3 l3 c3] 47))
  have hblA : ∀ b, lo ≤ b → b < lo + n → b < (w.alloc (.cells #[.int .i64 au, .int .i64 ro, .slice p1 l1 c1, .slice p2 l2 c2, .int .i64 di, .slice p3 l3 c3] 47)).heap.size := fun b g1 g2 => Nat.lt_of_lt_of_le (hbl b g1 g2) hA.size
  have hc2 : (w.alloc (.cells #[.int .i64 au, .int .i64 ro, .slice p1 l1 c1, .slice p2 l2 c2, .int .i64 di, .slice p3 l3 c3] 47)).cell? ⟨w.heap.size, 5, none⟩ = some (.slice p3 l3 c3) := by
    rw [cell_of_row _ _ 5 _ _ _ (heap_alloc_new w _)]; rfl
  have hout : ¬ (lo ≤ w.heap.size ∧ w.heap.size < lo + n) := isle_out hbl (Nat.le_refl _)
  go_enter Tryz.func121, Tryz.ntmps121
  go_wp2_with (go_at_call 47; (with_reducible refine (header_sp lo n k _ au ro (.slice p1 l1 c1) (.slice p2 l2 c2) (hA.sl _ _ _ h1) (hA.sl _ _ _ h2) hblA).mono ?_); rintro e w1 ⟨rfl, hS1⟩; have hc3 := Spoil.cellOf (a := ⟨w.heap.size, 5, none⟩) hS1 hout hc2)
  go_wp2_with (go_at_call 50; (with_reducible refine (numbers_sp lo n k _ (.slice p3 l3 c3) (hS1.sl _ _ _ (hA.sl _ _ _ h3)) (fun b g1 g2 => Nat.lt_of_lt_of_le (hblA b g1 g2) hS1.size)).mono ?_); rintro e w2 ⟨rfl, hS2⟩)
  go_end0
  exact ⟨rfl, hA.trans (hS1.trans hS2)⟩
end Go.Proofs.YtolkmjfkkkiboaaGreat
