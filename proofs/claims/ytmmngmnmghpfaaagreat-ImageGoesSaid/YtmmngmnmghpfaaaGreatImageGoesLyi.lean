/- ImageGoes: abstract runs. -/
import Derived.Test.YtmmngmnmghpfaaaGreatImageGoesLyp
import Derived.Laws.CopyRow
set_option linter.unusedVariables false
set_option linter.unusedSimpArgs false
namespace Go.Ab
open Go.RowKit
theorem SimH.relabelF {c : Ctx} {E : Nat → Option Nat} {L : List AB} {w : World} (h : SimH c E L w) {i e n : Nat} {xs zs : List (List DV)} (hi : L[i]? = some (.row e n xs false))
    (hbr : BR (rcOf c.M0 E L w) w (E i) (.row e n zs false)) :
    SimH c (Eupd E L.length (E i)) (L.set i .dead ++ [.row e n zs false]) w ∧ (rcOf c.M0 E L w).le (rcOf c.M0 (Eupd E L.length (E i)) (L.set i .dead ++ [.row e n zs false]) w) := by
  have hilt : i < L.length := (List.getElem?_eq_some_iff.1 hi).1
  have look : ∀ j ab, (L.set i .dead ++ [AB.row e n zs false])[j]? = some ab → (j = L.length ∧ ab = .row e n zs false) ∨ (j = i ∧ ab = .dead) ∨ (j ≠ L.length ∧ j ≠ i ∧ L[j]? = some ab) := by
    intro j ab hj
    by_cases h1 : j = L.length
    · subst h1
      have : (L.set i .dead ++ [AB.row e n zs false])[L.length]? = some (.row e n zs false) := by
        rw [List.getElem?_append_right (by simp)]; simp
      rw [this] at hj; cases hj; exact .inl ⟨rfl, rfl⟩
    · have h2 : (L.set i AB.dead)[j]? = some ab := getElem?_push_lt hj (by simpa using h1)
      by_cases h3 : j = i
      · subst h3
        rw [getElem?_set_same hi] at h2; cases h2; exact .inr (.inl ⟨rfl, rfl⟩)
      · rw [getElem?_set_other h3] at h2
        exact .inr (.inr ⟨h1, h3, h2⟩)
  have back : ∀ j ab, L[j]? = some ab → j ≠ i → (L.set i .dead ++ [AB.row e n zs false])[j]? = some ab := by
    intro j ab hj hji
    have : j < L.length := (List.getElem?_eq_some_iff.1 hj).1
    rw [List.getElem?_append_left (by simpa using this), getElem?_set_other hji]; exact hj
  have backi : (L.set i .dead ++ [AB.row e n zs false])[i]? = some .dead := by
    rw [List.getElem?_append_left (by simpa using hilt), getElem?_set_same hi]
  have hE : ∀ j ab, L[j]? = some ab → Eupd E L.length (E i) j = E j := by
    intro j ab hj
    have : j < L.length := (List.getElem?_eq_some_iff.1 hj).1
    simp only [Eupd]; rw [if_neg (by omega)]
  have hEn : Eupd E L.length (E i) L.length = E i := by simp [Eupd]
  have hle : (rcOf c.M0 E L w).le (rcOf c.M0 (Eupd E L.length (E i)) (L.set i .dead ++ [.row e n zs false]) w) := by
    refine ⟨?_, ?_, ?_, ?_, ?_⟩
    rotate_right
    · rintro j x v ⟨abj, h1, h2⟩
      have hji : j ≠ i := by
        rintro rfl
        rw [hi] at h1; cases h1
        exact h2.elim
      exact ⟨abj, back j abj h1 hji, h2⟩
    · refine rdle rfl (.refl _) ?_
      rintro a u h1 h2
      refine ⟨h1, ?_⟩
      rintro (hm | ⟨j, abj, hj, he, hm⟩ | ⟨j, abj, hj, hm⟩)
      · exact h2 (.inl hm)
      · rcases look j abj hj with ⟨rfl, rfl⟩ | ⟨rfl, rfl⟩ | ⟨n1, n2, hj'⟩
        · rw [hEn] at he
          refine h2 (.inr (.inl ⟨i, _, hi, he, fun hs => ?_⟩))
          cases hs
        · exact hm.elim
        · rw [hE j abj hj'] at he
          exact h2 (.inr (.inl ⟨j, abj, hj', he, hm⟩))
      · rcases look j abj hj with ⟨rfl, rfl⟩ | ⟨rfl, rfl⟩ | ⟨n1, n2, hj'⟩
        · simp [AB.boxes] at hm
        · simp [AB.boxes] at hm
        · exact h2 (.inr (.inr ⟨j, abj, hj', hm⟩))
    · rintro j b ⟨abj, h1, h2, h3⟩
      have hji : j ≠ i := by rintro rfl; rw [hi] at h1; cases h1; simp [AB.isCell] at h2
      exact ⟨abj, back j abj h1 hji, h2, by rw [hE j abj h1]; exact h3⟩
    · rintro j v ⟨abj, h1, h2⟩
      by_cases hji : j = i
      · subst hji; exact ⟨.dead, backi, arRel_slice h2⟩
      · refine ⟨abj, back j abj h1 hji, ?_⟩
        cases abj with
        | cells cs => simp only [arRel] at h2 ⊢; rw [hE j _ h1]; exact h2
        | map es => exact h2
        | pool b cs => exact h2
        | obj o => exact h2
        | obs o n cap => simp only [arRel] at h2 ⊢; rw [hE j _ h1]; exact h2
        | dead => exact h2
        | isle lo n ok => exact h2.elim
        | row e n xs sh => simp only [arRel] at h2 ⊢; rw [hE j _ h1]; exact h2
    · rintro j x o v ⟨abj, h1, h2⟩
      by_cases hji : j = i
      · subst hji; exact ⟨.dead, backi, apRel_pointer h2⟩
      · refine ⟨abj, back j abj h1 hji, ?_⟩
        cases abj with
        | cells cs => exact h2
        | map es => exact h2
        | pool b cs => exact h2
        | obj o => exact h2
        | obs o n cap => exact h2
        | dead => exact h2
        | isle lo n ok => exact h2.elim
        | row e n xs sh => simp only [apRel] at h2 ⊢; rw [hE j _ h1]; exact h2
  refine ⟨⟨h.os, h.tape, h.output, h.size, h.prot, ?_, ?_, ?_, ?_, ?_, h.lk, fun s0 hs0 j e1 m1 ys sh1 b hj he => ?_⟩, hle⟩
  rotate_right
  · rcases look j _ hj with ⟨rfl, hx⟩ | ⟨rfl, hx⟩ | ⟨n1, n2, hj'⟩
    · rw [hEn] at he; exact h.up s0 hs0 i _ _ _ _ b hi he
    · cases hx
    · rw [hE j _ hj'] at he; exact h.up s0 hs0 j _ _ _ _ b hj' he
  · intro j ab hj
    rcases look j ab hj with ⟨rfl, rfl⟩ | ⟨rfl, rfl⟩ | ⟨n1, n2, hj'⟩
    · rw [hEn]; exact BR.mono hle hbr (fun _ _ _ => rfl) fun _ _ => rfl
    · trivial
    · rw [hE j ab hj']; exact BR.mono hle (h.blk j ab hj') (fun _ _ _ => rfl) fun _ _ => rfl
  · intro j ab b hj hl he
    rcases look j ab hj with ⟨rfl, rfl⟩ | ⟨rfl, rfl⟩ | ⟨n1, n2, hj'⟩
    · rw [hEn] at he; exact h.low i _ b hi rfl he
    · cases hl
    · rw [hE j ab hj'] at he; exact h.low j ab b hj' hl he
  · intro j1 j2 ab1 ab2 b h1 h2 l1 l2 e1 e2
    rcases look j1 ab1 h1 with ⟨rfl, rfl⟩ | ⟨rfl, rfl⟩ | ⟨n1, n2, hj1⟩
    · rw [hEn] at e1
      rcases look j2 ab2 h2 with ⟨rfl, rfl⟩ | ⟨rfl, rfl⟩ | ⟨n1, n2, hj2⟩
      · rfl
      · cases l2
      · rw [hE j2 ab2 hj2] at e2
        exact absurd (h.inj j2 i ab2 _ b hj2 hi l2 rfl e2 e1) n2
    · cases l1
    · rw [hE j1 ab1 hj1] at e1
      rcases look j2 ab2 h2 with ⟨rfl, rfl⟩ | ⟨rfl, rfl⟩ | ⟨m1, m2, hj2⟩
      · rw [hEn] at e2
        exact absurd (h.inj j1 i ab1 _ b hj1 hi l1 rfl e1 e2) n2
      · cases l2
      · rw [hE j2 ab2 hj2] at e2
        exact h.inj j1 j2 ab1 ab2 b hj1 hj2 l1 l2 e1 e2
  · exact h.old.trans hle
  · have hbox : ∀ (j : Nat) (ab : AB), (L.set i .dead ++ [AB.row e n zs false])[j]? = some ab → ∀ b ∈ ab.boxes, L[j]? = some ab := by
      intro j ab hj b hb
      rcases look j ab hj with ⟨rfl, rfl⟩ | ⟨rfl, rfl⟩ | ⟨n1, n2, hj'⟩
      · simp [AB.boxes] at hb
      · simp [AB.boxes] at hb
      · exact hj'
    refine ⟨fun j ab b hj hb => h.bx.low j ab b (hbox j ab hj b hb) hb, ?_, ?_, fun j k ab ab' b hj hk hb hb' => h.bx.dj j k ab ab' b (hbox j ab hj b hb) (hbox k ab' hk b hb') hb hb'⟩
    · intro j k ab ab' b hj hb hk hl he
      have hj0 := hbox j ab hj b hb
      rcases look k ab' hk with ⟨rfl, rfl⟩ | ⟨rfl, rfl⟩ | ⟨n1, n2, hk'⟩
      · rw [hEn] at he; exact h.bx.own j i ab _ b hj0 hb hi rfl he
      · cases hl
      · rw [hE k ab' hk'] at he; exact h.bx.own j k ab ab' b hj0 hb hk' hl he
    · intro j ab hj
      rcases look j ab hj with ⟨rfl, rfl⟩ | ⟨rfl, rfl⟩ | ⟨n1, n2, hj'⟩
      · simp [AB.boxes]
      · simp [AB.boxes]
      · exact h.bx.nd j ab hj'
theorem flatten_takeN {n : Nat} : ∀ (xs : List (List DV)), (∀ cs ∈ xs, cs.length = n) → ∀ k : Nat, (xs.take k).flatten = xs.flatten.take (k * n)
  | [], _, k => by simp
  | c :: r, hl, 0 => by simp
  | c :: r, hl, k + 1 => by
    have hc : c.length = n := hl c (by simp)
    have := flatten_takeN r (fun x hx => hl x (by simp [hx])) k
    have e1 : (k + 1) * n = n + k * n := by rw [Nat.add_mul, Nat.one_mul, Nat.add_comm]
    have e2 : c.take (n + k * n) = c := List.take_of_length_le (by omega)
    rw [List.take_succ_cons, List.flatten_cons, this, List.flatten_cons, e1, List.take_append, hc, e2, Nat.add_sub_cancel_left]
theorem flatten_dropN {n : Nat} : ∀ (xs : List (List DV)), (∀ cs ∈ xs, cs.length = n) → ∀ k : Nat, (xs.drop k).flatten = xs.flatten.drop (k * n)
  | [], _, k => by simp
  | c :: r, hl, 0 => by simp
  | c :: r, hl, k + 1 => by
    have hc : c.length = n := hl c (by simp)
    have := flatten_dropN r (fun x hx => hl x (by simp [hx])) k
    have e1 : (k + 1) * n = n + k * n := by rw [Nat.add_mul, Nat.one_mul, Nat.add_comm]
    have e2 : c.drop (n + k * n) = [] := List.drop_of_length_le (by omega)
    rw [List.drop_succ_cons, this, List.flatten_cons, e1, List.drop_append, hc, e2, Nat.add_sub_cancel_left, List.nil_append]
theorem SimH.turn {c : Ctx} {E : Nat → Option Nat} {L : List AB} {w : World} (h : SimH c E L w) {i e n : Nat} {xs zs : List (List DV)} (hi : L[i]? = some (.row e n xs false)) {b : Nat} (hb : E i = some b)
    {cur cur' : Array Value} (hh : w.heap[b]? = some (.cells cur e (0, 0))) (hs : cur'.size = cur.size) (hfit : zs.length * n ≤ cur.size) (hn : ∀ cs ∈ zs, cs.length = n)
    (hv : VDs (rcOf c.M0 E L w).rd zs.flatten (cur'.toList.take (zs.length * n))) :
    SimH c (Eupd E L.length (some b)) (L.set i .dead ++ [.row e n zs false]) (w.setRow b cur') ∧ (rcOf c.M0 E L w).le (rcOf c.M0 (Eupd E L.length (some b)) (L.set i .dead ++ [.row e n zs false]) (w.setRow b cur')) := by
  have hbr := h.blk i _ hi
  obtain ⟨hn0, hl, h3⟩ := hbr
  rw [hb] at h3
  obtain ⟨cap, cur2, h4, h5, h6, h7, h8⟩ := h3
  rw [hh] at h4; cases h4
  have hlen : (L.set i AB.dead).length = L.length := by simp
  have hh2 := setRow_heap w b cur cur' e (0, 0) hh
  have hcap : zs.length ≤ cap := by
    rw [h5] at hfit
    exact Nat.le_of_mul_le_mul_right hfit hn0.1
  rcases Nat.le_total zs.length xs.length with hle | hle
  · have hlt : (xs.take zs.length).length = zs.length := by rw [List.length_take]; omega
    obtain ⟨hs1, hle1⟩ := h.relabelF hi (zs := xs.take zs.length) (by
      rw [hb]
      refine ⟨hn0, fun cs hcs => hl cs (List.mem_of_mem_take hcs), cap, cur, hh, h5, by omega, h7, ?_⟩
      have e1 : (xs.take zs.length).flatten = xs.flatten.take (zs.length * n) := flatten_takeN xs hl zs.length
      have e2 : cur.toList.take (zs.length * n) = (cur.toList.take (xs.length * n)).take (zs.length * n) := by rw [List.take_take, Nat.min_eq_left (Nat.mul_le_mul_right _ hle)]
      rw [hlt, e1, e2]
      exact Cs_take _ h8)
    rw [hb] at hs1 hle1
    have hi1 : (L.set i AB.dead ++ [AB.row e n (xs.take zs.length) false])[L.length]? = some (.row e n (xs.take zs.length) false) := by rw [← hlen]; simp
    have hE1 : Eupd E L.length (some b) L.length = some b := by simp [Eupd]
    obtain ⟨hs2, hle2⟩ := hs1.rewrite hi1 hE1 hh hs (zs := zs) hlt.symm hn (VDs.mono hle1.rd hv)
    have hself : (L.set i AB.dead ++ [AB.row e n (xs.take zs.length) false]).set L.length (AB.row e n zs false) = L.set i .dead ++ [.row e n zs false] := by
      rw [← hlen, List.set_append_right _ _ (Nat.le_refl _), Nat.sub_self]; rfl
    rw [hself] at hs2 hle2
    exact ⟨hs2, hle1.trans hle2⟩
  · have hlt : (zs.take xs.length).length = xs.length := by rw [List.length_take]; omega
    obtain ⟨hs1, hle1⟩ := h.rewrite hi hb hh hs (zs := zs.take xs.length) hlt (fun cs hcs => hn cs (List.mem_of_mem_take hcs)) (by
      have e1 : (zs.take xs.length).flatten = zs.flatten.take (xs.length * n) := flatten_takeN zs hn xs.length
      have e2 : cur'.toList.take (xs.length * n) = (cur'.toList.take (zs.length * n)).take (xs.length * n) := by rw [List.take_take, Nat.min_eq_left (Nat.mul_le_mul_right _ hle)]
      rw [hlt, e1, e2]
      exact Cs_take _ hv)
    have hi1 := getElem?_set_same (x := AB.row e n (zs.take xs.length) false) hi
    obtain ⟨hs2, hle2⟩ := hs1.relabelF hi1 (zs := zs) (by
      rw [hb]
      exact ⟨hn0, hn, cap, cur', hh2, by rw [hs]; exact h5, hcap, h7, VDs.mono hle1.rd hv⟩)
    rw [List.set_set, List.length_set, hb] at hs2 hle2
    exact ⟨hs2, hle1.trans hle2⟩
theorem Keeps.setNew {w x : World} (h : Keeps w x) (b : Nat) (hb : w.heap.size ≤ b) (R : Array Value) : Keeps w (x.setRow b R) :=
  have k := Turns.setRow x b R
  ⟨k.os.trans h.os, k.tape.trans h.tape, k.output.trans h.output, by rw [k.size]; exact h.size, fun j hj => by rw [k.block j (by omega)]; exact h.block j hj⟩
theorem run_copy_cellsK {P : Program} (w : World) (dT sT ty elem : TypeId) (k : Nat) (b o dLen dCap : Nat) (a : Addr) (sLen sCap m : Nat) (us : List Value) {cur : Array Value} {e : TypeId}
    (hu : P.underlying dT = some (.slice elem)) (hs : ∀ w, (sizeOf elem).run P w = .ok k w) (hm : Nat.min sLen dLen = m) (hn : us.length = m * k)
    (hsrc : ∀ j v, us[j]? = some v → w.cell? (a.add j) = some v) (hh : w.heap[b]? = some (.cells cur e (0, 0))) (hfit : o + us.length ≤ cur.size) (h1 : ∀ v ∈ us, v.oneCell' = true) :
    (Builtin.copy_ #[dT, sT] ty #[.slice (some ⟨b, o, none⟩) dLen dCap, .slice (some a) sLen sCap]).run P w = .ok (goInt m) (w.setRow b (cur.toList.take o ++ us ++ cur.toList.drop (o + us.length)).toArray) := by
  subst hm
  have hl := run_loadCells_list (P := P) w a us hsrc
  have hst := run_storeCells_at P b o e us 0 cur w hh (by simpa using hfit) h1
  rw [Nat.add_zero] at hst
  simp [Builtin.copy_, run_underlying hu, Builtin.lenOf, Builtin.firstCells, hs, ← hn, hl, hst]
theorem ins_list {α : Type} (A vs : List α) (a N k : Nat) (ha : a ≤ N) (hN : N + k ≤ A.length) (hv : vs.length = k) (A1 : List α) (h1 : A1 = A.take (a + k) ++ (A.take N).drop a ++ A.drop (a + k + ((A.take N).drop a).length)) :
    (A1.take a ++ vs ++ A1.drop (a + vs.length)).take (N + k) = (A.take N).take a ++ vs ++ (A.take N).drop a ∧ (A1.take a ++ vs ++ A1.drop (a + vs.length)).length = A.length ∧ A1.length = A.length := by
  have l1 : (A.take (a + k)).length = a + k := by rw [List.length_take]; omega
  have l2 : ((A.take N).drop a).length = N - a := by rw [List.length_drop, List.length_take]; omega
  have l3 : (A.take a).length = a := by rw [List.length_take]; omega
  have e1 : A1.take a = A.take a := by
    rw [h1, List.append_assoc, List.take_append_of_le_length (by omega), List.take_take, Nat.min_eq_left (by omega)]
  have e2 : A1.drop (a + k) = (A.take N).drop a ++ A.drop (N + k) := by
    rw [h1, List.append_assoc, List.drop_append, l1, Nat.sub_self, List.drop_zero, List.drop_of_length_le (by omega), List.nil_append, l2]
    congr 2
    omega
  have e3 : (A.take N).take a = A.take a := by rw [List.take_take, Nat.min_eq_left ha]
  rw [hv, e1, e2, e3, ← List.append_assoc]
  refine ⟨?_, ?_, ?_⟩
  · rw [List.take_append_of_le_length (by simp [l3, hv]; omega), List.take_of_length_le (by simp [l3, hv]; omega)]
  · simp [l3, hv]; omega
  · rw [h1]; simp; omega
theorem ins_list2 {α : Type} (R vs us C : List α) (a N k : Nat) (ha : a ≤ N) (hR : N + k ≤ R.length) (hv : vs.length = k) (hu : us.length = N - a) (hC : R.take a = C) :
    (((R.take a ++ vs ++ R.drop (a + vs.length)).take (a + k)) ++ us ++ (R.take a ++ vs ++ R.drop (a + vs.length)).drop (a + k + us.length)).take (N + k) = C ++ vs ++ us ∧
    (((R.take a ++ vs ++ R.drop (a + vs.length)).take (a + k)) ++ us ++ (R.take a ++ vs ++ R.drop (a + vs.length)).drop (a + k + us.length)).length = R.length ∧ (R.take a ++ vs ++ R.drop (a + vs.length)).length = R.length := by
  have l3 : (R.take a).length = a := by rw [List.length_take]; omega
  have e1 : (R.take a ++ vs ++ R.drop (a + vs.length)).take (a + k) = R.take a ++ vs := by
    rw [List.take_append_of_le_length (by simp [l3, hv]), List.take_of_length_le (by simp [l3, hv])]
  rw [e1, ← hC]
  refine ⟨?_, ?_, ?_⟩
  · rw [List.take_append_of_le_length (by simp [l3, hv, hu]; omega), List.take_of_length_le (by simp [l3, hv, hu]; omega)]
  · simp [l3, hv, hu]; omega
  · simp [l3, hv]; omega
theorem appendK_run {P : Program} {tt : TypeId → Option TI} (ht : TTok P tt) (hzo : ∀ e ei, tt e = some ei → ei.zero.cells.size = ei.size) {t : TypeId} {c : Ctx} (hc : c.wf) {E : Nat → Option Nat} {L : List AB} {w : World} (hs : SimH c E L w) {s x : AV} {K : AV → List AB → Prop} (h : appendK tt t L s x K) (ty : TypeId)
    {v u : Value} (hv : VR (rcOf c.M0 E L w) s v) (hu' : VR (rcOf c.M0 E L w) x u) :
    ∃ r w' E' av L', (Builtin.append_ #[t, t] ty #[v, u]).run P w = .ok r w' ∧ K av L' ∧ SimH c E' L' w' ∧ (rcOf c.M0 E L w).le (rcOf c.M0 E' L' w') ∧ VR (rcOf c.M0 E' L' w') av r := by
  unfold appendK at h
  obtain ⟨i, hi, h⟩ := ttK_ok h
  split at h
  rotate_left
  · exact h.elim
  rename_i e he
  obtain ⟨ei, hei, h⟩ := ttK_ok h
  have hd : i.desc = .slice e := by
    revert he
    cases i.desc <;> simp [sliceElem]
  obtain ⟨hu, _⟩ := ht t i hi
  rw [hd] at hu
  cases hb : (Nat.beq ei.size 0 || Nat.beq ei.bytes 0) with
  | true => rw [hb] at h; exact h.elim
  | false =>
  rw [hb] at h
  simp only [cond_false] at h
  have h1 : 0 < ei.size := by
    rcases Nat.eq_zero_or_pos ei.size with h0 | h0
    · rw [h0] at hb; simp at hb
    · exact h0
  have h2 : 0 < ei.bytes := by
    rcases Nat.eq_zero_or_pos ei.bytes with h0 | h0
    · rw [h0] at hb; simp at hb
    · exact h0
  obtain ⟨ys, h3, h4⟩ := srcAK_ok hs h1 h hu'
  exact appendTo_ok ht hu hei (hzo e ei hei) h1 h2 hc hs h3 ty hv h4
theorem run_clear_cellsK {P : Program} (w : World) (t e ty : TypeId) (z : Value) (ht : P.underlying t = some (.slice e)) (hv : ∀ w, (zeroValue e).run P w = .ok z w) (h1 : ∀ v ∈ z.cells, v.oneCell' = true) (b o c : Nat)
    {cur : Array Value} {e' : TypeId} (hh : w.heap[b]? = some (.cells cur e' (0, 0))) (hfit : o + z.cells.size ≤ cur.size) :
    (Builtin.clear_ #[t] ty #[.slice (some ⟨b, o, none⟩) 1 c]).run P w = .ok (.tuple #[]) (w.setRow b (cur.toList.take o ++ z.cells.toList ++ cur.toList.drop (o + z.cells.size)).toArray) := by
  have hzc : (Builtin.zeroCells z.cells 1).toList = z.cells.toList := by
    apply List.ext_getElem
    · simp [Builtin.zeroCells]
    · intro i h2 h3
      have : i < z.cells.size := by simpa using h3
      simp [Builtin.zeroCells, Nat.mod_eq_of_lt this, this]
  have hst := run_storeCells_at P b o e' z.cells.toList 0 cur w hh (by simpa using hfit) (by simpa using h1)
  rw [Nat.add_zero] at hst
  simp only [Array.length_toList] at hst
  simp [Builtin.clear_, run_underlying ht, hv, hzc, hst]
theorem del_list {α : Type} (A z : List α) (a N k : Nat) (ha : a + k ≤ N) (hN : N ≤ A.length) (hz : z.length = k) (A1 : List α) (h1 : A1 = A.take a ++ (A.take N).drop (a + k) ++ A.drop (a + ((A.take N).drop (a + k)).length)) :
    (A1.take (N - k) ++ z ++ A1.drop (N - k + k)).take (N - k) = (A.take N).take a ++ (A.take N).drop (a + k) ∧ (A1.take (N - k) ++ z ++ A1.drop (N - k + k)).length = A.length ∧ A1.length = A.length := by
  have l2 : ((A.take N).drop (a + k)).length = N - (a + k) := by rw [List.length_drop, List.length_take]; omega
  have l3 : (A.take a).length = a := by rw [List.length_take]; omega
  have e3 : (A.take N).take a = A.take a := by rw [List.take_take, Nat.min_eq_left (by omega)]
  have hl : A1.length = A.length := by rw [h1]; simp; omega
  have e1 : A1.take (N - k) = A.take a ++ (A.take N).drop (a + k) := by
    rw [h1, List.take_append_of_le_length (by simp [l3, l2]; omega), List.take_of_length_le (by simp [l3, l2]; omega)]
  refine ⟨?_, ?_, hl⟩
  · rw [e3, ← e1, List.append_assoc, List.take_append_of_le_length (by simp; omega), List.take_take, Nat.min_self]
  · simp [hz]; omega
theorem step_append_runI {P : Program} {ops : Array Oper} {o : Oper} {a : Act} {w : World} {K : Act → World → Prop} {Q : Exit → Act → World → Prop} {E : Prop}
    (hg : o.guard = none) (d x : Operand) (dT sT : TypeId) (hop : o.op = Op.call { callee := Callee.builtin Builtin.append, args := #[d, x], argTypes := #[dT, sT] })
    (v u : Value) (hd : a.eval d = v) (hx : a.eval x = u) {v' : Value} {w' : World} (hr : (Builtin.append_ #[dT, sT] o.type #[v, u]).run P w = .ok v' w') (hK : K (a.put o.dst v') w') :
    if Region.wanted o (yielded ops a.tmps) = true then Oper.wp P o a w K Q else E := by
  have hw : Region.wanted o (yielded ops a.tmps) = true := by simp [Region.wanted, hg]
  rw [if_pos hw]
  unfold Oper.wp
  simp [execOp, hop, resolve, invoke, builtin, hd, hx, hr, Result.andThen]
  exact hK
end Go.Ab
