/- PrimaryMakes: contracts. -/
import Derived.Test.YtpgnaajkeeenbaaGreatPrimaryMakesCodF
set_option linter.unusedVariables false
set_option linter.unusedSimpArgs false
namespace Go.Proofs.YtpgnaajkeeenbaaGreat
open Go.Ab Go.RowKit Go.MapKept
attribute [local irreducible] ACalls AW ADraw Into fltB fnear
set_option maxRecDepth 100000
theorem copyNumbers_row (xs : List Int) (hm : tiny xs) : ACalls Tryz.prog 16 [.d (.sl 1 (nums xs))] [] (fun av L => av = .arr 0 ∧ L = [.row 3 1 (nums xs) false]) := by
  have hx := nums_length xs
  unfold tiny at hm
  refine acalls_go ttOk zOk foOk Tryz.func16 rfl Tryz.ntmps16 rfl true rfl ?_
  conv => whnf
  refine loop_go ttOk zOk foOk (σ := Nat) (fun k => ([(0, .d (.sl 1 (nums xs))), (3, .arr 0), (4, .d (.int .i64 k))], [.row 3 1 (nums (xs.take k)) false])) (fun k => k ≤ xs.length) (fun k => xs.length - k) [0, 3, 4] ?_ ?_
  · conv => whnf
    exact ⟨0, rfl, rfl, by omega⟩
  · intro k hk
    conv => whnf
    rw [hx]
    refine rdz ?_; repeat' ((with_reducible apply tw) <;> intro _)
    · rename_i h
      refine Exists.elim (⟨_, List.getElem?_eq_getElem (by omega)⟩ : ∃ a, xs[k]? = some a) fun a ha => ?_
      have hkn := nums_length (xs.take k)
      refine ⟨by omega, [.int .i64 a], nums_at ha, ?_⟩
      conv => whnf
      refine rdz ?_; repeat' ((with_reducible apply tw) <;> intro _)
      refine ⟨by simp [hkn]; omega, ?_⟩
      conv => whnf
      refine rdz ?_; repeat' ((with_reducible apply tw) <;> intro _)
      refine ⟨k + 1, rfl, ?_, by omega, by omega⟩
      rw [List.take_add_one, ha, ← nums_apps]
      rfl
    · rename_i h
      rw [List.take_of_length_le (by omega)]
      exact ⟨rfl, rfl⟩
theorem nums_take' (l : List Int) (n : Nat) : (nums l).take n = nums (l.take n) := by simp [nums]
theorem nums_drop' (l : List Int) (n : Nat) : (nums l).drop n = nums (l.drop n) := by simp [nums]
def insI (l : List Int) (n : Int) : List Int := l.filter (fun x => decide (x < n)) ++ n :: l.filter (fun x => !decide (x < n))
theorem insI_at {l : List Int} {n : Int} {i : Nat} (h1 : ∀ x ∈ l.take i, x < n) (h2 : ∀ x ∈ l.drop i, ¬ x < n) : insI l n = l.take i ++ n :: l.drop i := by
  have e : l = l.take i ++ l.drop i := (List.take_append_drop ..).symm
  unfold insI
  conv => lhs; rw [e]
  rw [List.filter_append, List.filter_append, List.filter_eq_self.2 (by simpa using h1), List.filter_eq_nil_iff.2 (by simpa using h2), List.filter_eq_nil_iff.2 (fun x hx => by simp [h1 x hx]), List.filter_eq_self.2 (fun x hx => by simp [h2 x hx]), List.append_nil, List.nil_append]
theorem insI_mem {l : List Int} {n x : Int} : x ∈ insI l n ↔ x ∈ l ∨ x = n := by
  unfold insI
  rw [List.mem_append, List.mem_cons, List.mem_filter, List.mem_filter]
  by_cases h : x < n <;> simp [h] <;> constructor <;> rintro (h1 | h1) <;> simp [h1]
theorem insI_rising {l : List Int} {n : Int} (h : risingI l) (hn : n ∉ l) : risingI (insI l n) := by
  unfold insI
  refine List.pairwise_append.2 ⟨h.sublist List.filter_sublist, List.pairwise_cons.2 ⟨fun y hy => ?_, h.sublist List.filter_sublist⟩, fun x hx y hy => ?_⟩
  · have h1 := List.mem_filter.1 hy
    have h2 : ¬ y < n := by simpa using h1.2
    have h3 : y ≠ n := fun e => hn (by rw [← e]; exact h1.1)
    omega
  · have h1 : x < n := by simpa using (List.mem_filter.1 hx).2
    rcases List.mem_cons.1 hy with rfl | hy
    · exact h1
    · have h2 : ¬ y < n := by simpa using (List.mem_filter.1 hy).2
      omega
theorem filt_len {α : Type} (p : α → Bool) : ∀ l : List α, (l.filter p).length + (l.filter fun x => !p x).length = l.length
  | [] => rfl
  | x :: l => by
    have ih := filt_len p l
    rw [List.filter_cons, List.filter_cons]
    cases hp : p x <;> simp <;> omega
theorem insI_len (l : List Int) (n : Int) : (insI l n).length = l.length + 1 := by
  unfold insI
  rw [List.length_append, List.length_cons]
  have := filt_len (fun x => decide (x < n)) l
  omega
theorem with_ok (l : List Int) (hl : tiny l) (hs : risingI l) (n : Int) (hn : n ∉ l) : ACalls Tryz.prog 58 [.d (.sl 1 (nums l)), .d (.int .i64 n)] [] (fun av L => av = .d (.sl 1 (nums (insI l n))) ∧ L = []) := by
  have hll := nums_length l
  have hin := in_ok l (by unfold few; unfold tiny at hl; omega) n
  rw [inI_not hn] at hin
  unfold tiny at hl
  refine acalls_go ttOk zOk foOk Tryz.func58 rfl Tryz.ntmps58 rfl false rfl ?_
  conv => whnf
  refine hin.mono ?_
  rintro _ _ ⟨rfl, rfl⟩
  conv => whnf
  refine rdz ?_; repeat' ((with_reducible apply tw) <;> intro _)
  refine loop_go ttOk zOk foOk (σ := Nat) (fun i => ([(0, .d (.sl 1 (nums l))), (1, .d (.int .i64 n)), (5, .d (.int .i64 i))], [])) (fun i => i ≤ l.length ∧ ∀ x ∈ l.take i, x < n) (fun i => l.length - i) [0, 1, 5] ?_ ?_
  · conv => whnf
    exact ⟨0, rfl, rfl, Nat.zero_le _, by simp⟩
  · rintro i ⟨hi, hall⟩
    have hdj : List.drop (Int.toNat 0) (List.take ((i : Int)).toNat (nums l)) = nums (l.take i) := by
      rw [show ((i : Int)).toNat = i from rfl, show Int.toNat 0 = 0 from rfl, List.drop_zero, nums_take']
    have hdj2 : List.drop ((i : Int)).toNat (List.take (((nums l).length : Int)).toNat (nums l)) = nums (l.drop i) := by
      rw [show ((i : Int)).toNat = i from rfl, show (((nums l).length : Int)).toNat = (nums l).length from rfl, List.take_length, nums_drop']
    have hcp : ACalls Tryz.prog 16 [.d (.sl 1 (List.drop (Int.toNat 0) (List.take ((i : Int)).toNat (nums l))))] [] (fun av L => av = .arr 0 ∧ L = [.row 3 1 (nums (l.take i)) false]) := by
      rw [hdj]
      exact copyNumbers_row _ (by unfold tiny; have := List.length_take_le' i l; omega)
    have hlt := List.length_take_le' i l
    have hld : (l.drop i).length ≤ l.length := by rw [List.length_drop]; omega
    conv => whnf
    refine rdz ?_; repeat' ((with_reducible apply tw) <;> intro _)
    · rename_i hil
      refine Exists.elim (⟨_, List.getElem?_eq_getElem (by omega)⟩ : ∃ y, l[i]? = some y) fun y hy => ?_
      refine ⟨by omega, [.int .i64 y], nums_at hy, ?_⟩
      conv => whnf
      refine rdz ?_; repeat' ((with_reducible apply tw) <;> intro _)
      · rename_i hyn
        refine ⟨i + 1, rfl, rfl, ⟨by omega, fun x hx => ?_⟩, by omega⟩
        rw [List.take_add_one, hy] at hx
        rcases List.mem_append.1 hx with hx | hx
        · exact hall x hx
        · simp at hx; rw [hx]; exact hyn
      · rename_i hyn
        have hge : ∀ x ∈ l.drop i, ¬ x < n := by
          intro x hx
          obtain ⟨h1, rfl⟩ := List.getElem?_eq_some_iff.1 hy
          obtain ⟨j, hj, rfl⟩ := List.mem_drop_iff_getElem.1 hx
          rcases Nat.eq_zero_or_pos j with rfl | h2
          · simpa using hyn
          · have := List.pairwise_iff_getElem.1 hs i (i + j) h1 (by omega) (by omega)
            omega
        rw [insI_at hall hge]
        refine ⟨by omega, by omega, by omega, ?_⟩
        conv => whnf
        refine hcp.mono ?_
        rintro _ _ ⟨rfl, rfl⟩
        conv => whnf
        refine ⟨by rw [nums_length, List.length_singleton]; show (_ + 1) * 8 ≤ _; omega, ?_⟩
        conv => whnf
        rw [nums_app]
        refine ⟨by omega, by omega, by omega, ?_⟩
        conv => whnf
        refine ⟨by rw [hdj2, nums_length, nums_length, List.length_append, List.length_singleton]; show (_ + 1 + _) * 8 ≤ _; omega, ?_⟩
        conv => whnf
        refine ⟨?_, rfl⟩
        rw [hdj2, nums_apps, List.append_assoc]
        rfl
    · rename_i hil
      have hge : ∀ x ∈ l.drop i, ¬ x < n := by
        intro x hx
        rw [List.drop_of_length_le (by omega)] at hx
        cases hx
      rw [insI_at hall hge]
      refine ⟨by omega, by omega, by omega, ?_⟩
      conv => whnf
      refine hcp.mono ?_
      rintro _ _ ⟨rfl, rfl⟩
      conv => whnf
      refine ⟨by rw [nums_length, List.length_singleton]; show (_ + 1) * 8 ≤ _; omega, ?_⟩
      conv => whnf
      rw [nums_app]
      refine ⟨by omega, by omega, by omega, ?_⟩
      conv => whnf
      refine ⟨by rw [hdj2, nums_length, nums_length, List.length_append, List.length_singleton]; show (_ + 1 + _) * 8 ≤ _; omega, ?_⟩
      conv => whnf
      refine ⟨?_, rfl⟩
      rw [hdj2, nums_apps, List.append_assoc]
      rfl
theorem headW_ok (c : Cert) (h : c.ok) : ACalls Tryz.prog 10 [c.hav] [] (fun av L => av = .d (.int .i64 (1 + c.bats.length + c.pars.length)) ∧ L = []) := by
  have h1 := h.bats.1
  have h2 := h.pars.1
  unfold few at h1 h2
  have e1 := nums_length c.bats
  have e2 := nums_length c.pars
  refine acalls_go ttOk zOk foOk Tryz.func10 rfl Tryz.ntmps10 rfl false rfl ?_
  conv => whnf
  rw [e1]
  refine rdw ?_; repeat' ((with_reducible apply tw) <;> intro _)
  rw [e2]
  refine rdw ?_; repeat' ((with_reducible apply tw) <;> intro _)
  exact ⟨rfl, rfl⟩
theorem certW_ok (c : Cert) (h : c.ok) : ACalls Tryz.prog 40 [c.av] [] (fun av L => av = .d (.int .i64 (1 + c.bats.length + c.pars.length + c.sigs.length)) ∧ L = []) := by
  have h1 := h.bats.1
  have h2 := h.pars.1
  have h3 := h.sigs.1
  unfold few at h1 h2 h3
  have e3 := nums_length c.sigs
  refine acalls_go ttOk zOk foOk Tryz.func40 rfl Tryz.ntmps40 rfl false rfl ?_
  conv => whnf
  ((with_reducible refine draw_pl ttOk zOk foOk mixedOk pl40x1 ?_ ?_); (focus kernel_rfl); (conv => whnf))
  refine rdw ?_; repeat' ((with_reducible apply tw) <;> intro _)
  refine (headW_ok c h).mono ?_
  rintro _ _ ⟨rfl, rfl⟩
  conv => whnf
  refine rdw ?_; repeat' ((with_reducible apply tw) <;> intro _)
  rw [e3]
  refine rdw ?_; repeat' ((with_reducible apply tw) <;> intro _)
  exact ⟨rfl, rfl⟩
theorem rising_ext : ∀ {a b : List Int}, risingI a → risingI b → (∀ x, x ∈ a ↔ x ∈ b) → a = b := by
  intro a b ha hb h
  have hp : a.Perm b := (List.perm_ext_iff_of_nodup (rising_nodup ha) (rising_nodup hb)).2 h
  exact hp.eq_of_pairwise (fun x y _ _ h1 h2 => by omega) ha hb
def Cert.light (c : Cert) : Prop := c.bats.length ≤ 3000 ∧ c.pars.length ≤ 3000 ∧ c.sigs.length ≤ 3000
theorem certsW3_ok (l : List Cert) (hl : few l) (h : ∀ c ∈ l, c.ok) : ACalls Tryz.prog 9 [.d (.sl 6 (certsD l))] [] (fun av L => (∃ n : Int, av = .d (.int .i64 n) ∧ (n ≤ 3000 → ∀ c ∈ l, c.light)) ∧ L = []) := by
  have hcl := certsD_length l
  unfold few at hl
  refine acalls_go ttOk zOk foOk Tryz.func9 rfl Tryz.ntmps9 rfl false rfl ?_
  conv => whnf
  refine loop_go2 ttOk zOk foOk (σ := Int) (ρ := Nat) (fun w j => ([(0, .d (.sl 6 (certsD l))), (3, .d (.int .i64 w)), (4, .d (.int .i64 j))], [])) (fun w j => j ≤ l.length ∧ (0 ≤ w ∧ w ≤ 1000000000000000) ∧ (w ≤ 3000 → ∀ c ∈ l.take j, c.light)) (fun _ j => l.length - j) [0, 3, 4] ?_ ?_
  · conv => whnf
    exact ⟨l.length, 0, by rw [hcl]; rfl, rfl, by omega, ⟨by omega, by omega⟩, by simp⟩
  · rintro w j ⟨hj, ⟨hw0, hw1⟩, hall⟩
    conv => whnf
    rw [hcl]
    refine rdz ?_; repeat' ((with_reducible apply tw) <;> intro _)
    · rename_i hjl hwl
      refine Exists.elim (⟨_, List.getElem?_eq_getElem (by omega)⟩ : ∃ c, l[j]? = some c) fun c hc => ?_
      have hk := h c (List.mem_of_getElem? hc)
      have h1 := hk.bats.1
      have h2 := hk.pars.1
      have h3 := hk.sigs.1
      unfold few at h1 h2 h3
      refine ⟨by omega, c.cs, certsD_at hc, ?_⟩
      conv => whnf
      refine (certW_ok c hk).mono ?_
      rintro _ _ ⟨rfl, rfl⟩
      conv => whnf
      refine rdz ?_; repeat' ((with_reducible apply tw) <;> intro _)
      refine ⟨_, j + 1, rfl, rfl, ⟨by omega, ⟨by omega, by omega⟩, fun hw y hy => ?_⟩, by omega⟩
      rw [take_snoc' hc] at hy
      rcases List.mem_append.1 hy with hy | hy
      · exact hall (by omega) y hy
      · simp at hy; rw [hy]; exact ⟨by omega, by omega, by omega⟩
    · exact ⟨⟨_, rfl, fun hw => by omega⟩, rfl⟩
    · rw [List.take_of_length_le (by omega)] at hall
      exact ⟨⟨_, rfl, hall⟩, rfl⟩
theorem heavyD3_ok (d : Dag) (h : d.ok) : ACalls Tryz.prog 8 [d.av] [] (fun av L => (∃ b, av = .d (.bool b) ∧ (b = false → d.certs.length ≤ 80 ∧ ∀ c ∈ d.certs, c.light)) ∧ L = []) := by
  have hcl := certsD_length d.certs
  refine acalls_go ttOk zOk foOk Tryz.func8 rfl Tryz.ntmps8 rfl false rfl ?_
  conv => whnf
  rw [hcl]
  refine rdz ?_; repeat' ((with_reducible apply tw) <;> intro _)
  · exact ⟨⟨_, rfl, by intro h; cases h⟩, rfl⟩
  · rename_i h80
    refine (certsW3_ok d.certs h.certs.1 h.certs.2).mono ?_
    rintro _ _ ⟨⟨n, rfl, hn⟩, rfl⟩
    conv => whnf
    exact ⟨⟨_, rfl, fun h3 => ⟨by omega, hn (by have := of_decide_eq_false h3; omega)⟩⟩, rfl⟩
theorem rNum_ok (n : Int) : ACalls Tryz.prog 46 [.d (.int .i64 n)] [] (fun av L => av = .d (.bool (decide (0 ≤ n ∧ n ≤ 1099511627776))) ∧ L = []) := by
  refine acalls_go ttOk zOk foOk Tryz.func46 rfl Tryz.ntmps46 rfl false rfl ?_
  conv => whnf
  refine rdz ?_; repeat' ((with_reducible apply tw) <;> intro _)
  · rename_i h1
    exact ⟨boolEq (by simp; omega), rfl⟩
  · rename_i h1
    exact ⟨by rw [decide_eq_false (by omega)]; rfl, rfl⟩
theorem Cert.light.all {c : Cert} (h : c.light) : fewL c ∧ c.tiny := by
  obtain ⟨h1, h2, h3⟩ := h
  exact ⟨⟨by unfold few; omega, by unfold few; omega, by unfold few; omega⟩, ⟨by show c.bats.length ≤ _; omega, by show c.pars.length ≤ _; omega, by show c.sigs.length ≤ _; omega⟩⟩
theorem ownCerts_row (l : List Cert) (hl : tiny l) (h : ∀ c ∈ l, c.tiny) : ACalls Tryz.prog 133 [.d (.sl 6 (certsD l))] [] (fun av L => av = .arr 0 ∧ L = [.row 40 6 (certsD l) false]) := by
  have hx := certsD_length l
  unfold tiny at hl
  refine acalls_go ttOk zOk foOk Tryz.func133 rfl Tryz.ntmps133 rfl true rfl ?_
  conv => whnf
  refine loop_go ttOk zOk foOk (σ := Nat) (fun k => ([(5, .d (.sl 6 (certsD l))), (6, .d (.int .i64 l.length)), (7, .d (.int .i64 k)), (2, .arr 0)], [.row 40 6 (certsD (l.take k)) false])) (fun k => k ≤ l.length) (fun k => l.length - k) [5, 6, 7, 2] ?_ ?_
  · conv => whnf
    exact ⟨0, by rw [hx]; rfl, rfl, by omega⟩
  · intro k hk
    conv => whnf
    refine rdz ?_; repeat' ((with_reducible apply tw) <;> intro _)
    · rename_i h2
      refine Exists.elim (⟨_, List.getElem?_eq_getElem (by omega)⟩ : ∃ a, l[k]? = some a) fun a ha => ?_
      have hkn := certsD_length (l.take k)
      refine ⟨by omega, a.cs, certsD_at ha, ?_⟩
      conv => whnf
      refine rdz ?_; repeat' ((with_reducible apply tw) <;> intro _)
      refine (ownCert_ok a (h a (List.mem_of_getElem? ha))).mono ?_
      rintro _ _ ⟨rfl, rfl⟩
      conv => whnf
      refine rdz ?_; repeat' ((with_reducible apply tw) <;> intro _)
      refine ⟨by simp [hkn]; omega, ?_⟩
      conv => whnf
      refine rdz ?_; repeat' ((with_reducible apply tw) <;> intro _)
      refine ⟨k + 1, rfl, ?_, by omega, by omega⟩
      rw [List.take_add_one, ha]
      simp [certsD, Cert.cs]
    · rename_i h2
      rw [List.take_of_length_le (by omega)]
      exact ⟨rfl, rfl⟩
theorem dagOwn_row (d : Dag) (hl : tiny d.certs) (h : ∀ c ∈ d.certs, c.tiny) : ACalls Tryz.prog 132 [d.av] [] (fun av L => av = .agg [.d (.int .i64 d.nodes), .d (.int .i64 d.low), .arr 0] ∧ L = [.row 40 6 (certsD d.certs) false]) := by
  have h1 := ownCerts_row d.certs hl h
  refine acalls_go ttOk zOk foOk Tryz.func132 rfl Tryz.ntmps132 rfl true rfl ?_
  conv => whnf
  refine h1.mono ?_
  rintro _ _ ⟨rfl, rfl⟩
  conv => whnf
  refine rdz ?_; repeat' ((with_reducible apply tw) <;> intro _)
  exact ⟨rfl, rfl⟩
theorem dagOwn_ok (d : Dag) (hl : tiny d.certs) (h : ∀ c ∈ d.certs, c.tiny) : ACalls Tryz.prog 132 [d.av] [] (fun av L => av = d.av ∧ L = []) := by
  refine acalls_data (dagOwn_row d hl h) ?_
  rintro _ _ ⟨rfl, rfl⟩
  conv => whnf
  exact ⟨rfl, rfl⟩
theorem few_nil {α : Type} : few ([] : List α) := Nat.zero_le _
theorem cloneV_row (l : List Vote) (hl : l.length ≤ 1099511627776) : ACalls Tryz.prog 131 [.d (.sl 3 (votesD l))] [] (fun av L => av = .arr 0 ∧ L = [.row 115 3 (votesD l) false]) := by
  have hll := votesD_length l
  refine acalls_go ttOk zOk foOk Tryz.func131 rfl Tryz.ntmps131 rfl true rfl ?_
  conv => whnf
  intro b hb
  conv => whnf
  refine rdw ?_; repeat' ((with_reducible apply tw) <;> intro _)
  · rename_i h
    have : l = [] := by simpa [votesD] using hb h
    subst this
    exact ⟨rfl, rfl⟩
  · rename_i h
    refine ⟨by rw [hll]; show (0 + l.length) * 24 ≤ _; omega, ?_⟩
    conv => whnf
    exact ⟨rfl, rfl⟩
theorem cloneV_ok (l : List Vote) (hl : l.length ≤ 1099511627776) : ACalls Tryz.prog 131 [.d (.sl 3 (votesD l))] [] (fun av L => av = .d (.sl 3 (votesD l)) ∧ L = []) := by
  refine acalls_data (cloneV_row l hl) ?_
  rintro _ _ ⟨rfl, rfl⟩
  conv => whnf
  exact ⟨rfl, rfl⟩
theorem ownCerts_ok (l : List Cert) (hl : tiny l) (h : ∀ c ∈ l, c.tiny) : ACalls Tryz.prog 133 [.d (.sl 6 (certsD l))] [] (fun av L => av = .d (.sl 6 (certsD l)) ∧ L = []) := by
  refine acalls_data (ownCerts_row l hl h) ?_
  rintro _ _ ⟨rfl, rfl⟩
  conv => whnf
  exact ⟨rfl, rfl⟩
structure Prim.tiny (p : Prim) : Prop where
  mine : p.mine.tiny
  acks : p.acks.length ≤ 1099511627776
  votes : p.votes.length ≤ 1099511627776
  dag : Go.Proofs.YtpgnaajkeeenbaaGreat.tiny p.dag.certs ∧ ∀ c ∈ p.dag.certs, c.tiny
  late : Go.Proofs.YtpgnaajkeeenbaaGreat.tiny p.late ∧ ∀ c ∈ p.late, c.tiny
theorem primOwn_ok (p : Prim) (h : p.tiny) : ACalls Tryz.prog 73 [p.av] [] (fun av L => av = p.av ∧ L = []) := by
  refine acalls_go ttOk zOk foOk Tryz.func73 rfl Tryz.ntmps73 rfl false rfl ?_
  conv => whnf
  ((with_reducible refine draw_pl ttOk zOk foOk mixedOk pl73x1 ?_ ?_); (focus kernel_rfl); (conv => whnf))
  refine rdw ?_; repeat' ((with_reducible apply tw) <;> intro _)
  refine (own_ok p.mine h.mine).mono ?_
  rintro _ _ ⟨rfl, rfl⟩
  conv => whnf
  refine rdw ?_; repeat' ((with_reducible apply tw) <;> intro _)
  refine (cloneI_ok p.acks h.acks).mono ?_
  rintro _ _ ⟨rfl, rfl⟩
  conv => whnf
  refine rdw ?_; repeat' ((with_reducible apply tw) <;> intro _)
  refine (cloneV_ok p.votes h.votes).mono ?_
  rintro _ _ ⟨rfl, rfl⟩
  conv => whnf
  refine rdw ?_; repeat' ((with_reducible apply tw) <;> intro _)
  ((with_reducible refine draw_pl ttOk zOk foOk mixedOk pl73x2 ?_ ?_); (focus kernel_rfl); (conv => whnf))
  refine rdw ?_; repeat' ((with_reducible apply tw) <;> intro _)
  refine (dagOwn_ok p.dag h.dag.1 h.dag.2).mono ?_
  rintro _ _ ⟨rfl, rfl⟩
  conv => whnf
  refine rdw ?_; repeat' ((with_reducible apply tw) <;> intro _)
  refine (ownCerts_ok p.late h.late.1 h.late.2).mono ?_
  rintro _ _ ⟨rfl, rfl⟩
  conv => whnf
  refine rdw ?_; repeat' ((with_reducible apply tw) <;> intro _)
  exact ⟨rfl, rfl⟩
end Go.Proofs.YtpgnaajkeeenbaaGreat
