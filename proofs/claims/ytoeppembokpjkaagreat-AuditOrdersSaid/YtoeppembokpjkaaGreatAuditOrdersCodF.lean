/- Part of the proof of AuditOrders: the contracts of the functions. -/
import Derived.Test.YtoeppembokpjkaaGreatAuditOrdersCodE

set_option linter.unusedVariables false
set_option linter.unusedSimpArgs false
namespace Go.Proofs.YtoeppembokpjkaaGreat
open Go.Ab Go.RowKit Go.MapKept
attribute [local irreducible] ACalls AW ADraw Into fltB fnear
set_option maxRecDepth 100000
/-! ## the next round that is settled; chains -/
theorem settled_cert {d : Dag} (h : Valid d) {r : Int} (hs : settled d r = true) : ∃ c ∈ d.certs, c.round = r := by
  have hn := of_decide_eq_true h.nodes
  obtain ⟨c, h1, h2, _⟩ := (anchor_at h).1 (settled_anchor (show 0 < d.nodes by omega) hs)
  exact ⟨c, h1, h2⟩
theorem next_least {d : Dag} (h : Valid d) {after r : Int} (ha : 0 ≤ after) (ha2 : after % 2 = 0) (hr : after < r) (hr2 : r % 2 = 0) (hs : settled d r = true) (hq : ∀ q, after < q → q < r → q % 2 = 0 → settled d q = false) : nextC d after = r := by
  obtain ⟨c, hc, hcr⟩ := settled_cert h hs
  have h1 := h.above c hc
  have h0 := h.low
  unfold nextC
  obtain ⟨m, hm⟩ : ∃ m, max after (d.low - d.low % 2) + 2 = m := ⟨_, rfl⟩
  rw [hm]
  have hm2 : m % 2 = r % 2 ∧ 0 < m ∧ m ≤ r ∧ after < m := by omega
  obtain ⟨h3, h4⟩ := nextR_le h hs m hm2.2.1 hm2.2.2.1 hm2.1
  rcases nextR_spec d m with h5 | ⟨h5, _, h6, h7⟩
  · omega
  · by_cases h8 : nextR d m = r
    · exact h8
    · have := hq (nextR d m) (by omega) (by omega) (by omega)
      rw [h6] at this; cases this
theorem next_none {d : Dag} (h : Valid d) {after : Int} (ha : 0 ≤ after) (ha2 : after % 2 = 0) (hq : ∀ q, after < q → q % 2 = 0 → settled d q = false) : nextC d after = 0 := by
  have h0 := h.low
  unfold nextC
  obtain ⟨m, hm⟩ : ∃ m, max after (d.low - d.low % 2) + 2 = m := ⟨_, rfl⟩
  rw [hm]
  rcases nextR_spec d m with h5 | ⟨h5, _, h6, h7⟩
  · exact h5
  · have := hq (nextR d m) (by omega) (by omega)
    rw [h6] at this; cases this
theorem round_ahead {d : Dag} (h : Valid d) {i : Nat} {c c' : Cert} (hi : d.certs[i]? = some c) (hc : c' ∈ d.certs) (hr : c'.round < c.round) : c' ∈ d.certs.take i := by
  obtain ⟨k, hk, rfl⟩ := List.mem_iff_getElem.1 hc
  obtain ⟨hil, rfl⟩ := List.getElem?_eq_some_iff.1 hi
  rcases Nat.lt_or_ge k i with h1 | h1
  · exact List.mem_take_iff_getElem.2 ⟨k, by omega, rfl⟩
  · exfalso
    rcases Nat.lt_or_ge i k with h2 | h2
    · have := before_iff.1 (List.pairwise_iff_getElem.1 h.sorted i k hil hk h2)
      omega
    · have : i = k := by omega
      subst this
      omega
set_option maxHeartbeats 1000000 in
theorem rNext_ok (d : Dag) (h : Valid d) (after : Int) (ha : 0 ≤ after ∧ after ≤ 1099511627776) (ha2 : after % 2 = 0) : ACalls Tryz.prog 49 [d.av, .d (.int .i64 after)] [] (fun av L => av = .d (.int .i64 (nextC d after)) ∧ L = []) := by
  have hcl := certsD_length d.certs
  have hlen := h.len
  have hnn := of_decide_eq_true h.nodes
  have hw := h.well
  refine acalls_go ttOk zOk foOk Tryz.func49 rfl Tryz.ntmps49 rfl false rfl ?_
  conv => whnf
  refine loop_go ttOk zOk foOk (σ := Int × Nat) (fun s => ([(1, .d (.int .i64 after)), (2, .ptr 0 0), (5, .d (.int .i64 s.1)), (6, .d (.int .i64 s.2))], [.cells d.cells])) (fun s => s.2 ≤ d.certs.length ∧ (s.1 = 0 ∨ settled d s.1 = false) ∧ ∀ c ∈ d.certs.take s.2, after < c.round → c.round % 2 = 0 → settled d c.round = false) (fun s => d.certs.length - s.2) [1, 2, 5, 6] ?_ ?_
  · conv => whnf
    exact ⟨(0, 0), rfl, rfl, Nat.zero_le _, .inl rfl, by simp⟩
  · rintro ⟨last, i⟩ ⟨hi, hla, hall⟩
    replace hi : i ≤ d.certs.length := hi
    replace hla : last = 0 ∨ settled d last = false := hla
    replace hall : ∀ c ∈ d.certs.take i, after < c.round → c.round % 2 = 0 → settled d c.round = false := hall
    conv => whnf
    repeat' (first | ((with_reducible apply z_wrap); (focus omega); (conv => whnf)) | ((with_reducible first | apply mt_dec | apply mt_eq | apply mt_ne | apply mt_not | apply mt_any) <;> (intro _; conv => whnf)))
    · rename_i hil
      refine Exists.elim (⟨_, List.getElem?_eq_getElem (by omega)⟩ : ∃ c, d.certs[i]? = some c) fun c hc => ?_
      have hcm := List.mem_of_getElem? hc
      have hrb := (h.certs c hcm).head.round
      have hon : (after < c.round → c.round % 2 = 0 → settled d c.round = false) → ∀ y ∈ d.certs.take (i + 1), after < y.round → y.round % 2 = 0 → settled d y.round = false := by
        intro hn y hy
        rw [take_snoc' hc] at hy
        rcases List.mem_append.1 hy with hy | hy
        · exact hall y hy
        · simp at hy; rw [hy]; exact hn
      refine ⟨by omega, c.cs, certsD_at hc, ?_⟩
      conv => whnf
      repeat' (first | ((with_reducible apply z_wrap); (focus omega); (conv => whnf)) | ((with_reducible first | apply mt_dec | apply mt_eq | apply mt_ne | apply mt_not | apply mt_any) <;> (intro _; conv => whnf)))
      · rename_i hra
        refine ⟨by decide, ?_⟩
        intro z hz
        replace hz : z = c.round % 2 := tmod_pos (by omega) hz
        conv => whnf
        repeat' (first | ((with_reducible apply z_wrap); (focus omega); (conv => whnf)) | ((with_reducible first | apply mt_dec | apply mt_eq | apply mt_ne | apply mt_not | apply mt_any) <;> (intro _; conv => whnf)))
        · rename_i h2 h3
          refine (rDirect_ok d h.few' hw.nodes (by omega) hw.pars c.round ⟨by omega, by omega⟩).mono ?_
          rintro _ _ ⟨rfl, rfl⟩
          cases hs : settled d c.round with
          | true =>
            conv => whnf
            repeat' (first | ((with_reducible apply z_wrap); (focus omega); (conv => whnf)) | ((with_reducible first | apply mt_dec | apply mt_eq | apply mt_ne | apply mt_not | apply mt_any) <;> (intro _; conv => whnf)))
            refine ⟨?_, rfl⟩
            rw [next_least h ha.1 ha2 (show after < c.round from hra) (by omega) hs fun q h4 h5 h6 => ?_]
            cases hq : settled d q with
            | false => rfl
            | true =>
              obtain ⟨c', k1, k2⟩ := settled_cert h hq
              have k3 := hall c' (round_ahead h hc k1 (by omega)) (by omega) (by omega)
              rw [k2, hq] at k3; cases k3
          | false =>
            conv => whnf
            repeat' (first | ((with_reducible apply z_wrap); (focus omega); (conv => whnf)) | ((with_reducible first | apply mt_dec | apply mt_eq | apply mt_ne | apply mt_not | apply mt_any) <;> (intro _; conv => whnf)))
            exact ⟨(c.round, i + 1), rfl, rfl, ⟨by show i + 1 ≤ _; omega, .inr hs, hon fun _ _ => hs⟩, by show _ - (i + 1) < _ - i; omega⟩
        · rename_i h2 h3
          refine ⟨(last, i + 1), rfl, rfl, ⟨by show i + 1 ≤ _; omega, hla, hon fun _ _ => ?_⟩, by show _ - (i + 1) < _ - i; omega⟩
          rw [h3]
          rcases hla with h4 | h4
          · omega
          · exact h4
        · rename_i h2
          exact ⟨(last, i + 1), rfl, rfl, ⟨by show i + 1 ≤ _; omega, hla, hon fun _ h3 => absurd (by rw [hz]; exact h3) h2⟩, by show _ - (i + 1) < _ - i; omega⟩
      · rename_i hra
        exact ⟨(last, i + 1), rfl, rfl, ⟨by show i + 1 ≤ _; omega, hla, hon fun h3 => absurd h3 hra⟩, by show _ - (i + 1) < _ - i; omega⟩
    · rename_i hil
      rw [List.take_of_length_le (by omega)] at hall
      refine ⟨?_, rfl⟩
      have hno : ∀ q, after < q → q % 2 = 0 → settled d q = false := ?_
      · rw [next_none h ha.1 ha2 hno]; rfl
      intro q h4 h6
      cases hq : settled d q with
      | false => rfl
      | true =>
        obtain ⟨c', k1, k2⟩ := settled_cert h hq
        have k3 := hall c' k1 (by omega) (by omega)
        rw [k2, hq] at k3; cases k3
theorem backR_low {d : Dag} (h : Valid d) (after : Int) : ∀ (n : Nat) (q : Int) (i : Nat), (q - after).toNat ≤ n → (∀ c ∈ d.certs, q < c.round) → backR d after (q + 2) i = []
  | n, q, i, hn, hq => by
    by_cases h1 : q ≤ after ∨ q ≤ d.low
    · exact back_end (by rw [Int.add_sub_cancel]; exact h1)
    · have h2 : anchorI d q = 0 := by
        by_cases h3 : anchorI d q = 0
        · exact h3
        · obtain ⟨c, h4, h5, _⟩ := (anchor_at h).1 h3
          have := hq c h4
          omega
      cases n with
      | zero => omega
      | succ n =>
        rw [back_no (by rw [Int.add_sub_cancel]; exact h1) (by rw [Int.add_sub_cancel]; exact h2), show q + 2 - 2 = (q - 2) + 2 by omega]
        exact backR_low h after n (q - 2) i (by omega) fun c hc => by have := hq c hc; omega
def chSt (d : Dag) (after r0 lowest : Int) : Int × Nat × Cert × List Int → AF × List AB
  | (q, _, c, l) => ([(1, .d (.int .i64 after)), (3, .ptr 0 0), (7, .d (.int .i64 c.digest)), (8, .arr 1), (9, .d (.int .i64 lowest)), (10, .d (.int .i64 q))], [.cells d.cells, .row 3 1 (nums l) false])
def chInv (d : Dag) (after r0 : Int) : Int × Nat × Cert × List Int → Prop
  | (q, i, c, l) => d.certs[i]? = some c ∧ q % 2 = 0 ∧ -2 ≤ q ∧ q < r0 ∧ (l.length : Int) ≤ r0 - q ∧ backI d after r0 = (backR d after (q + 2) i).reverse ++ l
set_option maxHeartbeats 1000000 in
theorem rChain_ok (d : Dag) (h : Valid d) (after r0 : Int) (ha : 0 ≤ after) (hr : after < r0) (hr2 : r0 % 2 = 0) (hr3 : 2 ≤ r0 ∧ r0 ≤ 1099511627776) (h0 : anchorI d r0 ≠ 0) :
    ACalls Tryz.prog 50 [d.av, .d (.int .i64 after), .d (.int .i64 r0)] [] (fun av L => av = .d (.sl 1 (nums (backI d after r0))) ∧ L = []) := by
  have hcl := certsD_length d.certs
  have hlen := h.len
  have hlow := h.low
  have hw := h.well
  have han := fun q (hq : 2 ≤ q ∧ q ≤ 1099511627777) => rAnchor_ok d h.few' hw.nodes q hq
  have han0 := han r0 ⟨hr3.1, by omega⟩
  obtain ⟨i0, a0, hg0, hi0, hd0, hil0⟩ := anchor_get h0
  rw [← hd0] at han0
  refine Exists.elim (⟨_, List.getElem?_eq_getElem (by omega)⟩ : ∃ c, d.certs[0]? = some c) fun c1 hc1 => ?_
  have hc1b := (h.certs c1 (List.mem_of_getElem? hc1)).head.round
  have hc1a := h.above c1 (List.mem_of_getElem? hc1)
  have hlowest : ∀ c ∈ d.certs, c1.round ≤ c.round := by
    intro c hc
    by_cases h1 : c1.round ≤ c.round
    · exact h1
    · have := round_ahead h hc1 hc (by omega)
      simp at this
  refine acalls_go ttOk zOk foOk Tryz.func50 rfl Tryz.ntmps50 rfl false rfl ?_
  conv => whnf
  refine han0.mono ?_
  rintro _ _ ⟨rfl, rfl⟩
  conv => whnf
  repeat' (first | ((with_reducible apply z_wrap); (focus omega); (conv => whnf)) | ((with_reducible first | apply mt_dec | apply mt_eq | apply mt_ne | apply mt_not | apply mt_any) <;> (intro _; conv => whnf)))
  · refine ⟨by omega, c1.cs, certsD_at hc1, ?_⟩
    conv => whnf
    repeat' (first | ((with_reducible apply z_wrap); (focus omega); (conv => whnf)) | ((with_reducible first | apply mt_dec | apply mt_eq | apply mt_ne | apply mt_not | apply mt_any) <;> (intro _; conv => whnf)))
    refine loop_go ttOk zOk foOk (σ := Int × Nat × Cert × List Int) (chSt d after r0 c1.round) (chInv d after r0) (fun s => (s.1 + 2).toNat) [1, 3, 7, 8, 9, 10] ?_ ?_
    · conv => whnf
      refine ⟨(r0 - 2, i0, a0, [a0.digest]), rfl, rfl, hi0, by omega, by omega, by omega, by show (1 : Int) ≤ _; omega, ?_⟩
      rw [backI, hg0, Option.getD_some, Int.sub_add_cancel, List.reverse_cons, ← hd0]
    · rintro ⟨q, i, c, l⟩ ⟨hi, hq2, hq3, hq4, hl, hb⟩
      conv => whnf
      repeat' (first | ((with_reducible apply z_wrap); (focus omega); (conv => whnf)) | ((with_reducible first | apply mt_dec | apply mt_eq | apply mt_ne | apply mt_not | apply mt_any) <;> (intro _; conv => whnf)))
      · rename_i hqa hql
        refine (han q ⟨by omega, by omega⟩).mono ?_
        rintro _ _ ⟨rfl, rfl⟩
        conv => whnf
        repeat' (first | ((with_reducible apply z_wrap); (focus omega); (conv => whnf)) | ((with_reducible first | apply mt_dec | apply mt_eq | apply mt_ne | apply mt_not | apply mt_any) <;> (intro _; conv => whnf)))
        · rename_i hap
          have hne : anchorI d q ≠ 0 := by omega
          obtain ⟨j, c', hgj, hj, hdj, hjl⟩ := anchor_get hne
          have hre := rReach_ok d h hi hj
          rw [hdj] at hre
          rw [back_yes (by rw [Int.add_sub_cancel]; omega) (by rw [Int.add_sub_cancel]; exact hne) (by rw [Int.add_sub_cancel]; exact hgj), Int.add_sub_cancel] at hb
          refine hre.mono ?_
          rintro _ _ ⟨rfl, rfl⟩
          cases hrj : reachJ d i j with
          | true =>
            rw [hrj, if_pos rfl, List.reverse_cons, List.append_assoc] at hb
            conv => whnf
            repeat' (first | ((with_reducible apply z_wrap); (focus omega); (conv => whnf)) | ((with_reducible first | apply mt_dec | apply mt_eq | apply mt_ne | apply mt_not | apply mt_any) <;> (intro _; conv => whnf)))
            refine ⟨by rw [nums_length, List.length_singleton]; show (1 + _) * 8 ≤ _; omega, ?_⟩
            conv => whnf
            repeat' (first | ((with_reducible apply z_wrap); (focus omega); (conv => whnf)) | ((with_reducible first | apply mt_dec | apply mt_eq | apply mt_ne | apply mt_not | apply mt_any) <;> (intro _; conv => whnf)))
            refine ⟨(q - 2, j, c', anchorI d q :: l), ?_, rfl, ⟨hj, by omega, by omega, by omega, by rw [List.length_cons]; omega, by rw [Int.sub_add_cancel]; exact hb⟩, by show (q - 2 + 2).toNat < (q + 2).toNat; omega⟩
            simp only [chSt, hdj]
          | false =>
            rw [hrj, if_neg (by simp)] at hb
            conv => whnf
            repeat' (first | ((with_reducible apply z_wrap); (focus omega); (conv => whnf)) | ((with_reducible first | apply mt_dec | apply mt_eq | apply mt_ne | apply mt_not | apply mt_any) <;> (intro _; conv => whnf)))
            refine ⟨(q - 2, i, c, l), rfl, rfl, ⟨hi, by omega, by omega, by omega, by omega, by rw [Int.sub_add_cancel]; exact hb⟩, by show (q - 2 + 2).toNat < (q + 2).toNat; omega⟩
        · rename_i hap
          have hz : anchorI d q = 0 := by
            by_cases h1 : anchorI d q = 0
            · exact h1
            · obtain ⟨j, c', hgj, hj, hdj, hjl⟩ := anchor_get h1
              have := hw.pos c' (List.mem_of_getElem? hj)
              omega
          rw [back_no (by rw [Int.add_sub_cancel]; omega) (by rw [Int.add_sub_cancel]; exact hz), Int.add_sub_cancel] at hb
          refine ⟨(q - 2, i, c, l), rfl, rfl, ⟨hi, by omega, by omega, by omega, by omega, by rw [Int.sub_add_cancel]; exact hb⟩, by show (q - 2 + 2).toNat < (q + 2).toNat; omega⟩
      · rename_i hqa hql
        rw [backR_low h after _ q i (Nat.le_refl _) fun c hc => by have := hlowest c hc; omega] at hb
        rw [hb]
        exact ⟨rfl, rfl⟩
      · rename_i hqa
        rw [back_end (.inl (by rw [Int.add_sub_cancel]; omega))] at hb
        rw [hb]
        exact ⟨rfl, rfl⟩
  · rename_i hx; exact absurd hx (by omega)
end Go.Proofs.YtoeppembokpjkaaGreat

namespace Go.Proofs.YtoeppembokpjkaaGreat
open Go.Ab Go.RowKit Go.MapKept
attribute [local irreducible] ACalls AW ADraw Into fltB fnear
set_option maxRecDepth 100000
/-! ## the page's With, of a number that is not there -/
theorem copyNumbers_row (xs : List Int) (hm : tiny xs) : ACalls Tryz.prog 38 [.d (.sl 1 (nums xs))] [] (fun av L => av = .arr 0 ∧ L = [.row 3 1 (nums xs) false]) := by
  have hx := nums_length xs
  unfold tiny at hm
  refine acalls_go ttOk zOk foOk Tryz.func38 rfl Tryz.ntmps38 rfl true rfl ?_
  conv => whnf
  refine loop_go ttOk zOk foOk (σ := Nat) (fun k => ([(0, .d (.sl 1 (nums xs))), (3, .arr 0), (4, .d (.int .i64 k))], [.row 3 1 (nums (xs.take k)) false])) (fun k => k ≤ xs.length) (fun k => xs.length - k) [0, 3, 4] ?_ ?_
  · conv => whnf
    exact ⟨0, rfl, rfl, by omega⟩
  · intro k hk
    conv => whnf
    rw [hx]
    repeat' (first | ((with_reducible apply z_wrap); (focus omega); (conv => whnf)) | ((with_reducible first | apply mt_dec | apply mt_eq | apply mt_ne | apply mt_not | apply mt_any) <;> (intro _; conv => whnf)))
    · rename_i h
      refine Exists.elim (⟨_, List.getElem?_eq_getElem (by omega)⟩ : ∃ a, xs[k]? = some a) fun a ha => ?_
      have hkn := nums_length (xs.take k)
      refine ⟨by omega, [.int .i64 a], nums_at ha, ?_⟩
      conv => whnf
      repeat' (first | ((with_reducible apply z_wrap); (focus omega); (conv => whnf)) | ((with_reducible first | apply mt_dec | apply mt_eq | apply mt_ne | apply mt_not | apply mt_any) <;> (intro _; conv => whnf)))
      refine ⟨by simp [hkn]; omega, ?_⟩
      conv => whnf
      repeat' (first | ((with_reducible apply z_wrap); (focus omega); (conv => whnf)) | ((with_reducible first | apply mt_dec | apply mt_eq | apply mt_ne | apply mt_not | apply mt_any) <;> (intro _; conv => whnf)))
      refine ⟨k + 1, rfl, ?_, by omega, by omega⟩
      rw [List.take_add_one, ha, ← nums_apps]
      rfl
    · rename_i h
      rw [List.take_of_length_le (by omega)]
      exact ⟨rfl, rfl⟩
theorem nums_take' (l : List Int) (n : Nat) : (nums l).take n = nums (l.take n) := by simp [nums]
theorem nums_drop' (l : List Int) (n : Nat) : (nums l).drop n = nums (l.drop n) := by simp [nums]
def insI (l : List Int) (n : Int) : List Int := l.filter (fun x => decide (x < n)) ++ n :: l.filter (fun x => !decide (x < n))
theorem insI_at {l : List Int} {n : Int} {i : Nat} (h1 : ∀ x ∈ l.take i, x < n) (h2 : ∀ x ∈ l.drop i, ¬ x < n) : insI l n = l.take i ++ n :: l.drop i := by
  have e : l = l.take i ++ l.drop i := (List.take_append_drop ..).symm
  unfold insI
  conv => lhs; rw [e]
  rw [List.filter_append, List.filter_append, List.filter_eq_self.2 (by simpa using h1), List.filter_eq_nil_iff.2 (by simpa using h2), List.filter_eq_nil_iff.2 (fun x hx => by simp [h1 x hx]), List.filter_eq_self.2 (fun x hx => by simp [h2 x hx]), List.append_nil, List.nil_append]
theorem insI_mem {l : List Int} {n x : Int} : x ∈ insI l n ↔ x ∈ l ∨ x = n := by
  unfold insI
  rw [List.mem_append, List.mem_cons, List.mem_filter, List.mem_filter]
  by_cases h : x < n <;> simp [h] <;> constructor <;> rintro (h1 | h1) <;> simp [h1]
theorem insI_rising {l : List Int} {n : Int} (h : risingI l) (hn : n ∉ l) : risingI (insI l n) := by
  unfold insI
  refine List.pairwise_append.2 ⟨h.sublist List.filter_sublist, List.pairwise_cons.2 ⟨fun y hy => ?_, h.sublist List.filter_sublist⟩, fun x hx y hy => ?_⟩
  · have h1 := List.mem_filter.1 hy
    have h2 : ¬ y < n := by simpa using h1.2
    have h3 : y ≠ n := fun e => hn (by rw [← e]; exact h1.1)
    omega
  · have h1 : x < n := by simpa using (List.mem_filter.1 hx).2
    rcases List.mem_cons.1 hy with rfl | hy
    · exact h1
    · have h2 : ¬ y < n := by simpa using (List.mem_filter.1 hy).2
      omega
theorem filt_len {α : Type} (p : α → Bool) : ∀ l : List α, (l.filter p).length + (l.filter fun x => !p x).length = l.length
  | [] => rfl
  | x :: l => by
    have ih := filt_len p l
    rw [List.filter_cons, List.filter_cons]
    cases hp : p x <;> simp <;> omega
theorem insI_len (l : List Int) (n : Int) : (insI l n).length = l.length + 1 := by
  unfold insI
  rw [List.length_append, List.length_cons]
  have := filt_len (fun x => decide (x < n)) l
  omega
theorem with_ok (l : List Int) (hl : tiny l) (hs : risingI l) (n : Int) (hn : n ∉ l) : ACalls Tryz.prog 53 [.d (.sl 1 (nums l)), .d (.int .i64 n)] [] (fun av L => av = .d (.sl 1 (nums (insI l n))) ∧ L = []) := by
  have hll := nums_length l
  have hin := in_ok l (by unfold few; unfold tiny at hl; omega) n
  rw [inI_not hn] at hin
  unfold tiny at hl
  refine acalls_go ttOk zOk foOk Tryz.func53 rfl Tryz.ntmps53 rfl false rfl ?_
  conv => whnf
  refine hin.mono ?_
  rintro _ _ ⟨rfl, rfl⟩
  conv => whnf
  repeat' (first | ((with_reducible apply z_wrap); (focus omega); (conv => whnf)) | ((with_reducible first | apply mt_dec | apply mt_eq | apply mt_ne | apply mt_not | apply mt_any) <;> (intro _; conv => whnf)))
  refine loop_go ttOk zOk foOk (σ := Nat) (fun i => ([(0, .d (.sl 1 (nums l))), (1, .d (.int .i64 n)), (5, .d (.int .i64 i))], [])) (fun i => i ≤ l.length ∧ ∀ x ∈ l.take i, x < n) (fun i => l.length - i) [0, 1, 5] ?_ ?_
  · conv => whnf
    exact ⟨0, rfl, rfl, Nat.zero_le _, by simp⟩
  · rintro i ⟨hi, hall⟩
    have hdj : List.drop (Int.toNat 0) (List.take ((i : Int)).toNat (nums l)) = nums (l.take i) := by
      rw [show ((i : Int)).toNat = i from rfl, show Int.toNat 0 = 0 from rfl, List.drop_zero, nums_take']
    have hdj2 : List.drop ((i : Int)).toNat (List.take (((nums l).length : Int)).toNat (nums l)) = nums (l.drop i) := by
      rw [show ((i : Int)).toNat = i from rfl, show (((nums l).length : Int)).toNat = (nums l).length from rfl, List.take_length, nums_drop']
    have hcp : ACalls Tryz.prog 38 [.d (.sl 1 (List.drop (Int.toNat 0) (List.take ((i : Int)).toNat (nums l))))] [] (fun av L => av = .arr 0 ∧ L = [.row 3 1 (nums (l.take i)) false]) := by
      rw [hdj]
      exact copyNumbers_row _ (by unfold tiny; have := List.length_take_le' i l; omega)
    have hlt := List.length_take_le' i l
    have hld : (l.drop i).length ≤ l.length := by rw [List.length_drop]; omega
    conv => whnf
    repeat' (first | ((with_reducible apply z_wrap); (focus omega); (conv => whnf)) | ((with_reducible first | apply mt_dec | apply mt_eq | apply mt_ne | apply mt_not | apply mt_any) <;> (intro _; conv => whnf)))
    · rename_i hil
      refine Exists.elim (⟨_, List.getElem?_eq_getElem (by omega)⟩ : ∃ y, l[i]? = some y) fun y hy => ?_
      refine ⟨by omega, [.int .i64 y], nums_at hy, ?_⟩
      conv => whnf
      repeat' (first | ((with_reducible apply z_wrap); (focus omega); (conv => whnf)) | ((with_reducible first | apply mt_dec | apply mt_eq | apply mt_ne | apply mt_not | apply mt_any) <;> (intro _; conv => whnf)))
      · rename_i hyn
        refine ⟨i + 1, rfl, rfl, ⟨by omega, fun x hx => ?_⟩, by omega⟩
        rw [List.take_add_one, hy] at hx
        rcases List.mem_append.1 hx with hx | hx
        · exact hall x hx
        · simp at hx; rw [hx]; exact hyn
      · rename_i hyn
        have hge : ∀ x ∈ l.drop i, ¬ x < n := by
          intro x hx
          obtain ⟨h1, rfl⟩ := List.getElem?_eq_some_iff.1 hy
          obtain ⟨j, hj, rfl⟩ := List.mem_drop_iff_getElem.1 hx
          rcases Nat.eq_zero_or_pos j with rfl | h2
          · simpa using hyn
          · have := List.pairwise_iff_getElem.1 hs i (i + j) h1 (by omega) (by omega)
            omega
        rw [insI_at hall hge]
        refine ⟨by omega, by omega, by omega, ?_⟩
        conv => whnf
        refine hcp.mono ?_
        rintro _ _ ⟨rfl, rfl⟩
        conv => whnf
        refine ⟨by rw [nums_length, List.length_singleton]; show (_ + 1) * 8 ≤ _; omega, ?_⟩
        conv => whnf
        rw [nums_app]
        refine ⟨by omega, by omega, by omega, ?_⟩
        conv => whnf
        refine ⟨by rw [hdj2, nums_length, nums_length, List.length_append, List.length_singleton]; show (_ + 1 + _) * 8 ≤ _; omega, ?_⟩
        conv => whnf
        refine ⟨?_, rfl⟩
        rw [hdj2, nums_apps, List.append_assoc]
        rfl
    · rename_i hil
      have hge : ∀ x ∈ l.drop i, ¬ x < n := by
        intro x hx
        rw [List.drop_of_length_le (by omega)] at hx
        cases hx
      rw [insI_at hall hge]
      refine ⟨by omega, by omega, by omega, ?_⟩
      conv => whnf
      refine hcp.mono ?_
      rintro _ _ ⟨rfl, rfl⟩
      conv => whnf
      refine ⟨by rw [nums_length, List.length_singleton]; show (_ + 1) * 8 ≤ _; omega, ?_⟩
      conv => whnf
      rw [nums_app]
      refine ⟨by omega, by omega, by omega, ?_⟩
      conv => whnf
      refine ⟨by rw [hdj2, nums_length, nums_length, List.length_append, List.length_singleton]; show (_ + 1 + _) * 8 ≤ _; omega, ?_⟩
      conv => whnf
      refine ⟨?_, rfl⟩
      rw [hdj2, nums_apps, List.append_assoc]
      rfl
end Go.Proofs.YtoeppembokpjkaaGreat

namespace Go.Proofs.YtoeppembokpjkaaGreat
open Go.Ab Go.RowKit Go.MapKept
attribute [local irreducible] ACalls AW ADraw Into fltB fnear
set_option maxRecDepth 100000
end Go.Proofs.YtoeppembokpjkaaGreat

namespace Go.Proofs.YtoeppembokpjkaaGreat
open Go.Ab Go.RowKit Go.MapKept
attribute [local irreducible] ACalls AW ADraw Into fltB fnear
set_option maxRecDepth 100000
def c0 : Cursor := ⟨0, [], 0⟩
theorem c0_may : curMay c0 := by
  exact ⟨by decide, ⟨List.Pairwise.nil, by simp [c0]⟩, by decide⟩
end Go.Proofs.YtoeppembokpjkaaGreat

namespace Go.Proofs.YtoeppembokpjkaaGreat
open Go.Ab Go.RowKit Go.MapKept
attribute [local irreducible] ACalls AW ADraw Into fltB fnear
set_option maxRecDepth 100000
structure mayP (d : Dag) (j : Nat) : Prop where
  ok : ∀ c ∈ d.certs.take j, okCert d.nodes c ∧ d.low < c.round ∧ lacksI d c = []
  sorted : sortedC (d.certs.take j)
  dig : ((d.certs.take j).map (·.digest)).Nodup
theorem take_snoc {α : Type} {l : List α} {j : Nat} {c : α} (hc : l[j]? = some c) : l.take (j + 1) = l.take j ++ [c] := by rw [List.take_add_one, hc]; rfl
theorem mayP.next {d : Dag} {j : Nat} (h : mayP d j) {c : Cert} (hc : d.certs[j]? = some c) (h1 : okCert d.nodes c) (h2 : d.low < c.round) (h3 : lacksI d c = []) (h4 : ∀ c0, 0 < j → d.certs[j - 1]? = some c0 → c0.before c.round c.author = true) (h5 : ∀ x ∈ d.certs.take j, x.digest ≠ c.digest) : mayP d (j + 1) := by
  have e := take_snoc hc
  refine ⟨?_, ?_, ?_⟩
  · rw [e]
    intro y hy
    rcases List.mem_append.1 hy with hy | hy
    · exact h.ok y hy
    · simp at hy; rw [hy]; exact ⟨h1, h2, h3⟩
  · rw [e]
    refine List.pairwise_append.2 ⟨h.sorted, by simp, fun x hx y hy => ?_⟩
    simp at hy
    rw [hy]
    obtain ⟨i, hi, rfl⟩ := List.mem_take_iff_getElem.1 hx
    have hil : i < j := by omega
    have hjl := (List.getElem?_eq_some_iff.1 hc).1
    have hp : d.certs[j - 1]? = some d.certs[j - 1] := List.getElem?_eq_getElem (by omega)
    have hb := h4 _ (by omega) hp
    rcases Nat.lt_or_ge i (j - 1) with hlt | hge
    · have h6 := List.pairwise_iff_getElem.1 h.sorted i (j - 1) (by rw [List.length_take]; omega) (by rw [List.length_take]; omega) hlt
      rw [List.getElem_take, List.getElem_take] at h6
      have h7 := before_iff.1 h6
      have h8 := before_iff.1 hb
      exact before_iff.2 (by omega)
    · have : i = j - 1 := by omega
      subst this
      exact hb
  · rw [e, List.map_append, List.nodup_append]
    refine ⟨h.dig, by simp, fun a ha b hb => ?_⟩
    obtain ⟨x, hx, rfl⟩ := List.mem_map.1 ha
    simp at hb
    rw [hb]
    exact h5 x hx
end Go.Proofs.YtoeppembokpjkaaGreat

namespace Go.Proofs.YtoeppembokpjkaaGreat
open Go.Ab Go.RowKit Go.MapKept
attribute [local irreducible] ACalls AW ADraw Into fltB fnear
set_option maxRecDepth 100000
theorem headW_ok (c : Cert) (h : c.ok) : ACalls Tryz.prog 114 [c.hav] [] (fun av L => av = .d (.int .i64 (1 + c.bats.length + c.pars.length)) ∧ L = []) := by
  have h1 := h.bats.1
  have h2 := h.pars.1
  unfold few at h1 h2
  have e1 := nums_length c.bats
  have e2 := nums_length c.pars
  refine acalls_go ttOk zOk foOk Tryz.func114 rfl Tryz.ntmps114 rfl false rfl ?_
  conv => whnf
  rw [e1]
  repeat' (first | ((with_reducible apply rd_intro); (focus (intro K hK; (conv => whnf); first | exact hK | (intro z hz; rw [wrapI (by omega)] at hz; subst hz; exact hK))); (conv => whnf)) | ((with_reducible apply gd_and); (focus ((conv => whnf) <;> first | rfl | (intro K hK; (conv => whnf); first | exact hK | (intro z hz; rw [wrapI (by omega)] at hz; subst hz; exact hK)))); (conv => whnf)) | ((with_reducible apply z_wrap); (focus omega); (conv => whnf)) | ((with_reducible first | apply mt_dec | apply mt_eq | apply mt_ne | apply mt_not | apply mt_any) <;> (intro _; conv => whnf)))
  rw [e2]
  repeat' (first | ((with_reducible apply rd_intro); (focus (intro K hK; (conv => whnf); first | exact hK | (intro z hz; rw [wrapI (by omega)] at hz; subst hz; exact hK))); (conv => whnf)) | ((with_reducible apply gd_and); (focus ((conv => whnf) <;> first | rfl | (intro K hK; (conv => whnf); first | exact hK | (intro z hz; rw [wrapI (by omega)] at hz; subst hz; exact hK)))); (conv => whnf)) | ((with_reducible apply z_wrap); (focus omega); (conv => whnf)) | ((with_reducible first | apply mt_dec | apply mt_eq | apply mt_ne | apply mt_not | apply mt_any) <;> (intro _; conv => whnf)))
  exact ⟨rfl, rfl⟩
theorem certW_ok (c : Cert) (h : c.ok) : ACalls Tryz.prog 85 [c.av] [] (fun av L => av = .d (.int .i64 (1 + c.bats.length + c.pars.length + c.sigs.length)) ∧ L = []) := by
  have h1 := h.bats.1
  have h2 := h.pars.1
  have h3 := h.sigs.1
  unfold few at h1 h2 h3
  have e3 := nums_length c.sigs
  refine acalls_go ttOk zOk foOk Tryz.func85 rfl Tryz.ntmps85 rfl false rfl ?_
  conv => whnf
  ((with_reducible refine draw_pl ttOk zOk foOk mixedOk pl85x1 ?_ ?_); (focus kernel_rfl); (conv => whnf))
  repeat' (first | ((with_reducible apply rd_intro); (focus (intro K hK; (conv => whnf); first | exact hK | (intro z hz; rw [wrapI (by omega)] at hz; subst hz; exact hK))); (conv => whnf)) | ((with_reducible apply gd_and); (focus ((conv => whnf) <;> first | rfl | (intro K hK; (conv => whnf); first | exact hK | (intro z hz; rw [wrapI (by omega)] at hz; subst hz; exact hK)))); (conv => whnf)) | ((with_reducible apply z_wrap); (focus omega); (conv => whnf)) | ((with_reducible first | apply mt_dec | apply mt_eq | apply mt_ne | apply mt_not | apply mt_any) <;> (intro _; conv => whnf)))
  refine (headW_ok c h).mono ?_
  rintro _ _ ⟨rfl, rfl⟩
  conv => whnf
  repeat' (first | ((with_reducible apply rd_intro); (focus (intro K hK; (conv => whnf); first | exact hK | (intro z hz; rw [wrapI (by omega)] at hz; subst hz; exact hK))); (conv => whnf)) | ((with_reducible apply gd_and); (focus ((conv => whnf) <;> first | rfl | (intro K hK; (conv => whnf); first | exact hK | (intro z hz; rw [wrapI (by omega)] at hz; subst hz; exact hK)))); (conv => whnf)) | ((with_reducible apply z_wrap); (focus omega); (conv => whnf)) | ((with_reducible first | apply mt_dec | apply mt_eq | apply mt_ne | apply mt_not | apply mt_any) <;> (intro _; conv => whnf)))
  rw [e3]
  repeat' (first | ((with_reducible apply rd_intro); (focus (intro K hK; (conv => whnf); first | exact hK | (intro z hz; rw [wrapI (by omega)] at hz; subst hz; exact hK))); (conv => whnf)) | ((with_reducible apply gd_and); (focus ((conv => whnf) <;> first | rfl | (intro K hK; (conv => whnf); first | exact hK | (intro z hz; rw [wrapI (by omega)] at hz; subst hz; exact hK)))); (conv => whnf)) | ((with_reducible apply z_wrap); (focus omega); (conv => whnf)) | ((with_reducible first | apply mt_dec | apply mt_eq | apply mt_ne | apply mt_not | apply mt_any) <;> (intro _; conv => whnf)))
  exact ⟨rfl, rfl⟩
end Go.Proofs.YtoeppembokpjkaaGreat

namespace Go.Proofs.YtoeppembokpjkaaGreat
open Go.Ab Go.RowKit Go.MapKept
attribute [local irreducible] ACalls AW ADraw Into fltB fnear
set_option maxRecDepth 100000
theorem Valid.tiny {d : Dag} (h : Valid d) : Go.Proofs.YtoeppembokpjkaaGreat.tiny d.certs ∧ ∀ c ∈ d.certs, c.tiny := by
  have hn := of_decide_eq_true h.nodes
  refine ⟨by have := h.len; unfold Go.Proofs.YtoeppembokpjkaaGreat.tiny; omega, fun c hc => ?_⟩
  have h1 := h.certs c hc
  refine ⟨?_, ?_, ?_⟩
  · have := h1.head.bats.1; unfold Go.Proofs.YtoeppembokpjkaaGreat.tiny; omega
  · have := h1.head.pars.1; unfold Go.Proofs.YtoeppembokpjkaaGreat.tiny; omega
  · have := rise_len2 (show riseB c.sigs 1 65536 from ⟨h1.sigs.1, fun x hx => by have := h1.sigs.2 x hx; omega⟩)
    unfold Go.Proofs.YtoeppembokpjkaaGreat.tiny; omega
theorem copyCerts_row (l : List Cert) (hl : tiny l) (h : ∀ c ∈ l, c.tiny) : ACalls Tryz.prog 25 [.d (.sl 6 (certsD l))] [] (fun av L => av = .arr 0 ∧ L = [.row 68 6 (certsD l) false]) := by
  have hx := certsD_length l
  unfold tiny at hl
  refine acalls_go ttOk zOk foOk Tryz.func25 rfl Tryz.ntmps25 rfl true rfl ?_
  conv => whnf
  refine loop_go ttOk zOk foOk (σ := Nat) (fun k => ([(0, .d (.sl 6 (certsD l))), (3, .arr 0), (4, .d (.int .i64 k))], [.row 68 6 (certsD (l.take k)) false])) (fun k => k ≤ l.length) (fun k => l.length - k) [0, 3, 4] ?_ ?_
  · conv => whnf
    exact ⟨0, rfl, rfl, by omega⟩
  · intro k hk
    conv => whnf
    rw [hx]
    repeat' (first | ((with_reducible apply rd_intro); (focus (intro K hK; (conv => whnf); first | exact hK | (intro z hz; rw [wrapI (by omega)] at hz; subst hz; exact hK))); (conv => whnf)) | ((with_reducible apply gd_and); (focus ((conv => whnf) <;> first | rfl | (intro K hK; (conv => whnf); first | exact hK | (intro z hz; rw [wrapI (by omega)] at hz; subst hz; exact hK)))); (conv => whnf)) | ((with_reducible apply z_wrap); (focus omega); (conv => whnf)) | ((with_reducible first | apply mt_dec | apply mt_eq | apply mt_ne | apply mt_not | apply mt_any) <;> (intro _; conv => whnf)))
    · rename_i h2
      refine Exists.elim (⟨_, List.getElem?_eq_getElem (by omega)⟩ : ∃ a, l[k]? = some a) fun a ha => ?_
      have hkn := certsD_length (l.take k)
      refine ⟨by omega, a.cs, certsD_at ha, ?_⟩
      conv => whnf
      repeat' (first | ((with_reducible apply rd_intro); (focus (intro K hK; (conv => whnf); first | exact hK | (intro z hz; rw [wrapI (by omega)] at hz; subst hz; exact hK))); (conv => whnf)) | ((with_reducible apply gd_and); (focus ((conv => whnf) <;> first | rfl | (intro K hK; (conv => whnf); first | exact hK | (intro z hz; rw [wrapI (by omega)] at hz; subst hz; exact hK)))); (conv => whnf)) | ((with_reducible apply z_wrap); (focus omega); (conv => whnf)) | ((with_reducible first | apply mt_dec | apply mt_eq | apply mt_ne | apply mt_not | apply mt_any) <;> (intro _; conv => whnf)))
      refine (copyCert_ok a (h a (List.mem_of_getElem? ha))).mono ?_
      rintro _ _ ⟨rfl, rfl⟩
      conv => whnf
      repeat' (first | ((with_reducible apply rd_intro); (focus (intro K hK; (conv => whnf); first | exact hK | (intro z hz; rw [wrapI (by omega)] at hz; subst hz; exact hK))); (conv => whnf)) | ((with_reducible apply gd_and); (focus ((conv => whnf) <;> first | rfl | (intro K hK; (conv => whnf); first | exact hK | (intro z hz; rw [wrapI (by omega)] at hz; subst hz; exact hK)))); (conv => whnf)) | ((with_reducible apply z_wrap); (focus omega); (conv => whnf)) | ((with_reducible first | apply mt_dec | apply mt_eq | apply mt_ne | apply mt_not | apply mt_any) <;> (intro _; conv => whnf)))
      refine ⟨by simp [hkn]; omega, ?_⟩
      conv => whnf
      repeat' (first | ((with_reducible apply rd_intro); (focus (intro K hK; (conv => whnf); first | exact hK | (intro z hz; rw [wrapI (by omega)] at hz; subst hz; exact hK))); (conv => whnf)) | ((with_reducible apply gd_and); (focus ((conv => whnf) <;> first | rfl | (intro K hK; (conv => whnf); first | exact hK | (intro z hz; rw [wrapI (by omega)] at hz; subst hz; exact hK)))); (conv => whnf)) | ((with_reducible apply z_wrap); (focus omega); (conv => whnf)) | ((with_reducible first | apply mt_dec | apply mt_eq | apply mt_ne | apply mt_not | apply mt_any) <;> (intro _; conv => whnf)))
      refine ⟨k + 1, rfl, ?_, by omega, by omega⟩
      rw [List.take_add_one, ha]
      simp [certsD, Cert.cs]
    · rename_i h2
      rw [List.take_of_length_le (by omega)]
      exact ⟨rfl, rfl⟩
end Go.Proofs.YtoeppembokpjkaaGreat

namespace Go.Proofs.YtoeppembokpjkaaGreat
open Go.Ab Go.RowKit Go.MapKept
attribute [local irreducible] ACalls AW ADraw Into fltB fnear
set_option maxRecDepth 100000
/-! ## cursor.Step of a DAG that may be, its low 0 -/
def outs (d : Dag) : List Int := (finW d c0).outs
theorem Valid.part {d : Dag} (h : Valid d) (h0 : d.low = 0) (n : Nat) : Valid ⟨d.nodes, 0, d.certs.take n⟩ := by
  have hm : ∀ c ∈ d.certs.take n, c ∈ d.certs := fun c hc => List.mem_of_mem_take hc
  refine ⟨h.nodes, by show (0 : Int) ≤ 0 ∧ (0 : Int) ≤ 1099511627776; decide, by show (d.certs.take n).length ≤ 65536; have := h.len; have := List.length_take_le' n d.certs; omega, fun c hc => h.certs c (hm c hc), fun c hc => by have := h.above c (hm c hc); rw [h0] at this; exact this, h.sorted.sublist (List.take_sublist ..), h.dig.sublist ((List.take_sublist ..).map _), ?_⟩
  intro c hc hr x hx
  obtain ⟨c', h1, h2, h3⟩ := h.here c (hm c hc) (by rw [h0]; exact hr) x hx
  refine ⟨c', ?_, h2, h3⟩
  obtain ⟨i, hi, rfl⟩ := List.mem_take_iff_getElem.1 hc
  obtain ⟨k, hk⟩ := List.getElem?_of_mem h1
  obtain ⟨hkl, rfl⟩ := List.getElem?_eq_some_iff.1 hk
  refine List.mem_take_iff_getElem.2 ⟨k, ?_, rfl⟩
  rcases Nat.lt_trichotomy k i with h4 | h4 | h4
  · omega
  · subst h4; omega
  · have := List.pairwise_iff_getElem.1 h.sorted i k (by omega) hkl h4
    have := before_iff.1 this
    omega
theorem Sub.part {d : Dag} (h : Valid d) (h0 : d.low = 0) (n : Nat) : Sub ⟨d.nodes, 0, d.certs.take n⟩ d := ⟨h.part h0 n, h, rfl, h0, rfl, List.take_sublist ..⟩
end Go.Proofs.YtoeppembokpjkaaGreat

namespace Go.Proofs.YtoeppembokpjkaaGreat
open Go.Ab Go.RowKit Go.MapKept
attribute [local irreducible] ACalls AW ADraw Into fltB fnear
set_option maxRecDepth 100000
theorem fin_len {d : Dag} (h : Valid d) : (finW d c0).outs.length ≤ 4294967296 := (goF_okay h (topR d.certs).toNat ⟨c0, []⟩ (start_okay c0_may) (by decide) (by decide)).1.outs' h.well
/-- what a step hands back, as data -/
def Wk.out (w : Wk) : AV := .tup [.agg [.d (.int .i64 w.c.round), .d (.sl 1 (nums w.c.done)), .d (.int .i64 w.c.count)], .d (.sl 1 (nums w.outs)), .d (.int .i64 0)]
/-- the first certificates -/
def pt (d : Dag) (n : Nat) : Dag := ⟨d.nodes, 0, d.certs.take n⟩
end Go.Proofs.YtoeppembokpjkaaGreat
