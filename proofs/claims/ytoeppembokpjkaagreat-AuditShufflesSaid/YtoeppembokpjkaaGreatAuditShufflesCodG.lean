/- Part of the proof of AuditShuffles: the contracts of the functions. -/
import Derived.Test.YtoeppembokpjkaaGreatAuditShufflesCodF

set_option linter.unusedVariables false
set_option linter.unusedSimpArgs false
namespace Go.Proofs.YtoeppembokpjkaaGreat
open Go.Ab Go.RowKit Go.MapKept
attribute [local irreducible] ACalls AW ADraw Into fltB fnear
set_option maxRecDepth 100000
/-! ## the page's step -/
theorem before_take' {d : Dag} (h : Valid d) {j : Nat} {c : Cert} (hc : d.certs[j]? = some c) : (∀ y ∈ d.certs.take j, y.before c.round c.author = true) ∧ (∀ y ∈ d.certs.take j, y.digest ≠ c.digest) := by
  obtain ⟨hj, rfl⟩ := List.getElem?_eq_some_iff.1 hc
  refine ⟨fun y hy => ?_, fun y hy e => ?_⟩
  · obtain ⟨i, hi, rfl⟩ := List.mem_take_iff_getElem.1 hy
    exact List.pairwise_iff_getElem.1 h.sorted i j (by omega) hj (by omega)
  · obtain ⟨i, hi, rfl⟩ := List.mem_take_iff_getElem.1 hy
    have := List.pairwise_iff_getElem.1 h.dig i j (by simp; omega) (by simp; omega) (by omega)
    simp at this
    exact this e
theorem keepB_eq' (d : Dag) (r x : Int) : keepB d r x = (match certOf d x with | some c => decide (c.round > r - 8) | none => false) := rfl
theorem rising_ext : ∀ {a b : List Int}, risingI a → risingI b → (∀ x, x ∈ a ↔ x ∈ b) → a = b := by
  intro a b ha hb h
  have hp : a.Perm b := (List.perm_ext_iff_of_nodup (rising_nodup ha) (rising_nodup hb)).2 h
  exact hp.eq_of_pairwise (fun x y _ _ h1 h2 => by omega) ha hb
/-- what is kept of the first certificates -/
structure keptK (d : Dag) (r : Int) (S : List Int) (k : Nat) (dn : List Int) : Prop where
  rise : risingI dn
  mem : ∀ x, x ∈ dn ↔ ∃ y ∈ d.certs.take k, y.digest = x ∧ y.round > r - 8 ∧ x ∈ S
  len : dn.length ≤ k
theorem keptK.zero (d : Dag) (r : Int) (S : List Int) : keptK d r S 0 [] := ⟨List.Pairwise.nil, by simp, Nat.le_refl _⟩
theorem keptK.new {d : Dag} (h : Valid d) {r : Int} {S : List Int} {k : Nat} {dn : List Int} (hk : keptK d r S k dn) {y : Cert} (hy : d.certs[k]? = some y) : y.digest ∉ dn := by
  intro hin
  obtain ⟨z, h1, h2, _⟩ := (hk.mem _).1 hin
  exact (before_take' h hy).2 z h1 h2
theorem keptK.no {d : Dag} {r : Int} {S : List Int} {k : Nat} {dn : List Int} (hk : keptK d r S k dn) {y : Cert} (hy : d.certs[k]? = some y) (h1 : ¬ (y.round > r - 8 ∧ y.digest ∈ S)) : keptK d r S (k + 1) dn := by
  refine ⟨hk.rise, fun x => ?_, by have := hk.len; omega⟩
  rw [hk.mem, take_snoc' hy]
  constructor
  · rintro ⟨z, k1, k2⟩
    exact ⟨z, List.mem_append_left _ k1, k2⟩
  · rintro ⟨z, k1, k2, k3, k4⟩
    rcases List.mem_append.1 k1 with k1 | k1
    · exact ⟨z, k1, k2, k3, k4⟩
    · simp at k1; subst k1; subst k2; exact absurd ⟨k3, k4⟩ h1
theorem keptK.done {d : Dag} (h : Valid d) {r : Int} {S : List Int} {dn : List Int} (hk : keptK d r S d.certs.length dn) (hs : risingI (sortI (keepI d r S))) : dn = sortI (keepI d r S) := by
  refine rising_ext hk.rise hs fun x => ?_
  rw [hk.mem, List.take_length, sortI, List.mem_mergeSort, keepI, List.mem_filter, keepB_eq']
  constructor
  · rintro ⟨y, k1, rfl, k2, k3⟩
    refine ⟨k3, ?_⟩
    rw [certOf_mem h.dig k1]
    simpa using k2
  · rintro ⟨k1, k2⟩
    cases hc : certOf d x with
    | none => rw [hc] at k2; cases k2
    | some c =>
      rw [hc] at k2
      obtain ⟨m1, m2, _⟩ := certOf_some hc
      exact ⟨c, m1, m2, by simpa using k2, k1⟩
end Go.Proofs.YtoeppembokpjkaaGreat

namespace Go.Proofs.YtoeppembokpjkaaGreat
open Go.Ab Go.RowKit Go.MapKept
attribute [local irreducible] ACalls AW ADraw Into fltB fnear
set_option maxRecDepth 100000
structure mayD (d : Dag) (j : Nat) : Prop where
  ok : ∀ c ∈ d.certs.take j, okCert d.nodes c ∧ d.low < c.round
  sorted : sortedC (d.certs.take j)
  dig : ((d.certs.take j).map (·.digest)).Nodup
  here : ∀ c ∈ d.certs.take j, c.round > d.low + 1 → ∀ x ∈ c.pars, ∃ c' ∈ d.certs.take j, c'.digest = x ∧ c'.round = c.round - 1
theorem mayD.next {d : Dag} {j : Nat} (h : mayD d j) {c : Cert} (hc : d.certs[j]? = some c) (h1 : okCert d.nodes c) (h2 : d.low < c.round) (h3 : c.round > d.low + 1 → ∀ x ∈ c.pars, ∃ c' ∈ d.certs.take j, c'.digest = x ∧ c'.round = c.round - 1) (h4 : ∀ c0, 0 < j → d.certs[j - 1]? = some c0 → c0.before c.round c.author = true) (h5 : ∀ x ∈ d.certs.take j, x.digest ≠ c.digest) : mayD d (j + 1) := by
  have e := take_snoc hc
  refine ⟨?_, ?_, ?_, ?_⟩
  · rw [e]
    intro y hy
    rcases List.mem_append.1 hy with hy | hy
    · exact h.ok y hy
    · simp at hy; rw [hy]; exact ⟨h1, h2⟩
  · rw [e]
    refine List.pairwise_append.2 ⟨h.sorted, by simp, fun x hx y hy => ?_⟩
    simp at hy
    rw [hy]
    obtain ⟨i, hi, rfl⟩ := List.mem_take_iff_getElem.1 hx
    have hil : i < j := by omega
    have hjl := (List.getElem?_eq_some_iff.1 hc).1
    have hp : d.certs[j - 1]? = some d.certs[j - 1] := List.getElem?_eq_getElem (by omega)
    have hb := h4 _ (by omega) hp
    rcases Nat.lt_or_ge i (j - 1) with hlt | hge
    · have h6 := List.pairwise_iff_getElem.1 h.sorted i (j - 1) (by rw [List.length_take]; omega) (by rw [List.length_take]; omega) hlt
      rw [List.getElem_take, List.getElem_take] at h6
      have h7 := before_iff.1 h6
      have h8 := before_iff.1 hb
      exact before_iff.2 (by omega)
    · have : i = j - 1 := by omega
      subst this
      exact hb
  · rw [e, List.map_append, List.nodup_append]
    refine ⟨h.dig, by simp, fun a ha b hb => ?_⟩
    obtain ⟨x, hx, rfl⟩ := List.mem_map.1 ha
    simp at hb
    rw [hb]
    exact h5 x hx
  · rw [e]
    intro y hy hr x hx
    rcases List.mem_append.1 hy with hy | hy
    · obtain ⟨c', k1, k2⟩ := h.here y hy hr x hx
      exact ⟨c', List.mem_append_left _ k1, k2⟩
    · simp at hy
      rw [hy] at hr hx ⊢
      obtain ⟨c', k1, k2⟩ := h3 hr x hx
      exact ⟨c', List.mem_append_left _ k1, k2⟩
theorem Valid.lacks {d : Dag} (h : Valid d) {c : Cert} (hc : c ∈ d.certs) : lacksI d c = [] := by
  unfold lacksI
  split
  · rfl
  · rename_i hr
    refine List.filter_eq_nil_iff.2 fun x hx => ?_
    obtain ⟨c', k1, k2, k3⟩ := h.here c hc (by omega) x hx
    unfold lackB
    rw [← k2, certOf_mem h.dig k1]
    simp [k3]
theorem before_take3 {d : Dag} (h : Valid d) {j : Nat} {c : Cert} (hc : d.certs[j]? = some c) : (∀ y ∈ d.certs.take j, y.before c.round c.author = true) ∧ (∀ y ∈ d.certs.take j, y.digest ≠ c.digest) := by
  obtain ⟨hj, rfl⟩ := List.getElem?_eq_some_iff.1 hc
  refine ⟨fun y hy => ?_, fun y hy e => ?_⟩
  · obtain ⟨i, hi, rfl⟩ := List.mem_take_iff_getElem.1 hy
    exact List.pairwise_iff_getElem.1 h.sorted i j (by omega) hj (by omega)
  · obtain ⟨i, hi, rfl⟩ := List.mem_take_iff_getElem.1 hy
    have := List.pairwise_iff_getElem.1 h.dig i j (by simp; omega) (by simp; omega) (by omega)
    simp at this
    exact this e
set_option maxHeartbeats 2000000 in
theorem rMayDag_true (d : Dag) (h : Valid d) : ACalls Tryz.prog 11 [d.av] [] (fun av L => av = .d (.bool true) ∧ L = []) := by
  have hcl := certsD_length d.certs
  have hlow := h.low
  have hlen := h.len
  have hnn := of_decide_eq_true h.nodes
  have hfd : few d.certs := by unfold few; omega
  refine acalls_go ttOk zOk foOk Tryz.func11 rfl Tryz.ntmps11 rfl false rfl ?_
  conv => whnf
  refine (rMay_ok d.nodes).mono ?_
  rintro _ _ ⟨rfl, rfl⟩
  rw [h.nodes]
  conv => whnf
  repeat' (first | ((with_reducible apply rd_intro); (focus (intro K hK; (conv => whnf); first | exact hK | (intro z hz; rw [wrapI (by omega)] at hz; subst hz; exact hK))); (conv => whnf)) | ((with_reducible apply gd_and); (focus ((conv => whnf) <;> first | rfl | (intro K hK; (conv => whnf); first | exact hK | (intro z hz; rw [wrapI (by omega)] at hz; subst hz; exact hK)))); (conv => whnf)) | ((with_reducible apply z_wrap); (focus omega); (conv => whnf)) | ((with_reducible first | apply mt_dec | apply mt_eq | apply mt_ne | apply mt_not | apply mt_any) <;> (intro _; conv => whnf)))
  · exfalso; omega
  · exfalso; omega
  · exfalso; omega
  · refine loop_go ttOk zOk foOk (σ := Nat) (fun j => ([(1, .ptr 0 0), (3, .d (.int .i64 j))], [.cells d.cells])) (fun j => j ≤ d.certs.length) (fun j => d.certs.length - j) [1, 3] ?_ ?_
    · conv => whnf
      exact ⟨0, rfl, rfl, Nat.zero_le _⟩
    · intro j hj
      conv => whnf
      repeat' (first | ((with_reducible apply rd_intro); (focus (intro K hK; (conv => whnf); first | exact hK | (intro z hz; rw [wrapI (by omega)] at hz; subst hz; exact hK))); (conv => whnf)) | ((with_reducible apply gd_and); (focus ((conv => whnf) <;> first | rfl | (intro K hK; (conv => whnf); first | exact hK | (intro z hz; rw [wrapI (by omega)] at hz; subst hz; exact hK)))); (conv => whnf)) | ((with_reducible apply z_wrap); (focus omega); (conv => whnf)) | ((with_reducible first | apply mt_dec | apply mt_eq | apply mt_ne | apply mt_not | apply mt_any) <;> (intro _; conv => whnf)))
      · rename_i hjl
        have hjn : j < d.certs.length := by omega
        refine Exists.elim (⟨_, List.getElem?_eq_getElem hjn⟩ : ∃ c, d.certs[j]? = some c) fun c hc => ?_
        have hcm := List.mem_of_getElem? hc
        have hcok := h.certs c hcm
        have hlo := h.above c hcm
        refine ⟨by omega, c.cs, certsD_at hc, ?_⟩
        conv => whnf
        repeat' (first | ((with_reducible apply rd_intro); (focus (intro K hK; (conv => whnf); first | exact hK | (intro z hz; rw [wrapI (by omega)] at hz; subst hz; exact hK))); (conv => whnf)) | ((with_reducible apply gd_and); (focus ((conv => whnf) <;> first | rfl | (intro K hK; (conv => whnf); first | exact hK | (intro z hz; rw [wrapI (by omega)] at hz; subst hz; exact hK)))); (conv => whnf)) | ((with_reducible apply z_wrap); (focus omega); (conv => whnf)) | ((with_reducible first | apply mt_dec | apply mt_eq | apply mt_ne | apply mt_not | apply mt_any) <;> (intro _; conv => whnf)))
        refine (rCert_ok c (h.fewL hcm) d.nodes).mono ?_
        rintro _ _ ⟨rfl, rfl⟩
        rw [@decide_eq_true _ (Classical.propDecidable _) hcok]
        conv => whnf
        repeat' (first | ((with_reducible apply rd_intro); (focus (intro K hK; (conv => whnf); first | exact hK | (intro z hz; rw [wrapI (by omega)] at hz; subst hz; exact hK))); (conv => whnf)) | ((with_reducible apply gd_and); (focus ((conv => whnf) <;> first | rfl | (intro K hK; (conv => whnf); first | exact hK | (intro z hz; rw [wrapI (by omega)] at hz; subst hz; exact hK)))); (conv => whnf)) | ((with_reducible apply z_wrap); (focus omega); (conv => whnf)) | ((with_reducible first | apply mt_dec | apply mt_eq | apply mt_ne | apply mt_not | apply mt_any) <;> (intro _; conv => whnf)))
        · exfalso; omega
        · rename_i hlow hj0
          have hj0' : 0 < j := by omega
          refine Exists.elim (⟨_, List.getElem?_eq_getElem (show j - 1 < d.certs.length by omega)⟩ : ∃ c, d.certs[j - 1]? = some c) fun c0 hc0 => ?_
          have hb : c0.before c.round c.author = true := (before_take3 h hc).1 c0 (List.mem_take_iff_getElem.2 ⟨j - 1, by omega, (List.getElem?_eq_some_iff.1 hc0).2⟩)
          refine ⟨by omega, c0.cs, (by rw [show ((j : Int) - 1).toNat = j - 1 by omega]; exact certsD_at hc0), ?_⟩
          conv => whnf
          repeat' (first | ((with_reducible apply rd_intro); (focus (intro K hK; (conv => whnf); first | exact hK | (intro z hz; rw [wrapI (by omega)] at hz; subst hz; exact hK))); (conv => whnf)) | ((with_reducible apply gd_and); (focus ((conv => whnf) <;> first | rfl | (intro K hK; (conv => whnf); first | exact hK | (intro z hz; rw [wrapI (by omega)] at hz; subst hz; exact hK)))); (conv => whnf)) | ((with_reducible apply z_wrap); (focus omega); (conv => whnf)) | ((with_reducible first | apply mt_dec | apply mt_eq | apply mt_ne | apply mt_not | apply mt_any) <;> (intro _; conv => whnf)))
          refine (rBefore_ok c0.round c0.author c.round c.author).mono ?_
          rintro _ _ ⟨rfl, rfl⟩
          rw [show decide (c0.round < c.round ∨ c0.round = c.round ∧ c0.author < c.author) = true from hb]
          conv => whnf
          refine loop_go ttOk zOk foOk (σ := Nat) (fun k => ([(1, .ptr 0 0), (3, .d (.int .i64 j)), (4, .ptr 1 0), (6, .d (.int .i64 k))], [.cells d.cells, .cells c.cells])) (fun k => k ≤ j) (fun k => j - k) [1, 3, 4, 6] ?_ ?_
          · conv => whnf
            exact ⟨0, rfl, rfl, by omega⟩
          · intro k hkj
            conv => whnf
            repeat' (first | ((with_reducible apply rd_intro); (focus (intro K hK; (conv => whnf); first | exact hK | (intro z hz; rw [wrapI (by omega)] at hz; subst hz; exact hK))); (conv => whnf)) | ((with_reducible apply gd_and); (focus ((conv => whnf) <;> first | rfl | (intro K hK; (conv => whnf); first | exact hK | (intro z hz; rw [wrapI (by omega)] at hz; subst hz; exact hK)))); (conv => whnf)) | ((with_reducible apply z_wrap); (focus omega); (conv => whnf)) | ((with_reducible first | apply mt_dec | apply mt_eq | apply mt_ne | apply mt_not | apply mt_any) <;> (intro _; conv => whnf)))
            · rename_i hkl
              have hkn : k < j := Int.ofNat_lt.1 hkl
              refine Exists.elim (⟨_, List.getElem?_eq_getElem (by omega)⟩ : ∃ c, d.certs[k]? = some c) fun c1 hc1 => ?_
              have hne : c1.digest ≠ c.digest := (before_take3 h hc).2 c1 (List.mem_take_iff_getElem.2 ⟨k, by omega, (List.getElem?_eq_some_iff.1 hc1).2⟩)
              ((with_reducible refine draw_pl ttOk zOk foOk mixedOk pl11x16 ?_ ?_); (focus kernel_rfl); (conv => whnf))
              repeat' (first | ((with_reducible apply rd_intro); (focus (intro K hK; (conv => whnf); first | exact hK | (intro z hz; rw [wrapI (by omega)] at hz; subst hz; exact hK))); (conv => whnf)) | ((with_reducible apply gd_and); (focus ((conv => whnf) <;> first | rfl | (intro K hK; (conv => whnf); first | exact hK | (intro z hz; rw [wrapI (by omega)] at hz; subst hz; exact hK)))); (conv => whnf)) | ((with_reducible apply z_wrap); (focus omega); (conv => whnf)) | ((with_reducible first | apply mt_dec | apply mt_eq | apply mt_ne | apply mt_not | apply mt_any) <;> (intro _; conv => whnf)))
              ((with_reducible apply rd_intro); (focus (intro K hK; (conv => whnf); exact ⟨by omega, c1.cs, certsD_at hc1, hK⟩)); (conv => whnf))
              repeat' (first | ((with_reducible apply rd_intro); (focus (intro K hK; (conv => whnf); first | exact hK | (intro z hz; rw [wrapI (by omega)] at hz; subst hz; exact hK))); (conv => whnf)) | ((with_reducible apply gd_and); (focus ((conv => whnf) <;> first | rfl | (intro K hK; (conv => whnf); first | exact hK | (intro z hz; rw [wrapI (by omega)] at hz; subst hz; exact hK)))); (conv => whnf)) | ((with_reducible apply z_wrap); (focus omega); (conv => whnf)) | ((with_reducible first | apply mt_dec | apply mt_eq | apply mt_ne | apply mt_not | apply mt_any) <;> (intro _; conv => whnf)))
              · rename_i he; exact absurd he hne
              · exact ⟨k + 1, rfl, rfl, by omega, by omega⟩
            · rename_i hkl
              have hkj : k = j := by omega
              subst hkj
              refine (rLacks_ok d hfd c (by have := hcok.head.pars.1; omega) hcok.head.round).mono ?_
              rintro _ _ ⟨rfl, rfl⟩
              rw [h.lacks hcm]
              conv => whnf
              repeat' (first | ((with_reducible apply rd_intro); (focus (intro K hK; (conv => whnf); first | exact hK | (intro z hz; rw [wrapI (by omega)] at hz; subst hz; exact hK))); (conv => whnf)) | ((with_reducible apply gd_and); (focus ((conv => whnf) <;> first | rfl | (intro K hK; (conv => whnf); first | exact hK | (intro z hz; rw [wrapI (by omega)] at hz; subst hz; exact hK)))); (conv => whnf)) | ((with_reducible apply z_wrap); (focus omega); (conv => whnf)) | ((with_reducible first | apply mt_dec | apply mt_eq | apply mt_ne | apply mt_not | apply mt_any) <;> (intro _; conv => whnf)))
              exact ⟨k + 1, rfl, rfl, by omega, by omega⟩
        · rename_i hlow hj0
          refine loop_go ttOk zOk foOk (σ := Nat) (fun k => ([(1, .ptr 0 0), (3, .d (.int .i64 j)), (4, .ptr 1 0), (6, .d (.int .i64 k))], [.cells d.cells, .cells c.cells])) (fun k => k ≤ j) (fun k => j - k) [1, 3, 4, 6] ?_ ?_
          · conv => whnf
            exact ⟨0, rfl, rfl, by omega⟩
          · intro k hkj
            conv => whnf
            repeat' (first | ((with_reducible apply rd_intro); (focus (intro K hK; (conv => whnf); first | exact hK | (intro z hz; rw [wrapI (by omega)] at hz; subst hz; exact hK))); (conv => whnf)) | ((with_reducible apply gd_and); (focus ((conv => whnf) <;> first | rfl | (intro K hK; (conv => whnf); first | exact hK | (intro z hz; rw [wrapI (by omega)] at hz; subst hz; exact hK)))); (conv => whnf)) | ((with_reducible apply z_wrap); (focus omega); (conv => whnf)) | ((with_reducible first | apply mt_dec | apply mt_eq | apply mt_ne | apply mt_not | apply mt_any) <;> (intro _; conv => whnf)))
            · rename_i hkl
              have hkn : k < j := Int.ofNat_lt.1 hkl
              refine Exists.elim (⟨_, List.getElem?_eq_getElem (by omega)⟩ : ∃ c, d.certs[k]? = some c) fun c1 hc1 => ?_
              have hne : c1.digest ≠ c.digest := (before_take3 h hc).2 c1 (List.mem_take_iff_getElem.2 ⟨k, by omega, (List.getElem?_eq_some_iff.1 hc1).2⟩)
              ((with_reducible refine draw_pl ttOk zOk foOk mixedOk pl11x16 ?_ ?_); (focus kernel_rfl); (conv => whnf))
              repeat' (first | ((with_reducible apply rd_intro); (focus (intro K hK; (conv => whnf); first | exact hK | (intro z hz; rw [wrapI (by omega)] at hz; subst hz; exact hK))); (conv => whnf)) | ((with_reducible apply gd_and); (focus ((conv => whnf) <;> first | rfl | (intro K hK; (conv => whnf); first | exact hK | (intro z hz; rw [wrapI (by omega)] at hz; subst hz; exact hK)))); (conv => whnf)) | ((with_reducible apply z_wrap); (focus omega); (conv => whnf)) | ((with_reducible first | apply mt_dec | apply mt_eq | apply mt_ne | apply mt_not | apply mt_any) <;> (intro _; conv => whnf)))
              ((with_reducible apply rd_intro); (focus (intro K hK; (conv => whnf); exact ⟨by omega, c1.cs, certsD_at hc1, hK⟩)); (conv => whnf))
              repeat' (first | ((with_reducible apply rd_intro); (focus (intro K hK; (conv => whnf); first | exact hK | (intro z hz; rw [wrapI (by omega)] at hz; subst hz; exact hK))); (conv => whnf)) | ((with_reducible apply gd_and); (focus ((conv => whnf) <;> first | rfl | (intro K hK; (conv => whnf); first | exact hK | (intro z hz; rw [wrapI (by omega)] at hz; subst hz; exact hK)))); (conv => whnf)) | ((with_reducible apply z_wrap); (focus omega); (conv => whnf)) | ((with_reducible first | apply mt_dec | apply mt_eq | apply mt_ne | apply mt_not | apply mt_any) <;> (intro _; conv => whnf)))
              · rename_i he; exact absurd he hne
              · exact ⟨k + 1, rfl, rfl, by omega, by omega⟩
            · rename_i hkl
              have hkj : k = j := by omega
              subst hkj
              refine (rLacks_ok d hfd c (by have := hcok.head.pars.1; omega) hcok.head.round).mono ?_
              rintro _ _ ⟨rfl, rfl⟩
              rw [h.lacks hcm]
              conv => whnf
              repeat' (first | ((with_reducible apply rd_intro); (focus (intro K hK; (conv => whnf); first | exact hK | (intro z hz; rw [wrapI (by omega)] at hz; subst hz; exact hK))); (conv => whnf)) | ((with_reducible apply gd_and); (focus ((conv => whnf) <;> first | rfl | (intro K hK; (conv => whnf); first | exact hK | (intro z hz; rw [wrapI (by omega)] at hz; subst hz; exact hK)))); (conv => whnf)) | ((with_reducible apply z_wrap); (focus omega); (conv => whnf)) | ((with_reducible first | apply mt_dec | apply mt_eq | apply mt_ne | apply mt_not | apply mt_any) <;> (intro _; conv => whnf)))
              exact ⟨k + 1, rfl, rfl, by omega, by omega⟩
      · exact ⟨rfl, rfl⟩
end Go.Proofs.YtoeppembokpjkaaGreat
