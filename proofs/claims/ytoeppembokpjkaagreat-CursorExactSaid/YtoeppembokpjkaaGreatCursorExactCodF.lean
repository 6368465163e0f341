/- Part of the proof of CursorExact: the contracts of the functions. -/
import Derived.Test.YtoeppembokpjkaaGreatCursorExactCodE

set_option linter.unusedVariables false
set_option linter.unusedSimpArgs false
namespace Go.Proofs.YtoeppembokpjkaaGreat
open Go.Ab Go.RowKit Go.MapKept
attribute [local irreducible] ACalls AW ADraw Into fltB fnear
set_option maxRecDepth 100000
structure mayP (d : Dag) (j : Nat) : Prop where
  ok : ∀ c ∈ d.certs.take j, okCert d.nodes c ∧ d.low < c.round ∧ lacksI d c = []
  sorted : sortedC (d.certs.take j)
  dig : ((d.certs.take j).map (·.digest)).Nodup
theorem take_snoc {α : Type} {l : List α} {j : Nat} {c : α} (hc : l[j]? = some c) : l.take (j + 1) = l.take j ++ [c] := by rw [List.take_add_one, hc]; rfl
theorem mayP.next {d : Dag} {j : Nat} (h : mayP d j) {c : Cert} (hc : d.certs[j]? = some c) (h1 : okCert d.nodes c) (h2 : d.low < c.round) (h3 : lacksI d c = []) (h4 : ∀ c0, 0 < j → d.certs[j - 1]? = some c0 → c0.before c.round c.author = true) (h5 : ∀ x ∈ d.certs.take j, x.digest ≠ c.digest) : mayP d (j + 1) := by
  have e := take_snoc hc
  refine ⟨?_, ?_, ?_⟩
  · rw [e]
    intro y hy
    rcases List.mem_append.1 hy with hy | hy
    · exact h.ok y hy
    · simp at hy; rw [hy]; exact ⟨h1, h2, h3⟩
  · rw [e]
    refine List.pairwise_append.2 ⟨h.sorted, by simp, fun x hx y hy => ?_⟩
    simp at hy
    rw [hy]
    obtain ⟨i, hi, rfl⟩ := List.mem_take_iff_getElem.1 hx
    have hil : i < j := by omega
    have hjl := (List.getElem?_eq_some_iff.1 hc).1
    have hp : d.certs[j - 1]? = some d.certs[j - 1] := List.getElem?_eq_getElem (by omega)
    have hb := h4 _ (by omega) hp
    rcases Nat.lt_or_ge i (j - 1) with hlt | hge
    · have h6 := List.pairwise_iff_getElem.1 h.sorted i (j - 1) (by rw [List.length_take]; omega) (by rw [List.length_take]; omega) hlt
      rw [List.getElem_take, List.getElem_take] at h6
      have h7 := before_iff.1 h6
      have h8 := before_iff.1 hb
      exact before_iff.2 (by omega)
    · have : i = j - 1 := by omega
      subst this
      exact hb
  · rw [e, List.map_append, List.nodup_append]
    refine ⟨h.dig, by simp, fun a ha b hb => ?_⟩
    obtain ⟨x, hx, rfl⟩ := List.mem_map.1 ha
    simp at hb
    rw [hb]
    exact h5 x hx
theorem lacks_nil {d : Dag} {c : Cert} (h : lacksI d c = []) (hr : c.round > d.low + 1) : ∀ x ∈ c.pars, ∃ c' ∈ d.certs, c'.digest = x ∧ c'.round = c.round - 1 := by
  intro x hx
  rw [lacksI, if_neg (by omega), List.filter_eq_nil_iff] at h
  have := h x hx
  unfold lackB at this
  cases hc : certOf d x with
  | none => rw [hc] at this; simp at this
  | some c' =>
    rw [hc] at this
    simp at this
    obtain ⟨h1, h2, _⟩ := certOf_some hc
    exact ⟨c', h1, h2, this⟩
theorem mayP.valid {d : Dag} (h : mayP d d.certs.length) (h1 : isN d.nodes = true) (h2 : 0 ≤ d.low ∧ d.low ≤ 1099511627776) (h3 : d.certs.length ≤ 65536) : Valid d := by
  obtain ⟨a, b, c⟩ := h
  rw [List.take_length] at a b c
  exact ⟨h1, h2, h3, fun c hc => (a c hc).1, fun c hc => (a c hc).2.1, b, c, fun c hc hr => lacks_nil (a c hc).2.2 hr⟩
theorem ok_fewL {c : Cert} (h : c.ok) : fewL c := ⟨h.bats.1, h.pars.1, h.sigs.1⟩
set_option maxHeartbeats 2000000 in
theorem rMayDag_ok (d : Dag) (h : d.ok) : ACalls Tryz.prog 11 [d.av] [] (fun av L => (∃ b, av = .d (.bool b) ∧ (b = true → Valid d)) ∧ L = []) := by
  have hcl := certsD_length d.certs
  have hfd := h.certs.1
  refine acalls_go ttOk zOk foOk Tryz.func11 rfl Tryz.ntmps11 rfl false rfl ?_
  conv => whnf
  refine (rMay_ok d.nodes).mono ?_
  rintro _ _ ⟨rfl, rfl⟩
  cases hn : isN d.nodes with
  | false =>
    conv => whnf
    exact ⟨⟨_, rfl, by intro h; cases h⟩, rfl⟩
  | true =>
    have hnn := of_decide_eq_true hn
    conv => whnf

    repeat' (first | ((with_reducible apply rd_intro); (focus (intro K hK; (conv => whnf); first | exact hK | (intro z hz; rw [wrapI (by omega)] at hz; subst hz; exact hK))); (conv => whnf)) | ((with_reducible apply gd_and); (focus ((conv => whnf) <;> first | rfl | (intro K hK; (conv => whnf); first | exact hK | (intro z hz; rw [wrapI (by omega)] at hz; subst hz; exact hK)))); (conv => whnf)) | ((with_reducible apply z_wrap); (focus omega); (conv => whnf)) | ((with_reducible first | apply mt_dec | apply mt_eq | apply mt_ne | apply mt_not | apply mt_any) <;> (intro _; conv => whnf)))
    · exact ⟨⟨_, rfl, by intro h; cases h⟩, rfl⟩
    · exact ⟨⟨_, rfl, by intro h; cases h⟩, rfl⟩
    · exact ⟨⟨_, rfl, by intro h; cases h⟩, rfl⟩
    · rename_i hl1 hl2 hl3
      refine loop_go ttOk zOk foOk (σ := Nat) (fun j => ([(1, .ptr 0 0), (3, .d (.int .i64 j))], [.cells d.cells])) (fun j => j ≤ d.certs.length ∧ mayP d j) (fun j => d.certs.length - j) [1, 3] ?_ ?_
      · conv => whnf
        exact ⟨0, rfl, rfl, Nat.zero_le _, by simp, by simp [sortedC], by simp⟩
      · rintro j ⟨hj, hinv⟩
        conv => whnf

        repeat' (first | ((with_reducible apply rd_intro); (focus (intro K hK; (conv => whnf); first | exact hK | (intro z hz; rw [wrapI (by omega)] at hz; subst hz; exact hK))); (conv => whnf)) | ((with_reducible apply gd_and); (focus ((conv => whnf) <;> first | rfl | (intro K hK; (conv => whnf); first | exact hK | (intro z hz; rw [wrapI (by omega)] at hz; subst hz; exact hK)))); (conv => whnf)) | ((with_reducible apply z_wrap); (focus omega); (conv => whnf)) | ((with_reducible first | apply mt_dec | apply mt_eq | apply mt_ne | apply mt_not | apply mt_any) <;> (intro _; conv => whnf)))
        · rename_i hjl
          have hjn : j < d.certs.length := by omega
          refine Exists.elim (⟨_, List.getElem?_eq_getElem hjn⟩ : ∃ c, d.certs[j]? = some c) fun c hc => ?_
          have hcm := List.mem_of_getElem? hc
          refine ⟨by omega, c.cs, certsD_at hc, ?_⟩
          conv => whnf
          repeat' (first | ((with_reducible apply rd_intro); (focus (intro K hK; (conv => whnf); first | exact hK | (intro z hz; rw [wrapI (by omega)] at hz; subst hz; exact hK))); (conv => whnf)) | ((with_reducible apply gd_and); (focus ((conv => whnf) <;> first | rfl | (intro K hK; (conv => whnf); first | exact hK | (intro z hz; rw [wrapI (by omega)] at hz; subst hz; exact hK)))); (conv => whnf)) | ((with_reducible apply z_wrap); (focus omega); (conv => whnf)) | ((with_reducible first | apply mt_dec | apply mt_eq | apply mt_ne | apply mt_not | apply mt_any) <;> (intro _; conv => whnf)))
          refine (rCert_ok c (ok_fewL (h.certs.2 c hcm)) d.nodes).mono ?_
          rintro _ _ ⟨rfl, rfl⟩
          by_cases hcok : okCert d.nodes c
          · rw [@decide_eq_true _ (Classical.propDecidable _) hcok]
            conv => whnf
            repeat' (first | ((with_reducible apply rd_intro); (focus (intro K hK; (conv => whnf); first | exact hK | (intro z hz; rw [wrapI (by omega)] at hz; subst hz; exact hK))); (conv => whnf)) | ((with_reducible apply gd_and); (focus ((conv => whnf) <;> first | rfl | (intro K hK; (conv => whnf); first | exact hK | (intro z hz; rw [wrapI (by omega)] at hz; subst hz; exact hK)))); (conv => whnf)) | ((with_reducible apply z_wrap); (focus omega); (conv => whnf)) | ((with_reducible first | apply mt_dec | apply mt_eq | apply mt_ne | apply mt_not | apply mt_any) <;> (intro _; conv => whnf)))
            · exact ⟨⟨_, rfl, by intro h; cases h⟩, rfl⟩
            · rename_i hlow hj0
              replace hlow : d.low < c.round := by omega
              have hj0' : 0 < j := by omega
              refine Exists.elim (⟨_, List.getElem?_eq_getElem (show j - 1 < d.certs.length by omega)⟩ : ∃ c, d.certs[j - 1]? = some c) fun c0 hc0 => ?_
              refine ⟨by omega, c0.cs, (by rw [show ((j : Int) - 1).toNat = j - 1 by omega]; exact certsD_at hc0), ?_⟩
              conv => whnf
              repeat' (first | ((with_reducible apply rd_intro); (focus (intro K hK; (conv => whnf); first | exact hK | (intro z hz; rw [wrapI (by omega)] at hz; subst hz; exact hK))); (conv => whnf)) | ((with_reducible apply gd_and); (focus ((conv => whnf) <;> first | rfl | (intro K hK; (conv => whnf); first | exact hK | (intro z hz; rw [wrapI (by omega)] at hz; subst hz; exact hK)))); (conv => whnf)) | ((with_reducible apply z_wrap); (focus omega); (conv => whnf)) | ((with_reducible first | apply mt_dec | apply mt_eq | apply mt_ne | apply mt_not | apply mt_any) <;> (intro _; conv => whnf)))
              refine (rBefore_ok c0.round c0.author c.round c.author).mono ?_
              rintro _ _ ⟨rfl, rfl⟩
              by_cases hb : c0.before c.round c.author = true
              · rw [show decide (c0.round < c.round ∨ c0.round = c.round ∧ c0.author < c.author) = true from hb]
                have h4 : ∀ c0, 0 < j → d.certs[j - 1]? = some c0 → c0.before c.round c.author = true := by
                  intro c1 _ hc1
                  rw [hc0] at hc1; cases hc1; exact hb
                conv => whnf
                refine loop_go ttOk zOk foOk (σ := Nat) (fun k => ([(1, .ptr 0 0), (3, .d (.int .i64 j)), (4, .ptr 1 0), (6, .d (.int .i64 k))], [.cells d.cells, .cells c.cells])) (fun k => k ≤ j ∧ ∀ x ∈ d.certs.take k, x.digest ≠ c.digest) (fun k => j - k) [1, 3, 4, 6] ?_ ?_
                · conv => whnf
                  exact ⟨0, rfl, rfl, by omega, by simp⟩
                · rintro k ⟨hkj, hkd⟩
                  conv => whnf
                  repeat' (first | ((with_reducible apply rd_intro); (focus (intro K hK; (conv => whnf); first | exact hK | (intro z hz; rw [wrapI (by omega)] at hz; subst hz; exact hK))); (conv => whnf)) | ((with_reducible apply gd_and); (focus ((conv => whnf) <;> first | rfl | (intro K hK; (conv => whnf); first | exact hK | (intro z hz; rw [wrapI (by omega)] at hz; subst hz; exact hK)))); (conv => whnf)) | ((with_reducible apply z_wrap); (focus omega); (conv => whnf)) | ((with_reducible first | apply mt_dec | apply mt_eq | apply mt_ne | apply mt_not | apply mt_any) <;> (intro _; conv => whnf)))
                  · rename_i hkl
                    have hkn : k < j := Int.ofNat_lt.1 hkl
                    refine Exists.elim (⟨_, List.getElem?_eq_getElem (by omega)⟩ : ∃ c, d.certs[k]? = some c) fun c1 hc1 => ?_
                    ((with_reducible refine draw_pl ttOk zOk foOk mixedOk pl11x16 ?_ ?_); (focus kernel_rfl); (conv => whnf))
                    repeat' (first | ((with_reducible apply rd_intro); (focus (intro K hK; (conv => whnf); first | exact hK | (intro z hz; rw [wrapI (by omega)] at hz; subst hz; exact hK))); (conv => whnf)) | ((with_reducible apply gd_and); (focus ((conv => whnf) <;> first | rfl | (intro K hK; (conv => whnf); first | exact hK | (intro z hz; rw [wrapI (by omega)] at hz; subst hz; exact hK)))); (conv => whnf)) | ((with_reducible apply z_wrap); (focus omega); (conv => whnf)) | ((with_reducible first | apply mt_dec | apply mt_eq | apply mt_ne | apply mt_not | apply mt_any) <;> (intro _; conv => whnf)))
                    ((with_reducible apply rd_intro); (focus (intro K hK; (conv => whnf); exact ⟨by omega, c1.cs, certsD_at hc1, hK⟩)); (conv => whnf))
                    repeat' (first | ((with_reducible apply rd_intro); (focus (intro K hK; (conv => whnf); first | exact hK | (intro z hz; rw [wrapI (by omega)] at hz; subst hz; exact hK))); (conv => whnf)) | ((with_reducible apply gd_and); (focus ((conv => whnf) <;> first | rfl | (intro K hK; (conv => whnf); first | exact hK | (intro z hz; rw [wrapI (by omega)] at hz; subst hz; exact hK)))); (conv => whnf)) | ((with_reducible apply z_wrap); (focus omega); (conv => whnf)) | ((with_reducible first | apply mt_dec | apply mt_eq | apply mt_ne | apply mt_not | apply mt_any) <;> (intro _; conv => whnf)))
                    · exact ⟨⟨_, rfl, by intro h; cases h⟩, rfl⟩
                    · rename_i hne
                      refine ⟨k + 1, rfl, rfl, ⟨by omega, fun y hy => ?_⟩, by omega⟩
                      rw [take_snoc hc1] at hy
                      rcases List.mem_append.1 hy with hy | hy
                      · exact hkd y hy
                      · simp at hy; rw [hy]; exact hne
                  · rename_i hkl
                    have hkj : k = j := by omega
                    subst hkj
                    refine (rLacks_ok d hfd c (by have := hcok.head.pars.1; omega) hcok.head.round).mono ?_
                    rintro _ _ ⟨rfl, rfl⟩
                    have hll := nums_length (lacksI d c)
                    conv => whnf
                    rw [hll]
                    repeat' (first | ((with_reducible apply rd_intro); (focus (intro K hK; (conv => whnf); first | exact hK | (intro z hz; rw [wrapI (by omega)] at hz; subst hz; exact hK))); (conv => whnf)) | ((with_reducible apply gd_and); (focus ((conv => whnf) <;> first | rfl | (intro K hK; (conv => whnf); first | exact hK | (intro z hz; rw [wrapI (by omega)] at hz; subst hz; exact hK)))); (conv => whnf)) | ((with_reducible apply z_wrap); (focus omega); (conv => whnf)) | ((with_reducible first | apply mt_dec | apply mt_eq | apply mt_ne | apply mt_not | apply mt_any) <;> (intro _; conv => whnf)))
                    · exact ⟨⟨_, rfl, by intro h; cases h⟩, rfl⟩
                    · rename_i hl0
                      exact ⟨k + 1, rfl, rfl, ⟨by omega, hinv.next hc hcok hlow (List.length_eq_zero_iff.1 (by omega)) h4 hkd⟩, by omega⟩
              · rw [show decide (c0.round < c.round ∨ c0.round = c.round ∧ c0.author < c.author) = false from by simpa [Cert.before] using hb]
                conv => whnf
                exact ⟨⟨_, rfl, by intro h; cases h⟩, rfl⟩
            · rename_i hlow hj0
              replace hlow : d.low < c.round := by omega
              have h4 : ∀ c0, 0 < j → d.certs[j - 1]? = some c0 → c0.before c.round c.author = true := by
                intro c1 h _
                omega
              refine loop_go ttOk zOk foOk (σ := Nat) (fun k => ([(1, .ptr 0 0), (3, .d (.int .i64 j)), (4, .ptr 1 0), (6, .d (.int .i64 k))], [.cells d.cells, .cells c.cells])) (fun k => k ≤ j ∧ ∀ x ∈ d.certs.take k, x.digest ≠ c.digest) (fun k => j - k) [1, 3, 4, 6] ?_ ?_
              · conv => whnf
                exact ⟨0, rfl, rfl, by omega, by simp⟩
              · rintro k ⟨hkj, hkd⟩
                conv => whnf
                repeat' (first | ((with_reducible apply rd_intro); (focus (intro K hK; (conv => whnf); first | exact hK | (intro z hz; rw [wrapI (by omega)] at hz; subst hz; exact hK))); (conv => whnf)) | ((with_reducible apply gd_and); (focus ((conv => whnf) <;> first | rfl | (intro K hK; (conv => whnf); first | exact hK | (intro z hz; rw [wrapI (by omega)] at hz; subst hz; exact hK)))); (conv => whnf)) | ((with_reducible apply z_wrap); (focus omega); (conv => whnf)) | ((with_reducible first | apply mt_dec | apply mt_eq | apply mt_ne | apply mt_not | apply mt_any) <;> (intro _; conv => whnf)))
                · rename_i hkl
                  have hkn : k < j := Int.ofNat_lt.1 hkl
                  refine Exists.elim (⟨_, List.getElem?_eq_getElem (by omega)⟩ : ∃ c, d.certs[k]? = some c) fun c1 hc1 => ?_
                  ((with_reducible refine draw_pl ttOk zOk foOk mixedOk pl11x16 ?_ ?_); (focus kernel_rfl); (conv => whnf))
                  repeat' (first | ((with_reducible apply rd_intro); (focus (intro K hK; (conv => whnf); first | exact hK | (intro z hz; rw [wrapI (by omega)] at hz; subst hz; exact hK))); (conv => whnf)) | ((with_reducible apply gd_and); (focus ((conv => whnf) <;> first | rfl | (intro K hK; (conv => whnf); first | exact hK | (intro z hz; rw [wrapI (by omega)] at hz; subst hz; exact hK)))); (conv => whnf)) | ((with_reducible apply z_wrap); (focus omega); (conv => whnf)) | ((with_reducible first | apply mt_dec | apply mt_eq | apply mt_ne | apply mt_not | apply mt_any) <;> (intro _; conv => whnf)))
                  ((with_reducible apply rd_intro); (focus (intro K hK; (conv => whnf); exact ⟨by omega, c1.cs, certsD_at hc1, hK⟩)); (conv => whnf))
                  repeat' (first | ((with_reducible apply rd_intro); (focus (intro K hK; (conv => whnf); first | exact hK | (intro z hz; rw [wrapI (by omega)] at hz; subst hz; exact hK))); (conv => whnf)) | ((with_reducible apply gd_and); (focus ((conv => whnf) <;> first | rfl | (intro K hK; (conv => whnf); first | exact hK | (intro z hz; rw [wrapI (by omega)] at hz; subst hz; exact hK)))); (conv => whnf)) | ((with_reducible apply z_wrap); (focus omega); (conv => whnf)) | ((with_reducible first | apply mt_dec | apply mt_eq | apply mt_ne | apply mt_not | apply mt_any) <;> (intro _; conv => whnf)))
                  · exact ⟨⟨_, rfl, by intro h; cases h⟩, rfl⟩
                  · rename_i hne
                    refine ⟨k + 1, rfl, rfl, ⟨by omega, fun y hy => ?_⟩, by omega⟩
                    rw [take_snoc hc1] at hy
                    rcases List.mem_append.1 hy with hy | hy
                    · exact hkd y hy
                    · simp at hy; rw [hy]; exact hne
                · rename_i hkl
                  have hkj : k = j := by omega
                  subst hkj
                  refine (rLacks_ok d hfd c (by have := hcok.head.pars.1; omega) hcok.head.round).mono ?_
                  rintro _ _ ⟨rfl, rfl⟩
                  have hll := nums_length (lacksI d c)
                  conv => whnf
                  rw [hll]
                  repeat' (first | ((with_reducible apply rd_intro); (focus (intro K hK; (conv => whnf); first | exact hK | (intro z hz; rw [wrapI (by omega)] at hz; subst hz; exact hK))); (conv => whnf)) | ((with_reducible apply gd_and); (focus ((conv => whnf) <;> first | rfl | (intro K hK; (conv => whnf); first | exact hK | (intro z hz; rw [wrapI (by omega)] at hz; subst hz; exact hK)))); (conv => whnf)) | ((with_reducible apply z_wrap); (focus omega); (conv => whnf)) | ((with_reducible first | apply mt_dec | apply mt_eq | apply mt_ne | apply mt_not | apply mt_any) <;> (intro _; conv => whnf)))
                  · exact ⟨⟨_, rfl, by intro h; cases h⟩, rfl⟩
                  · rename_i hl0
                    exact ⟨k + 1, rfl, rfl, ⟨by omega, hinv.next hc hcok hlow (List.length_eq_zero_iff.1 (by omega)) h4 hkd⟩, by omega⟩
          · rw [@decide_eq_false _ (Classical.propDecidable _) hcok]
            conv => whnf
            exact ⟨⟨_, rfl, by intro h; cases h⟩, rfl⟩
        · rename_i hjl
          have : j = d.certs.length := by omega
          subst this
          exact ⟨⟨_, rfl, fun _ => hinv.valid hn ⟨by omega, by omega⟩ (by omega)⟩, rfl⟩
end Go.Proofs.YtoeppembokpjkaaGreat

namespace Go.Proofs.YtoeppembokpjkaaGreat
open Go.Ab Go.RowKit Go.MapKept
attribute [local irreducible] ACalls AW ADraw Into fltB fnear
set_option maxRecDepth 100000
theorem Valid.tiny {d : Dag} (h : Valid d) : Go.Proofs.YtoeppembokpjkaaGreat.tiny d.certs ∧ ∀ c ∈ d.certs, c.tiny := by
  have hn := of_decide_eq_true h.nodes
  refine ⟨by have := h.len; unfold Go.Proofs.YtoeppembokpjkaaGreat.tiny; omega, fun c hc => ?_⟩
  have h1 := h.certs c hc
  refine ⟨?_, ?_, ?_⟩
  · have := h1.head.bats.1; unfold Go.Proofs.YtoeppembokpjkaaGreat.tiny; omega
  · have := h1.head.pars.1; unfold Go.Proofs.YtoeppembokpjkaaGreat.tiny; omega
  · have := rise_len2 (show riseB c.sigs 1 65536 from ⟨h1.sigs.1, fun x hx => by have := h1.sigs.2 x hx; omega⟩)
    unfold Go.Proofs.YtoeppembokpjkaaGreat.tiny; omega
theorem copyCerts_row (l : List Cert) (hl : tiny l) (h : ∀ c ∈ l, c.tiny) : ACalls Tryz.prog 25 [.d (.sl 6 (certsD l))] [] (fun av L => av = .arr 0 ∧ L = [.row 68 6 (certsD l) false]) := by
  have hx := certsD_length l
  unfold tiny at hl
  refine acalls_go ttOk zOk foOk Tryz.func25 rfl Tryz.ntmps25 rfl true rfl ?_
  conv => whnf
  refine loop_go ttOk zOk foOk (σ := Nat) (fun k => ([(0, .d (.sl 6 (certsD l))), (3, .arr 0), (4, .d (.int .i64 k))], [.row 68 6 (certsD (l.take k)) false])) (fun k => k ≤ l.length) (fun k => l.length - k) [0, 3, 4] ?_ ?_
  · conv => whnf
    exact ⟨0, rfl, rfl, by omega⟩
  · intro k hk
    conv => whnf
    rw [hx]
    repeat' (first | ((with_reducible apply rd_intro); (focus (intro K hK; (conv => whnf); first | exact hK | (intro z hz; rw [wrapI (by omega)] at hz; subst hz; exact hK))); (conv => whnf)) | ((with_reducible apply gd_and); (focus ((conv => whnf) <;> first | rfl | (intro K hK; (conv => whnf); first | exact hK | (intro z hz; rw [wrapI (by omega)] at hz; subst hz; exact hK)))); (conv => whnf)) | ((with_reducible apply z_wrap); (focus omega); (conv => whnf)) | ((with_reducible first | apply mt_dec | apply mt_eq | apply mt_ne | apply mt_not | apply mt_any) <;> (intro _; conv => whnf)))
    · rename_i h2
      refine Exists.elim (⟨_, List.getElem?_eq_getElem (by omega)⟩ : ∃ a, l[k]? = some a) fun a ha => ?_
      have hkn := certsD_length (l.take k)
      refine ⟨by omega, a.cs, certsD_at ha, ?_⟩
      conv => whnf
      repeat' (first | ((with_reducible apply rd_intro); (focus (intro K hK; (conv => whnf); first | exact hK | (intro z hz; rw [wrapI (by omega)] at hz; subst hz; exact hK))); (conv => whnf)) | ((with_reducible apply gd_and); (focus ((conv => whnf) <;> first | rfl | (intro K hK; (conv => whnf); first | exact hK | (intro z hz; rw [wrapI (by omega)] at hz; subst hz; exact hK)))); (conv => whnf)) | ((with_reducible apply z_wrap); (focus omega); (conv => whnf)) | ((with_reducible first | apply mt_dec | apply mt_eq | apply mt_ne | apply mt_not | apply mt_any) <;> (intro _; conv => whnf)))
      refine (copyCert_ok a (h a (List.mem_of_getElem? ha))).mono ?_
      rintro _ _ ⟨rfl, rfl⟩
      conv => whnf
      repeat' (first | ((with_reducible apply rd_intro); (focus (intro K hK; (conv => whnf); first | exact hK | (intro z hz; rw [wrapI (by omega)] at hz; subst hz; exact hK))); (conv => whnf)) | ((with_reducible apply gd_and); (focus ((conv => whnf) <;> first | rfl | (intro K hK; (conv => whnf); first | exact hK | (intro z hz; rw [wrapI (by omega)] at hz; subst hz; exact hK)))); (conv => whnf)) | ((with_reducible apply z_wrap); (focus omega); (conv => whnf)) | ((with_reducible first | apply mt_dec | apply mt_eq | apply mt_ne | apply mt_not | apply mt_any) <;> (intro _; conv => whnf)))
      refine ⟨by simp [hkn]; omega, ?_⟩
      conv => whnf
      repeat' (first | ((with_reducible apply rd_intro); (focus (intro K hK; (conv => whnf); first | exact hK | (intro z hz; rw [wrapI (by omega)] at hz; subst hz; exact hK))); (conv => whnf)) | ((with_reducible apply gd_and); (focus ((conv => whnf) <;> first | rfl | (intro K hK; (conv => whnf); first | exact hK | (intro z hz; rw [wrapI (by omega)] at hz; subst hz; exact hK)))); (conv => whnf)) | ((with_reducible apply z_wrap); (focus omega); (conv => whnf)) | ((with_reducible first | apply mt_dec | apply mt_eq | apply mt_ne | apply mt_not | apply mt_any) <;> (intro _; conv => whnf)))
      refine ⟨k + 1, rfl, ?_, by omega, by omega⟩
      rw [List.take_add_one, ha]
      simp [certsD, Cert.cs]
    · rename_i h2
      rw [List.take_of_length_le (by omega)]
      exact ⟨rfl, rfl⟩
theorem rAt_none (d : Dag) (hd : few d.certs) (r a : Int) (hno : ∀ c ∈ d.certs, ¬ (c.round = r ∧ c.author = a)) : ACalls Tryz.prog 86 [d.av, .d (.int .i64 r), .d (.int .i64 a)] [] (fun av L => av = .d (.int .i64 (-1)) ∧ L = []) := by
  have hcl := certsD_length d.certs
  unfold few at hd
  refine acalls_go ttOk zOk foOk Tryz.func86 rfl Tryz.ntmps86 rfl false rfl ?_
  conv => whnf
  refine loop_go ttOk zOk foOk (σ := Nat) (fun j => ([(1, .d (.int .i64 r)), (2, .d (.int .i64 a)), (3, .ptr 0 0), (7, .d (.int .i64 j))], [.cells d.cells])) (fun j => j ≤ d.certs.length) (fun j => d.certs.length - j) [1, 2, 3, 7] ?_ ?_
  · conv => whnf
    exact ⟨0, rfl, rfl, Nat.zero_le _⟩
  · intro j hj
    conv => whnf
    rw [hcl]
    repeat' (first | ((with_reducible apply rd_intro); (focus (intro K hK; (conv => whnf); first | exact hK | (intro z hz; rw [wrapI (by omega)] at hz; subst hz; exact hK))); (conv => whnf)) | ((with_reducible apply gd_and); (focus ((conv => whnf) <;> first | rfl | (intro K hK; (conv => whnf); first | exact hK | (intro z hz; rw [wrapI (by omega)] at hz; subst hz; exact hK)))); (conv => whnf)) | ((with_reducible apply z_wrap); (focus omega); (conv => whnf)) | ((with_reducible first | apply mt_dec | apply mt_eq | apply mt_ne | apply mt_not | apply mt_any) <;> (intro _; conv => whnf)))
    · rename_i h
      refine Exists.elim (⟨_, List.getElem?_eq_getElem (by omega)⟩ : ∃ c, d.certs[j]? = some c) fun c hc => ?_
      have hn := hno c (List.mem_of_getElem? hc)
      refine ⟨by omega, c.cs, certsD_at hc, ?_⟩
      conv => whnf
      repeat' (first | ((with_reducible apply rd_intro); (focus (intro K hK; (conv => whnf); first | exact hK | (intro z hz; rw [wrapI (by omega)] at hz; subst hz; exact hK))); (conv => whnf)) | ((with_reducible apply gd_and); (focus ((conv => whnf) <;> first | rfl | (intro K hK; (conv => whnf); first | exact hK | (intro z hz; rw [wrapI (by omega)] at hz; subst hz; exact hK)))); (conv => whnf)) | ((with_reducible apply z_wrap); (focus omega); (conv => whnf)) | ((with_reducible first | apply mt_dec | apply mt_eq | apply mt_ne | apply mt_not | apply mt_any) <;> (intro _; conv => whnf)))
      · rename_i h2
        refine ⟨by omega, c.cs, certsD_at hc, ?_⟩
        conv => whnf
        repeat' (first | ((with_reducible apply rd_intro); (focus (intro K hK; (conv => whnf); first | exact hK | (intro z hz; rw [wrapI (by omega)] at hz; subst hz; exact hK))); (conv => whnf)) | ((with_reducible apply gd_and); (focus ((conv => whnf) <;> first | rfl | (intro K hK; (conv => whnf); first | exact hK | (intro z hz; rw [wrapI (by omega)] at hz; subst hz; exact hK)))); (conv => whnf)) | ((with_reducible apply z_wrap); (focus omega); (conv => whnf)) | ((with_reducible first | apply mt_dec | apply mt_eq | apply mt_ne | apply mt_not | apply mt_any) <;> (intro _; conv => whnf)))
        · rename_i h3; exact absurd ⟨h2, h3⟩ hn
        · exact ⟨j + 1, rfl, rfl, by omega, by omega⟩
      · exact ⟨j + 1, rfl, rfl, by omega, by omega⟩
    · exact ⟨rfl, rfl⟩
/-- a certificate that comes behind all that are there -/
theorem addLast_row (d : Dag) (hl : tiny d.certs) (ht : ∀ c ∈ d.certs, c.tiny) (c : Cert) (hct : c.tiny) (hfl : fewL c) (hok : okCert d.nodes c) (hlow : d.low < c.round) (hbef : ∀ y ∈ d.certs, y.before c.round c.author = true) (hdig : ∀ y ∈ d.certs, y.digest ≠ c.digest) :
    ACalls Tryz.prog 59 [d.av, c.av] [] (fun av L => (lacksI d c ≠ [] ∧ av = .tup [d.av, .d (.int .i64 7)] ∧ L = []) ∨ (lacksI d c = [] ∧ av = .tup [.agg [.d (.int .i64 d.nodes), .d (.int .i64 d.low), .arr 0], .d (.int .i64 0)] ∧ L = [.row 68 6 (certsD (d.certs ++ [c])) false])) := by
  have hcl := certsD_length d.certs
  have hl' := hl
  unfold tiny at hl
  have hfd : few d.certs := by unfold few; omega
  refine acalls_go ttOk zOk foOk Tryz.func59 rfl Tryz.ntmps59 rfl true rfl ?_
  conv => whnf
  refine (rCert_ok c hfl d.nodes).mono ?_
  rintro _ _ ⟨rfl, rfl⟩
  rw [@decide_eq_true _ (Classical.propDecidable _) hok]
  conv => whnf
  repeat' (first | ((with_reducible apply rd_intro); (focus (intro K hK; (conv => whnf); first | exact hK | (intro z hz; rw [wrapI (by omega)] at hz; subst hz; exact hK))); (conv => whnf)) | ((with_reducible apply gd_and); (focus ((conv => whnf) <;> first | rfl | (intro K hK; (conv => whnf); first | exact hK | (intro z hz; rw [wrapI (by omega)] at hz; subst hz; exact hK)))); (conv => whnf)) | ((with_reducible apply z_wrap); (focus omega); (conv => whnf)) | ((with_reducible first | apply mt_dec | apply mt_eq | apply mt_ne | apply mt_not | apply mt_any) <;> (intro _; conv => whnf)))
  · rename_i h; exact absurd hlow (by omega)
  · refine (rAt_none d hfd c.round c.author ?_).mono ?_
    · intro y hy h
      have := before_iff.1 (hbef y hy)
      omega
    · rintro _ _ ⟨rfl, rfl⟩
      conv => whnf
      refine (rFind_ok d hfd c.digest).mono ?_
      rintro _ _ ⟨rfl, rfl⟩
      rw [show getI d.certs c.digest = -1 by rw [getI, getC_no hdig]; rfl]
      conv => whnf
      repeat' (first | ((with_reducible apply rd_intro); (focus (intro K hK; (conv => whnf); first | exact hK | (intro z hz; rw [wrapI (by omega)] at hz; subst hz; exact hK))); (conv => whnf)) | ((with_reducible apply gd_and); (focus ((conv => whnf) <;> first | rfl | (intro K hK; (conv => whnf); first | exact hK | (intro z hz; rw [wrapI (by omega)] at hz; subst hz; exact hK)))); (conv => whnf)) | ((with_reducible apply z_wrap); (focus omega); (conv => whnf)) | ((with_reducible first | apply mt_dec | apply mt_eq | apply mt_ne | apply mt_not | apply mt_any) <;> (intro _; conv => whnf)))
      refine (rLacks_ok d hfd c (by have := hct.pars; unfold tiny at this; omega) hok.head.round).mono ?_
      rintro _ _ ⟨rfl, rfl⟩
      have hll := nums_length (lacksI d c)
      conv => whnf
      repeat' (first | ((with_reducible apply rd_intro); (focus (intro K hK; (conv => whnf); first | exact hK | (intro z hz; rw [wrapI (by omega)] at hz; subst hz; exact hK))); (conv => whnf)) | ((with_reducible apply gd_and); (focus ((conv => whnf) <;> first | rfl | (intro K hK; (conv => whnf); first | exact hK | (intro z hz; rw [wrapI (by omega)] at hz; subst hz; exact hK)))); (conv => whnf)) | ((with_reducible apply z_wrap); (focus omega); (conv => whnf)) | ((with_reducible first | apply mt_dec | apply mt_eq | apply mt_ne | apply mt_not | apply mt_any) <;> (intro _; conv => whnf)))
      · rename_i h
        exact .inl ⟨fun e => by rw [hll, e] at h; simp at h, rfl, rfl⟩
      · rename_i h
        have hlk : lacksI d c = [] := List.length_eq_zero_iff.1 (by omega)
        refine loop_go ttOk zOk foOk (σ := Nat) (fun j => ([(2, .ptr 0 0), (3, .ptr 1 0), (4, .ptr 2 0), (8, .d (.int .i64 j))], [.cells d.cells, .cells c.cells, .cells [.d (.int .i64 0), .d (.int .i64 0), .d .nils]])) (fun j => j ≤ d.certs.length) (fun j => d.certs.length - j) [2, 3, 4, 8] ?_ ?_
        · conv => whnf
          exact ⟨0, rfl, rfl, Nat.zero_le _⟩
        · intro j hj
          conv => whnf
          ((with_reducible refine draw_pl ttOk zOk foOk mixedOk pl59x14 ?_ ?_); (focus kernel_rfl); (conv => whnf))
          repeat' (first | ((with_reducible apply rd_intro); (focus (intro K hK; (conv => whnf); first | exact hK | (intro z hz; rw [wrapI (by omega)] at hz; subst hz; exact hK))); (conv => whnf)) | ((with_reducible apply gd_and); (focus ((conv => whnf) <;> first | rfl | (intro K hK; (conv => whnf); first | exact hK | (intro z hz; rw [wrapI (by omega)] at hz; subst hz; exact hK)))); (conv => whnf)) | ((with_reducible apply z_wrap); (focus omega); (conv => whnf)) | ((with_reducible first | apply mt_dec | apply mt_eq | apply mt_ne | apply mt_not | apply mt_any) <;> (intro _; conv => whnf)))
          · rename_i hjl
            refine Exists.elim (⟨_, List.getElem?_eq_getElem (by omega)⟩ : ∃ y, d.certs[j]? = some y) fun y hy => ?_
            have hb := hbef y (List.mem_of_getElem? hy)
            ((with_reducible apply rd_intro); (focus (intro K hK; (conv => whnf); exact ⟨by omega, y.cs, certsD_at hy, hK⟩)); (conv => whnf))
            repeat' (first | ((with_reducible apply rd_intro); (focus (intro K hK; (conv => whnf); first | exact hK | (intro z hz; rw [wrapI (by omega)] at hz; subst hz; exact hK))); (conv => whnf)) | ((with_reducible apply gd_and); (focus ((conv => whnf) <;> first | rfl | (intro K hK; (conv => whnf); first | exact hK | (intro z hz; rw [wrapI (by omega)] at hz; subst hz; exact hK)))); (conv => whnf)) | ((with_reducible apply z_wrap); (focus omega); (conv => whnf)) | ((with_reducible first | apply mt_dec | apply mt_eq | apply mt_ne | apply mt_not | apply mt_any) <;> (intro _; conv => whnf)))
            ((with_reducible apply rd_intro); (focus (intro K hK; (conv => whnf); exact ⟨by omega, y.cs, certsD_at hy, hK⟩)); (conv => whnf))
            repeat' (first | ((with_reducible apply rd_intro); (focus (intro K hK; (conv => whnf); first | exact hK | (intro z hz; rw [wrapI (by omega)] at hz; subst hz; exact hK))); (conv => whnf)) | ((with_reducible apply gd_and); (focus ((conv => whnf) <;> first | rfl | (intro K hK; (conv => whnf); first | exact hK | (intro z hz; rw [wrapI (by omega)] at hz; subst hz; exact hK)))); (conv => whnf)) | ((with_reducible apply z_wrap); (focus omega); (conv => whnf)) | ((with_reducible first | apply mt_dec | apply mt_eq | apply mt_ne | apply mt_not | apply mt_any) <;> (intro _; conv => whnf)))
            refine (rBefore_ok y.round y.author c.round c.author).mono ?_
            rintro _ _ ⟨rfl, rfl⟩
            rw [show decide (y.round < c.round ∨ y.round = c.round ∧ y.author < c.author) = true from hb]
            conv => whnf
            repeat' (first | ((with_reducible apply rd_intro); (focus (intro K hK; (conv => whnf); first | exact hK | (intro z hz; rw [wrapI (by omega)] at hz; subst hz; exact hK))); (conv => whnf)) | ((with_reducible apply gd_and); (focus ((conv => whnf) <;> first | rfl | (intro K hK; (conv => whnf); first | exact hK | (intro z hz; rw [wrapI (by omega)] at hz; subst hz; exact hK)))); (conv => whnf)) | ((with_reducible apply z_wrap); (focus omega); (conv => whnf)) | ((with_reducible first | apply mt_dec | apply mt_eq | apply mt_ne | apply mt_not | apply mt_any) <;> (intro _; conv => whnf)))
            exact ⟨j + 1, rfl, rfl, by omega, by omega⟩
          · rename_i hjl
            have hje : j = d.certs.length := by omega
            subst hje
            ((with_reducible refine draw_pl ttOk zOk foOk mixedOk pl59x17 ?_ ?_); (focus kernel_rfl); (conv => whnf))
            repeat' (first | ((with_reducible apply rd_intro); (focus (intro K hK; (conv => whnf); first | exact hK | (intro z hz; rw [wrapI (by omega)] at hz; subst hz; exact hK))); (conv => whnf)) | ((with_reducible apply gd_and); (focus ((conv => whnf) <;> first | rfl | (intro K hK; (conv => whnf); first | exact hK | (intro z hz; rw [wrapI (by omega)] at hz; subst hz; exact hK)))); (conv => whnf)) | ((with_reducible apply z_wrap); (focus omega); (conv => whnf)) | ((with_reducible first | apply mt_dec | apply mt_eq | apply mt_ne | apply mt_not | apply mt_any) <;> (intro _; conv => whnf)))
            ((with_reducible apply rd_intro); (focus (intro K hK; (conv => whnf); exact ⟨by omega, by omega, by omega, hK⟩)); (conv => whnf))
            repeat' (first | ((with_reducible apply rd_intro); (focus (intro K hK; (conv => whnf); first | exact hK | (intro z hz; rw [wrapI (by omega)] at hz; subst hz; exact hK))); (conv => whnf)) | ((with_reducible apply gd_and); (focus ((conv => whnf) <;> first | rfl | (intro K hK; (conv => whnf); first | exact hK | (intro z hz; rw [wrapI (by omega)] at hz; subst hz; exact hK)))); (conv => whnf)) | ((with_reducible apply z_wrap); (focus omega); (conv => whnf)) | ((with_reducible first | apply mt_dec | apply mt_eq | apply mt_ne | apply mt_not | apply mt_any) <;> (intro _; conv => whnf)))
            have hsl : List.drop (Int.toNat 0) (List.take ((d.certs.length : Int)).toNat (certsD d.certs)) = certsD d.certs := by
              rw [show (Int.toNat 0) = 0 from rfl, List.drop_zero, show ((d.certs.length : Int)).toNat = d.certs.length from rfl, List.take_of_length_le (by omega)]
            rw [hsl]
            refine (copyCerts_row d.certs hl' ht).mono ?_
            rintro _ _ ⟨rfl, rfl⟩
            conv => whnf
            repeat' (first | ((with_reducible apply rd_intro); (focus (intro K hK; (conv => whnf); first | exact hK | (intro z hz; rw [wrapI (by omega)] at hz; subst hz; exact hK))); (conv => whnf)) | ((with_reducible apply gd_and); (focus ((conv => whnf) <;> first | rfl | (intro K hK; (conv => whnf); first | exact hK | (intro z hz; rw [wrapI (by omega)] at hz; subst hz; exact hK)))); (conv => whnf)) | ((with_reducible apply z_wrap); (focus omega); (conv => whnf)) | ((with_reducible first | apply mt_dec | apply mt_eq | apply mt_ne | apply mt_not | apply mt_any) <;> (intro _; conv => whnf)))
            refine (copyCert_ok c hct).mono ?_
            rintro _ _ ⟨rfl, rfl⟩
            conv => whnf
            repeat' (first | ((with_reducible apply rd_intro); (focus (intro K hK; (conv => whnf); first | exact hK | (intro z hz; rw [wrapI (by omega)] at hz; subst hz; exact hK))); (conv => whnf)) | ((with_reducible apply gd_and); (focus ((conv => whnf) <;> first | rfl | (intro K hK; (conv => whnf); first | exact hK | (intro z hz; rw [wrapI (by omega)] at hz; subst hz; exact hK)))); (conv => whnf)) | ((with_reducible apply z_wrap); (focus omega); (conv => whnf)) | ((with_reducible first | apply mt_dec | apply mt_eq | apply mt_ne | apply mt_not | apply mt_any) <;> (intro _; conv => whnf)))
            refine ⟨by simp; omega, ?_⟩
            conv => whnf
            repeat' (first | ((with_reducible apply rd_intro); (focus (intro K hK; (conv => whnf); first | exact hK | (intro z hz; rw [wrapI (by omega)] at hz; subst hz; exact hK))); (conv => whnf)) | ((with_reducible apply gd_and); (focus ((conv => whnf) <;> first | rfl | (intro K hK; (conv => whnf); first | exact hK | (intro z hz; rw [wrapI (by omega)] at hz; subst hz; exact hK)))); (conv => whnf)) | ((with_reducible apply z_wrap); (focus omega); (conv => whnf)) | ((with_reducible first | apply mt_dec | apply mt_eq | apply mt_ne | apply mt_not | apply mt_any) <;> (intro _; conv => whnf)))
            ((with_reducible refine draw_pl ttOk zOk foOk mixedOk pl59x18 ?_ ?_); (focus kernel_rfl); (conv => whnf))
            repeat' (first | ((with_reducible apply rd_intro); (focus (intro K hK; (conv => whnf); first | exact hK | (intro z hz; rw [wrapI (by omega)] at hz; subst hz; exact hK))); (conv => whnf)) | ((with_reducible apply gd_and); (focus ((conv => whnf) <;> first | rfl | (intro K hK; (conv => whnf); first | exact hK | (intro z hz; rw [wrapI (by omega)] at hz; subst hz; exact hK)))); (conv => whnf)) | ((with_reducible apply z_wrap); (focus omega); (conv => whnf)) | ((with_reducible first | apply mt_dec | apply mt_eq | apply mt_ne | apply mt_not | apply mt_any) <;> (intro _; conv => whnf)))
            ((with_reducible apply rd_intro); (focus (intro K hK; (conv => whnf); exact ⟨by omega, by omega, by omega, hK⟩)); (conv => whnf))
            repeat' (first | ((with_reducible apply rd_intro); (focus (intro K hK; (conv => whnf); first | exact hK | (intro z hz; rw [wrapI (by omega)] at hz; subst hz; exact hK))); (conv => whnf)) | ((with_reducible apply gd_and); (focus ((conv => whnf) <;> first | rfl | (intro K hK; (conv => whnf); first | exact hK | (intro z hz; rw [wrapI (by omega)] at hz; subst hz; exact hK)))); (conv => whnf)) | ((with_reducible apply z_wrap); (focus omega); (conv => whnf)) | ((with_reducible first | apply mt_dec | apply mt_eq | apply mt_ne | apply mt_not | apply mt_any) <;> (intro _; conv => whnf)))
            have hs2 : List.drop ((d.certs.length : Int)).toNat (List.take ((certsD d.certs).length : Int).toNat (certsD d.certs)) = certsD [] := by
              rw [show ((d.certs.length : Int)).toNat = d.certs.length from rfl, show ((certsD d.certs).length : Int).toNat = (certsD d.certs).length from rfl, List.take_length, List.drop_of_length_le (by omega)]
              rfl
            rw [hs2]
            refine (copyCerts_ok [] (by unfold tiny; simp) (by simp)).mono ?_
            rintro _ _ ⟨rfl, rfl⟩
            conv => whnf
            repeat' (first | ((with_reducible apply rd_intro); (focus (intro K hK; (conv => whnf); first | exact hK | (intro z hz; rw [wrapI (by omega)] at hz; subst hz; exact hK))); (conv => whnf)) | ((with_reducible apply gd_and); (focus ((conv => whnf) <;> first | rfl | (intro K hK; (conv => whnf); first | exact hK | (intro z hz; rw [wrapI (by omega)] at hz; subst hz; exact hK)))); (conv => whnf)) | ((with_reducible apply z_wrap); (focus omega); (conv => whnf)) | ((with_reducible first | apply mt_dec | apply mt_eq | apply mt_ne | apply mt_not | apply mt_any) <;> (intro _; conv => whnf)))
            refine ⟨by simp [certsD]; omega, ?_⟩
            conv => whnf
            repeat' (first | ((with_reducible apply rd_intro); (focus (intro K hK; (conv => whnf); first | exact hK | (intro z hz; rw [wrapI (by omega)] at hz; subst hz; exact hK))); (conv => whnf)) | ((with_reducible apply gd_and); (focus ((conv => whnf) <;> first | rfl | (intro K hK; (conv => whnf); first | exact hK | (intro z hz; rw [wrapI (by omega)] at hz; subst hz; exact hK)))); (conv => whnf)) | ((with_reducible apply z_wrap); (focus omega); (conv => whnf)) | ((with_reducible first | apply mt_dec | apply mt_eq | apply mt_ne | apply mt_not | apply mt_any) <;> (intro _; conv => whnf)))
            refine .inr ⟨hlk, rfl, ?_⟩
            simp [certsD, Cert.cs]
/-- what Add tells, as data -/
def addAV (d : Dag) (c : Cert) : AV := if lacksI d c = [] then .tup [(Dag.mk d.nodes d.low (d.certs ++ [c])).av, .d (.int .i64 0)] else .tup [d.av, .d (.int .i64 7)]
theorem addLast_ok (d : Dag) (hl : tiny d.certs) (ht : ∀ c ∈ d.certs, c.tiny) (c : Cert) (hct : c.tiny) (hfl : fewL c) (hok : okCert d.nodes c) (hlow : d.low < c.round) (hbef : ∀ y ∈ d.certs, y.before c.round c.author = true) (hdig : ∀ y ∈ d.certs, y.digest ≠ c.digest) :
    ACalls Tryz.prog 59 [d.av, c.av] [] (fun av L => av = addAV d c ∧ L = []) := by
  refine acalls_data (addLast_row d hl ht c hct hfl hok hlow hbef hdig) ?_
  rintro _ _ (⟨h, rfl, rfl⟩ | ⟨h, rfl, rfl⟩)
  · rw [addAV, if_neg h]
    conv => whnf
    exact ⟨rfl, rfl⟩
  · rw [addAV, if_pos h]
    conv => whnf
    exact ⟨rfl, rfl⟩
/-- a DAG without one of its certificates, and all that stands on it -/
def woL (d : Dag) (k : Nat) : Nat → List Cert
  | 0 => []
  | j + 1 => match d.certs[j]? with
    | some c => if j = k then woL d k j else if lacksI ⟨d.nodes, d.low, woL d k j⟩ c = [] then woL d k j ++ [c] else woL d k j
    | none => woL d k j
theorem woL_sub (d : Dag) (k : Nat) : ∀ j, (woL d k j).Sublist (d.certs.take j)
  | 0 => by simp [woL]
  | j + 1 => by
    have ih := woL_sub d k j
    unfold woL
    split
    · rename_i c hc
      rw [List.take_add_one, hc]
      split
      · exact ih.trans (List.sublist_append_left ..)
      · split
        · exact List.Sublist.append ih (List.Sublist.refl _)
        · exact ih.trans (List.sublist_append_left ..)
    · rename_i hc
      rw [List.take_add_one, hc]
      simpa using ih
theorem woL_here {d : Dag} (h : Valid d) (k : Nat) : ∀ j, ∀ c ∈ woL d k j, c.round > d.low + 1 → ∀ x ∈ c.pars, ∃ c' ∈ woL d k j, c'.digest = x ∧ c'.round = c.round - 1
  | 0 => by simp [woL]
  | j + 1 => by
    have ih := woL_here h k j
    unfold woL
    split
    · rename_i c hc
      split
      · exact ih
      · split
        · rename_i hl
          intro y hy hr x hx
          rcases List.mem_append.1 hy with hy | hy
          · obtain ⟨c', h1, h2⟩ := ih y hy hr x hx
            exact ⟨c', List.mem_append_left _ h1, h2⟩
          · simp at hy
            subst hy
            obtain ⟨c', h1, h2⟩ := lacks_nil hl hr x hx
            exact ⟨c', List.mem_append_left _ h1, h2⟩
        · exact ih
    · exact ih
theorem woL_valid {d : Dag} (h : Valid d) (k j : Nat) : Valid ⟨d.nodes, d.low, woL d k j⟩ := by
  have hs : (woL d k j).Sublist d.certs := (woL_sub d k j).trans (List.take_sublist ..)
  refine ⟨h.nodes, h.low, Nat.le_trans hs.length_le h.len, fun c hc => h.certs c (hs.subset hc), fun c hc => h.above c (hs.subset hc), h.sorted.sublist hs, h.dig.sublist (hs.map _), woL_here h k j⟩
end Go.Proofs.YtoeppembokpjkaaGreat

namespace Go.Proofs.YtoeppembokpjkaaGreat
open Go.Ab Go.RowKit Go.MapKept
attribute [local irreducible] ACalls AW ADraw Into fltB fnear
set_option maxRecDepth 100000
/-! ## cursor.Step of a DAG that may be, its low 0 -/
def outs (d : Dag) : List Int := (finW d c0).outs
theorem Valid.part {d : Dag} (h : Valid d) (h0 : d.low = 0) (n : Nat) : Valid ⟨d.nodes, 0, d.certs.take n⟩ := by
  have hm : ∀ c ∈ d.certs.take n, c ∈ d.certs := fun c hc => List.mem_of_mem_take hc
  refine ⟨h.nodes, by show (0 : Int) ≤ 0 ∧ (0 : Int) ≤ 1099511627776; decide, by show (d.certs.take n).length ≤ 65536; have := h.len; have := List.length_take_le' n d.certs; omega, fun c hc => h.certs c (hm c hc), fun c hc => by have := h.above c (hm c hc); rw [h0] at this; exact this, h.sorted.sublist (List.take_sublist ..), h.dig.sublist ((List.take_sublist ..).map _), ?_⟩
  intro c hc hr x hx
  obtain ⟨c', h1, h2, h3⟩ := h.here c (hm c hc) (by rw [h0]; exact hr) x hx
  refine ⟨c', ?_, h2, h3⟩
  obtain ⟨i, hi, rfl⟩ := List.mem_take_iff_getElem.1 hc
  obtain ⟨k, hk⟩ := List.getElem?_of_mem h1
  obtain ⟨hkl, rfl⟩ := List.getElem?_eq_some_iff.1 hk
  refine List.mem_take_iff_getElem.2 ⟨k, ?_, rfl⟩
  rcases Nat.lt_trichotomy k i with h4 | h4 | h4
  · omega
  · subst h4; omega
  · have := List.pairwise_iff_getElem.1 h.sorted i k (by omega) hkl h4
    have := before_iff.1 this
    omega
/-- a first step in a DAG whose low is 0 -/
theorem first_ok (d : Dag) (h : Valid d) (h0 : d.low = 0) : ACalls Tryz.prog 14 [d.av, .agg [.d (.int .i64 0), .d .nils, .d (.int .i64 0)]] [] (fun av L => av = (finW d c0).res ∧ L = [.row 3 1 (nums (finW d c0).c.done) false]) := by
  refine (step_ok d h.well (dagMay_ok d h) c0 .nils (.inl ⟨rfl, rfl⟩) c0_may).mono ?_
  rintro av L (⟨h, _⟩ | ⟨_, rfl, rfl⟩)
  · exact absurd h.1 (by omega)
  · exact ⟨rfl, rfl⟩
theorem finW_few {d : Dag} (h : Valid d) (h0 : d.low = 0) : few (finW d c0).outs := by
  have := (goF_okay h (topR d.certs).toNat ⟨c0, []⟩ (start_okay c0_may) (by decide) (by decide)).1.outs' h.well
  show (Wk.goF d (topR d.certs).toNat ⟨c0, []⟩).outs.length ≤ _
  omega
theorem Sub.part {d : Dag} (h : Valid d) (h0 : d.low = 0) (n : Nat) : Sub ⟨d.nodes, 0, d.certs.take n⟩ d := ⟨h.part h0 n, h, rfl, h0, rfl, List.take_sublist ..⟩
theorem c0_in (A : Dag) : inDag A ⟨c0, []⟩ := by intro x hx; cases hx
theorem sub_outs {A D : Dag} (h : Sub A D) : outs A <+: outs D := by
  have := (fin_on h (c0_in A) (by decide) (by decide)).2
  unfold outs
  rw [this]
  exact List.prefix_append ..
theorem Dag.eta {d : Dag} {l : Int} (h : d.low = l) : d = ⟨d.nodes, l, d.certs⟩ := by cases d; cases h; rfl
end Go.Proofs.YtoeppembokpjkaaGreat

namespace Go.Proofs.YtoeppembokpjkaaGreat
open Go.Ab Go.RowKit Go.MapKept
attribute [local irreducible] ACalls AW ADraw Into fltB fnear
set_option maxRecDepth 100000
/-! ## cursors that a part gave -/
theorem goF_up {d : Dag} (h : Valid d) : ∀ (n : Nat) (w : Wk), 0 ≤ w.c.round → w.c.round % 2 = 0 → w.c.round ≤ (Wk.goF d n w).c.round
  | 0, w, _, _ => Int.le_refl _
  | n + 1, w, h2, h3 => by
    rw [Wk.goF]
    split
    · rename_i hp
      have hsp := nextC_spec h.well h2 h3 hp
      have hall := backI_all h.well hsp.1 hsp.2.2.2.2.1
      have hr : (w.putL d (backI d w.c.round (nextC d w.c.round))).c.round = nextC d w.c.round := putL_round h hsp.2.2.2.2.1 hall.2.2
      have := goF_up h n (w.putL d (backI d w.c.round (nextC d w.c.round))) (by rw [hr]; omega) (by rw [hr]; exact hsp.2.2.2.1)
      rw [hr] at this
      omega
    · exact Int.le_refl _
theorem putA_count {d : Dag} {w : Wk} (hw : w.c.count = w.outs.length) (a : Int) (hl : (w.putA d a).outs.length ≤ 1099511627776) : (w.putA d a).c.count = (w.putA d a).outs.length := by
  unfold Wk.putA at hl ⊢
  split at hl
  · split at hl
    · rename_i i _ _ c _
      have e : (w.put d i c).outs.length = w.outs.length + (behindI d i c.round w.c.done).length := List.length_append ..
      rw [e] at hl
      show min (w.c.count + ((behindI d i c.round w.c.done).length : Int)) 1099511627776 = ((w.put d i c).outs.length : Int)
      rw [e]
      omega
    · exact hw
  · exact hw
theorem putL_count {d : Dag} : ∀ (l : List Int) (w : Wk), w.c.count = w.outs.length → (w.putL d l).outs.length ≤ 1099511627776 → (w.putL d l).c.count = (w.putL d l).outs.length
  | [], w, h, _ => h
  | a :: l, w, h, hl => by
    have h1 := (putL_outs d l (w.putA d a)).length_le
    have h2 : ((w.putA d a).putL d l).outs.length ≤ 1099511627776 := hl
    exact putL_count l (w.putA d a) (putA_count h a (by omega)) h2
theorem goF_count {d : Dag} : ∀ (n : Nat) (w : Wk), w.c.count = w.outs.length → (Wk.goF d n w).outs.length ≤ 1099511627776 → (Wk.goF d n w).c.count = (Wk.goF d n w).outs.length
  | 0, w, h, _ => h
  | n + 1, w, h, hl => by
    rw [Wk.goF] at hl ⊢
    split at hl
    · rename_i hp
      rw [if_pos hp]
      have h1 := (goF_outs d n (w.putL d (backI d w.c.round (nextC d w.c.round)))).length_le
      exact goF_count n _ (putL_count _ w h (by omega)) hl
    · rename_i hp
      rw [if_neg hp]; exact h
theorem fin_count {d : Dag} (h : Valid d) : (finW d c0).c.count = (finW d c0).outs.length := by
  have h1 := (goF_okay h (topR d.certs).toNat ⟨c0, []⟩ (start_okay c0_may) (by decide) (by decide)).1.outs' h.well
  exact goF_count _ ⟨c0, []⟩ rfl (by omega)
theorem fin_len {d : Dag} (h : Valid d) : (finW d c0).outs.length ≤ 4294967296 := (goF_okay h (topR d.certs).toNat ⟨c0, []⟩ (start_okay c0_may) (by decide) (by decide)).1.outs' h.well
theorem goF_in {d : Dag} (h : Valid d) (h0 : d.low = 0) (n : Nat) (w : Wk) (hw : inDag d w) (h2 : 0 ≤ w.c.round) (h3 : w.c.round % 2 = 0) : inDag d (Wk.goF d n w) := (sub_run (Sub.refl h h0) n w hw h2 h3).2
theorem fin_may {d : Dag} (h : Valid d) (h0 : d.low = 0) : curMay (finW d c0).c := by
  obtain ⟨h1, h2, h3, h4⟩ := goF_okay h (topR d.certs).toNat ⟨c0, []⟩ (start_okay c0_may) (by decide) (by decide)
  have h5 := goF_in h h0 (topR d.certs).toNat ⟨c0, []⟩ (c0_in d) (by decide) (by decide)
  have h6 := fin_count h
  have h7 := h1.outs' h.well
  have htop := h.well.top
  refine ⟨⟨h2, ?_, h3⟩, ⟨h1.fine.rising, fun x hx => ?_⟩, ?_⟩
  · have h8 : (finW d c0).c.round ≤ max 0 (topR d.certs) := h4
    omega
  · obtain ⟨c, hc, rfl⟩ := List.mem_map.1 (h5 x hx)
    have := (h.certs c hc).digest
    omega
  · rw [h6]
    have h8 : (finW d c0).outs.length ≤ 4294967296 := h7
    omega
/-- a step in a DAG whose low is 0 -/
theorem any_ok (d : Dag) (h : Valid d) (h0 : d.low = 0) (c : Cursor) (dn : DV) (hdn : isDone dn c.done) (hc : curMay c) : ACalls Tryz.prog 14 [d.av, .agg [.d (.int .i64 c.round), .d dn, .d (.int .i64 c.count)]] [] (fun av L => av = (finW d c).res ∧ L = [.row 3 1 (nums (finW d c).c.done) false]) := by
  refine (step_ok d h.well (dagMay_ok d h) c dn hdn hc).mono ?_
  rintro av L (⟨h, _⟩ | ⟨_, rfl, rfl⟩)
  · exact absurd h.1 (by omega)
  · exact ⟨rfl, rfl⟩
/-- what a step hands back, as data -/
def Wk.out (w : Wk) : AV := .tup [.agg [.d (.int .i64 w.c.round), .d (.sl 1 (nums w.c.done)), .d (.int .i64 w.c.count)], .d (.sl 1 (nums w.outs)), .d (.int .i64 0)]
theorem any_data (d : Dag) (h : Valid d) (h0 : d.low = 0) (c : Cursor) (dn : DV) (hdn : isDone dn c.done) (hc : curMay c) : ACalls Tryz.prog 14 [d.av, .agg [.d (.int .i64 c.round), .d dn, .d (.int .i64 c.count)]] [] (fun av L => av = (finW d c).out ∧ L = []) := by
  refine acalls_data (any_ok d h h0 c dn hdn hc) ?_
  rintro _ _ ⟨rfl, rfl⟩
  rw [Wk.res]
  conv => whnf
  exact ⟨rfl, rfl⟩
/-- the first certificates -/
def pt (d : Dag) (n : Nat) : Dag := ⟨d.nodes, 0, d.certs.take n⟩
theorem pt_valid {d : Dag} (h : Valid d) (h0 : d.low = 0) (n : Nat) : Valid (pt d n) := h.part h0 n
theorem pt_all {d : Dag} (h0 : d.low = 0) {n : Nat} (hn : d.certs.length ≤ n) : pt d n = d := by
  unfold pt
  rw [List.take_of_length_le hn]
  exact (Dag.eta h0).symm
theorem pt_sub {d : Dag} (h : Valid d) (h0 : d.low = 0) {m n : Nat} (hmn : m ≤ n) : Sub (pt d m) (pt d n) := by
  refine ⟨pt_valid h h0 m, pt_valid h h0 n, rfl, rfl, rfl, ?_⟩
  show (d.certs.take m).Sublist (d.certs.take n)
  rw [show d.certs.take m = (d.certs.take n).take m by rw [List.take_take, Nat.min_eq_left hmn]]
  exact List.take_sublist ..
theorem fin_in {A : Dag} (h : Valid A) (h0 : A.low = 0) : inDag A ⟨(finW A c0).c, []⟩ := goF_in h h0 (topR A.certs).toNat ⟨c0, []⟩ (c0_in A) (by decide) (by decide)
/-- from one part to a greater one -/
theorem part_on {A D : Dag} (h : Sub A D) : (finW D (finW A c0).c).c = (finW D c0).c ∧ (finW D c0).outs = (finW A c0).outs ++ (finW D (finW A c0).c).outs ∧ (finW A c0).c.round ≤ (finW D c0).c.round := by
  obtain ⟨h1, h2⟩ := fin_on h (c0_in A) (show 0 ≤ c0.round by decide) (by decide)
  refine ⟨h1, h2, ?_⟩
  rw [← h1]
  have hm := fin_may h.va h.la
  exact goF_up h.vd (topR D.certs).toNat ⟨(finW A c0).c, []⟩ hm.round.1 hm.round.2.2
theorem pt_zero (d : Dag) : finW (pt d 0) c0 = ⟨c0, []⟩ := rfl
theorem eqCursor_ok (r q : Int) (xs ys : List Int) (a b : Int) (hm : few xs) : ACalls Tryz.prog 17 [.agg [.d (.int .i64 r), .d (.sl 1 (nums xs)), .d (.int .i64 a)], .agg [.d (.int .i64 q), .d (.sl 1 (nums ys)), .d (.int .i64 b)]] [] (fun av L => av = .d (.bool (decide (r = q ∧ xs = ys ∧ a = b))) ∧ L = []) := by
  refine acalls_go ttOk zOk foOk Tryz.func17 rfl Tryz.ntmps17 rfl false rfl ?_
  conv => whnf
  repeat' (first | ((with_reducible apply z_wrap); (focus omega); (conv => whnf)) | ((with_reducible first | apply mt_dec | apply mt_eq | apply mt_ne | apply mt_not | apply mt_any) <;> (intro _; conv => whnf)))
  · rename_i h1
    refine (eqNumbers_ok xs ys hm).mono ?_
    rintro _ _ ⟨rfl, rfl⟩
    by_cases h2 : xs = ys
    · rw [decide_eq_true h2]
      conv => whnf
      repeat' (first | ((with_reducible apply z_wrap); (focus omega); (conv => whnf)) | ((with_reducible first | apply mt_dec | apply mt_eq | apply mt_ne | apply mt_not | apply mt_any) <;> (intro _; conv => whnf)))
      exact ⟨by by_cases h3 : a = b <;> simp [h1, h2, h3], rfl⟩
    · rw [decide_eq_false h2]
      conv => whnf
      exact ⟨by rw [decide_eq_false (fun h => h2 h.2.1)]; rfl, rfl⟩
  · rename_i h1
    exact ⟨by rw [decide_eq_false (fun h => h1 h.1)]; rfl, rfl⟩
end Go.Proofs.YtoeppembokpjkaaGreat

namespace Go.Proofs.YtoeppembokpjkaaGreat
open Go.Ab Go.RowKit Go.MapKept
attribute [local irreducible] ACalls AW ADraw Into fltB fnear
set_option maxRecDepth 100000
/-! ## the page's step -/
theorem before_take' {d : Dag} (h : Valid d) {j : Nat} {c : Cert} (hc : d.certs[j]? = some c) : (∀ y ∈ d.certs.take j, y.before c.round c.author = true) ∧ (∀ y ∈ d.certs.take j, y.digest ≠ c.digest) := by
  obtain ⟨hj, rfl⟩ := List.getElem?_eq_some_iff.1 hc
  refine ⟨fun y hy => ?_, fun y hy e => ?_⟩
  · obtain ⟨i, hi, rfl⟩ := List.mem_take_iff_getElem.1 hy
    exact List.pairwise_iff_getElem.1 h.sorted i j (by omega) hj (by omega)
  · obtain ⟨i, hi, rfl⟩ := List.mem_take_iff_getElem.1 hy
    have := List.pairwise_iff_getElem.1 h.dig i j (by simp; omega) (by simp; omega) (by omega)
    simp at this
    exact this e
theorem keepB_eq' (d : Dag) (r x : Int) : keepB d r x = (match certOf d x with | some c => decide (c.round > r - 8) | none => false) := rfl
theorem rising_ext : ∀ {a b : List Int}, risingI a → risingI b → (∀ x, x ∈ a ↔ x ∈ b) → a = b := by
  intro a b ha hb h
  have hp : a.Perm b := (List.perm_ext_iff_of_nodup (rising_nodup ha) (rising_nodup hb)).2 h
  exact hp.eq_of_pairwise (fun x y _ _ h1 h2 => by omega) ha hb
/-- what is kept of the first certificates -/
structure keptK (d : Dag) (r : Int) (S : List Int) (k : Nat) (dn : List Int) : Prop where
  rise : risingI dn
  mem : ∀ x, x ∈ dn ↔ ∃ y ∈ d.certs.take k, y.digest = x ∧ y.round > r - 8 ∧ x ∈ S
  len : dn.length ≤ k
theorem keptK.zero (d : Dag) (r : Int) (S : List Int) : keptK d r S 0 [] := ⟨List.Pairwise.nil, by simp, Nat.le_refl _⟩
theorem keptK.new {d : Dag} (h : Valid d) {r : Int} {S : List Int} {k : Nat} {dn : List Int} (hk : keptK d r S k dn) {y : Cert} (hy : d.certs[k]? = some y) : y.digest ∉ dn := by
  intro hin
  obtain ⟨z, h1, h2, _⟩ := (hk.mem _).1 hin
  exact (before_take' h hy).2 z h1 h2
theorem keptK.yes {d : Dag} (h : Valid d) {r : Int} {S : List Int} {k : Nat} {dn : List Int} (hk : keptK d r S k dn) {y : Cert} (hy : d.certs[k]? = some y) (h1 : y.round > r - 8) (h2 : y.digest ∈ S) : keptK d r S (k + 1) (insI dn y.digest) := by
  refine ⟨insI_rising hk.rise (hk.new h hy), fun x => ?_, by rw [insI_len]; have := hk.len; omega⟩
  rw [insI_mem, hk.mem, take_snoc' hy]
  constructor
  · rintro (⟨z, k1, k2⟩ | rfl)
    · exact ⟨z, List.mem_append_left _ k1, k2⟩
    · exact ⟨y, List.mem_append_right _ (by simp), rfl, h1, h2⟩
  · rintro ⟨z, k1, k2, k3⟩
    rcases List.mem_append.1 k1 with k1 | k1
    · exact .inl ⟨z, k1, k2, k3⟩
    · simp at k1; rw [k1] at k2; exact .inr k2.symm
theorem keptK.no {d : Dag} {r : Int} {S : List Int} {k : Nat} {dn : List Int} (hk : keptK d r S k dn) {y : Cert} (hy : d.certs[k]? = some y) (h1 : ¬ (y.round > r - 8 ∧ y.digest ∈ S)) : keptK d r S (k + 1) dn := by
  refine ⟨hk.rise, fun x => ?_, by have := hk.len; omega⟩
  rw [hk.mem, take_snoc' hy]
  constructor
  · rintro ⟨z, k1, k2⟩
    exact ⟨z, List.mem_append_left _ k1, k2⟩
  · rintro ⟨z, k1, k2, k3, k4⟩
    rcases List.mem_append.1 k1 with k1 | k1
    · exact ⟨z, k1, k2, k3, k4⟩
    · simp at k1; subst k1; subst k2; exact absurd ⟨k3, k4⟩ h1
theorem keptK.done {d : Dag} (h : Valid d) {r : Int} {S : List Int} {dn : List Int} (hk : keptK d r S d.certs.length dn) (hs : risingI (sortI (keepI d r S))) : dn = sortI (keepI d r S) := by
  refine rising_ext hk.rise hs fun x => ?_
  rw [hk.mem, List.take_length, sortI, List.mem_mergeSort, keepI, List.mem_filter, keepB_eq']
  constructor
  · rintro ⟨y, k1, rfl, k2, k3⟩
    refine ⟨k3, ?_⟩
    rw [certOf_mem h.dig k1]
    simpa using k2
  · rintro ⟨k1, k2⟩
    cases hc : certOf d x with
    | none => rw [hc] at k2; cases k2
    | some c =>
      rw [hc] at k2
      obtain ⟨m1, m2, _⟩ := certOf_some hc
      exact ⟨c, m1, m2, by simpa using k2, k1⟩
theorem copyCursor_ok (c : Cursor) (hc : tiny c.done) : ACalls Tryz.prog 13 [c.av] [] (fun av L => av = c.av ∧ L = []) := by
  refine acalls_go ttOk zOk foOk Tryz.func13 rfl Tryz.ntmps13 rfl false rfl ?_
  conv => whnf
  refine (copyNumbers_ok c.done hc).mono ?_
  rintro _ _ ⟨rfl, rfl⟩
  conv => whnf
  repeat' (first | ((with_reducible apply rd_intro); (focus (intro K hK; (conv => whnf); first | exact hK | (intro z hz; rw [wrapI (by omega)] at hz; subst hz; exact hK))); (conv => whnf)) | ((with_reducible apply gd_and); (focus ((conv => whnf) <;> first | rfl | (intro K hK; (conv => whnf); first | exact hK | (intro z hz; rw [wrapI (by omega)] at hz; subst hz; exact hK)))); (conv => whnf)) | ((with_reducible apply z_wrap); (focus omega); (conv => whnf)) | ((with_reducible first | apply mt_dec | apply mt_eq | apply mt_ne | apply mt_not | apply mt_any) <;> (intro _; conv => whnf)))
  exact ⟨rfl, rfl⟩
noncomputable def stepAV (d : Dag) (c : Cursor) : AV := open Classical in if old d c then .tup [zCurAV, .d (.sl 1 []), .d (.int .i64 6)] else (finW d c).out
def rsSt (d : Dag) (w : Wk) : AF × List AB :=
  ([(2, .ptr 0 0), (4, .ptr 1 0), (7, .ptr 2 0), (8, .arr 3), (9, .d (.int .i64 (nextC d w.c.round)))], [.cells d.cells, zCur, .cells w.c.cells, .row 3 1 (nums w.outs) false])
def rsIn (d : Dag) (l : List Int) : Wk × Nat → AF × List AB
  | (w, j) => ([(2, .ptr 0 0), (4, .ptr 1 0), (7, .ptr 2 0), (8, .arr 3), (10, .d (.sl 1 (nums l))), (11, .d (.int .i64 j))], [.cells d.cells, zCur, .cells w.c.cells, .row 3 1 (nums w.outs) false])
def rsK (d : Dag) (l : List Int) (j : Nat) (outs b done : List Int) (r n : Int) : List Int × Nat → AF × List AB
  | (dn, k) => ([(2, .ptr 0 0), (4, .ptr 1 0), (7, .ptr 2 0), (8, .arr 3), (10, .d (.sl 1 (nums l))), (11, .d (.int .i64 j)), (12, .d (.sl 1 (nums b))), (14, .d (.sl 1 (nums dn))), (15, .d (.int .i64 k))], [.cells d.cells, zCur, .cells [.d (.int .i64 r), .d (.sl 1 (nums done)), .d (.int .i64 n)], .row 3 1 (nums outs) false])
set_option maxHeartbeats 2000000 in
theorem rStep_b (d : Dag) (h : Valid d) (c : Cursor) (hm : curMay c) (h1 : ¬ d.low > 0) : ACalls Tryz.prog 12 [d.av, c.av] [] (fun av L => av = stepAV d c ∧ L = []) := by
  have hw := h.well
  have hlow := h.low
  have hlen := h.len
  have hr := hm.round
  have hcl := certsD_length d.certs
  have hdl := rise_len2 hm.done
  have hno : ¬ old d c := fun h => h1 h.1
  refine acalls_go ttOk zOk foOk Tryz.func12 rfl Tryz.ntmps12 rfl false rfl ?_
  conv => whnf
  repeat' (first | ((with_reducible apply rd_intro); (focus (intro K hK; (conv => whnf); first | exact hK | (intro z hz; rw [wrapI (by omega)] at hz; subst hz; exact hK))); (conv => whnf)) | ((with_reducible apply gd_and); (focus ((conv => whnf) <;> first | rfl | (intro K hK; (conv => whnf); first | exact hK | (intro z hz; rw [wrapI (by omega)] at hz; subst hz; exact hK)))); (conv => whnf)) | ((with_reducible apply z_wrap); (focus omega); (conv => whnf)) | ((with_reducible first | apply mt_dec | apply mt_eq | apply mt_ne | apply mt_not | apply mt_any) <;> (intro _; conv => whnf)))
  · rename_i h3 _; exact absurd h3 h1
  · rename_i h3 _; exact absurd h3 h1
  · refine (copyCursor_ok c (by unfold tiny; omega)).mono ?_
    rintro _ _ ⟨rfl, rfl⟩
    conv => whnf
    repeat' (first | ((with_reducible apply rd_intro); (focus (intro K hK; (conv => whnf); first | exact hK | (intro z hz; rw [wrapI (by omega)] at hz; subst hz; exact hK))); (conv => whnf)) | ((with_reducible apply gd_and); (focus ((conv => whnf) <;> first | rfl | (intro K hK; (conv => whnf); first | exact hK | (intro z hz; rw [wrapI (by omega)] at hz; subst hz; exact hK)))); (conv => whnf)) | ((with_reducible apply z_wrap); (focus omega); (conv => whnf)) | ((with_reducible first | apply mt_dec | apply mt_eq | apply mt_ne | apply mt_not | apply mt_any) <;> (intro _; conv => whnf)))
    refine (rNext_ok d h c.round ⟨hr.1, hr.2.1⟩ hr.2.2).mono ?_
    rintro _ _ ⟨rfl, rfl⟩
    conv => whnf
    repeat' (first | ((with_reducible apply rd_intro); (focus (intro K hK; (conv => whnf); first | exact hK | (intro z hz; rw [wrapI (by omega)] at hz; subst hz; exact hK))); (conv => whnf)) | ((with_reducible apply gd_and); (focus ((conv => whnf) <;> first | rfl | (intro K hK; (conv => whnf); first | exact hK | (intro z hz; rw [wrapI (by omega)] at hz; subst hz; exact hK)))); (conv => whnf)) | ((with_reducible apply z_wrap); (focus omega); (conv => whnf)) | ((with_reducible first | apply mt_dec | apply mt_eq | apply mt_ne | apply mt_not | apply mt_any) <;> (intro _; conv => whnf)))
    refine loop_go ttOk zOk foOk (σ := Wk) (rsSt d) (fun w => goInv d [] (finW d c) false w ∧ (d.low = 0 ∨ d.low ≤ w.c.round - 8)) (fun w => (topR d.certs - w.c.round).toNat) [2, 4, 7, 8, 9] ?_ ?_
    · conv => whnf
      exact ⟨⟨c, []⟩, rfl, rfl, ⟨start_okay hm, hr, (fun h => by cases h), ⟨(topR d.certs).toNat, by show topR d.certs - c.round ≤ ((topR d.certs).toNat : Int); omega, rfl⟩⟩, by show d.low = 0 ∨ d.low ≤ c.round - 8; omega⟩
    · rintro w ⟨hg, hlw⟩
      conv => whnf
      repeat' (first | ((with_reducible apply rd_intro); (focus (intro K hK; (conv => whnf); first | exact hK | (intro z hz; rw [wrapI (by omega)] at hz; subst hz; exact hK))); (conv => whnf)) | ((with_reducible apply gd_and); (focus ((conv => whnf) <;> first | rfl | (intro K hK; (conv => whnf); first | exact hK | (intro z hz; rw [wrapI (by omega)] at hz; subst hz; exact hK)))); (conv => whnf)) | ((with_reducible apply z_wrap); (focus omega); (conv => whnf)) | ((with_reducible first | apply mt_dec | apply mt_eq | apply mt_ne | apply mt_not | apply mt_any) <;> (intro _; conv => whnf)))
      · rename_i hpos
        have hch := hg.chain hw hpos
        have hsp := nextC_spec hw hg.round.1 hg.round.2.2 hpos
        have s1 := hsp.1
        have s2 := hsp.2.1
        have s4 := hsp.2.2.2.1
        have s5 := hsp.2.2.2.2.1
        have s6 := hsp.2.2.2.2.2
        clear hsp
        have htop := hw.top
        refine (rChain_ok d h w.c.round (nextC d w.c.round) hg.round.1 s1 s4 ⟨s6, by omega⟩ s5).mono ?_
        rintro _ _ ⟨rfl, rfl⟩
        refine Exists.elim (⟨_, rfl⟩ : ∃ l, backI d w.c.round (nextC d w.c.round) = l) fun l hl => ?_
        rw [hl] at hch ⊢
        have hll := nums_length l
        have hln := hch.len hw
        conv => whnf
        repeat' (first | ((with_reducible apply rd_intro); (focus (intro K hK; (conv => whnf); first | exact hK | (intro z hz; rw [wrapI (by omega)] at hz; subst hz; exact hK))); (conv => whnf)) | ((with_reducible apply gd_and); (focus ((conv => whnf) <;> first | rfl | (intro K hK; (conv => whnf); first | exact hK | (intro z hz; rw [wrapI (by omega)] at hz; subst hz; exact hK)))); (conv => whnf)) | ((with_reducible apply z_wrap); (focus omega); (conv => whnf)) | ((with_reducible first | apply mt_dec | apply mt_eq | apply mt_ne | apply mt_not | apply mt_any) <;> (intro _; conv => whnf)))
        refine loop_go ttOk zOk foOk (σ := Wk × Nat) (rsIn d l) (fun s => goInI d [] w l false s.1 s.2 ∧ (d.low = 0 ∨ d.low ≤ s.1.c.round - 8)) (fun s => l.length - s.2) [2, 4, 7, 8, 10, 11] ?_ ?_
        · conv => whnf
          exact ⟨(w, 0), rfl, rfl, goInI.start hw hch hg.okay (fun h => by cases h), hlw⟩
        · rintro ⟨v, j⟩ ⟨hi, hlv⟩
          replace hi : goInI d [] w l false v j := hi
          replace hlv : d.low = 0 ∨ d.low ≤ v.c.round - 8 := hlv
          conv => whnf
          repeat' (first | ((with_reducible apply rd_intro); (focus (intro K hK; (conv => whnf); first | exact hK | (intro z hz; rw [wrapI (by omega)] at hz; subst hz; exact hK))); (conv => whnf)) | ((with_reducible apply gd_and); (focus ((conv => whnf) <;> first | rfl | (intro K hK; (conv => whnf); first | exact hK | (intro z hz; rw [wrapI (by omega)] at hz; subst hz; exact hK)))); (conv => whnf)) | ((with_reducible apply z_wrap); (focus omega); (conv => whnf)) | ((with_reducible first | apply mt_dec | apply mt_eq | apply mt_ne | apply mt_not | apply mt_any) <;> (intro _; conv => whnf)))
          · rename_i hjl
            refine Exists.elim (hch.at hw (show j < l.length by omega)) fun x hx => Exists.elim hx fun i hx => Exists.elim hx fun y hx => ?_
            have hx1 := hx.1
            have hx2 := hx.2.1
            have hy := hx.2.2.1
            have hxr := hx.2.2.2
            clear hx
            have hyd : y.digest = x := (getC_some hx2).elim fun z hz => by
              have := hz.1; rw [hy] at this; cases this; exact hz.2
            subst hyd
            have hlt : v.c.round < y.round := by rw [← hxr]; exact hi.next _ (by rw [List.mem_iff_getElem?]; exact ⟨0, by rw [List.getElem?_drop]; simpa using hx1⟩)
            have hnx := goInI.step hw hch hi (by omega) hx1 hx2 hy hxr
            have hfn := hi.okay.fine
            have ho1 := hi.okay.outs' hw
            have ho2 := hnx.okay.outs' hw
            have hyr := (h.certs y (List.mem_of_getElem? hy)).head.round
            have hil : i < d.certs.length := (List.getElem?_eq_some_iff.1 hy).1
            have hrise : risingI (v.put d i y).c.done := hnx.okay.fine.rising
            have hor := rOrder_ok d h hy v.c.done (by have := hfn.few; unfold few; omega) (by omega)
            have hfi := rFind_ok d h.few' y.digest
            rw [geti_at h hy] at hfi
            replace ho2 : (v.outs ++ behindI d i y.round v.c.done).length ≤ 4294967296 := ho2
            have hput : v.put d i y = ⟨⟨y.round, sortI (keepI d y.round (v.c.done ++ behindI d i y.round v.c.done)), min (v.c.count + (behindI d i y.round v.c.done).length) 1099511627776⟩, v.outs ++ behindI d i y.round v.c.done⟩ := rfl
            rw [hput] at hnx hrise
            clear hput
            refine Exists.elim (⟨_, rfl⟩ : ∃ b, behindI d i y.round v.c.done = b) fun b hb => ?_
            rw [hb] at hor ho2 hnx hrise
            have hbl := nums_length b
            have hoa := nums_length v.outs
            rw [List.length_append] at ho2
            have hcnt := hfn.count
            ((with_reducible refine draw_pl ttOk zOk foOk mixedOk pl12x12 ?_ ?_); (focus kernel_rfl); (conv => whnf))
            repeat' (first | ((with_reducible apply rd_intro); (focus (intro K hK; (conv => whnf); first | exact hK | (intro z hz; rw [wrapI (by omega)] at hz; subst hz; exact hK))); (conv => whnf)) | ((with_reducible apply gd_and); (focus ((conv => whnf) <;> first | rfl | (intro K hK; (conv => whnf); first | exact hK | (intro z hz; rw [wrapI (by omega)] at hz; subst hz; exact hK)))); (conv => whnf)) | ((with_reducible apply z_wrap); (focus omega); (conv => whnf)) | ((with_reducible first | apply mt_dec | apply mt_eq | apply mt_ne | apply mt_not | apply mt_any) <;> (intro _; conv => whnf)))
            ((with_reducible apply rd_intro); (focus (intro K hK; (conv => whnf); exact ⟨by omega, [.int .i64 y.digest], nums_at hx1, hK⟩)); (conv => whnf))
            repeat' (first | ((with_reducible apply rd_intro); (focus (intro K hK; (conv => whnf); first | exact hK | (intro z hz; rw [wrapI (by omega)] at hz; subst hz; exact hK))); (conv => whnf)) | ((with_reducible apply gd_and); (focus ((conv => whnf) <;> first | rfl | (intro K hK; (conv => whnf); first | exact hK | (intro z hz; rw [wrapI (by omega)] at hz; subst hz; exact hK)))); (conv => whnf)) | ((with_reducible apply z_wrap); (focus omega); (conv => whnf)) | ((with_reducible first | apply mt_dec | apply mt_eq | apply mt_ne | apply mt_not | apply mt_any) <;> (intro _; conv => whnf)))
            refine hor.mono ?_
            rintro _ _ ⟨rfl, rfl⟩
            conv => whnf
            repeat' (first | ((with_reducible apply rd_intro); (focus (intro K hK; (conv => whnf); first | exact hK | (intro z hz; rw [wrapI (by omega)] at hz; subst hz; exact hK))); (conv => whnf)) | ((with_reducible apply gd_and); (focus ((conv => whnf) <;> first | rfl | (intro K hK; (conv => whnf); first | exact hK | (intro z hz; rw [wrapI (by omega)] at hz; subst hz; exact hK)))); (conv => whnf)) | ((with_reducible apply z_wrap); (focus omega); (conv => whnf)) | ((with_reducible first | apply mt_dec | apply mt_eq | apply mt_ne | apply mt_not | apply mt_any) <;> (intro _; conv => whnf)))
            refine ⟨by rw [hoa, hbl]; show (_ + _) * 8 ≤ _; omega, ?_⟩
            conv => whnf
            repeat' (first | ((with_reducible apply rd_intro); (focus (intro K hK; (conv => whnf); first | exact hK | (intro z hz; rw [wrapI (by omega)] at hz; subst hz; exact hK))); (conv => whnf)) | ((with_reducible apply gd_and); (focus ((conv => whnf) <;> first | rfl | (intro K hK; (conv => whnf); first | exact hK | (intro z hz; rw [wrapI (by omega)] at hz; subst hz; exact hK)))); (conv => whnf)) | ((with_reducible apply z_wrap); (focus omega); (conv => whnf)) | ((with_reducible first | apply mt_dec | apply mt_eq | apply mt_ne | apply mt_not | apply mt_any) <;> (intro _; conv => whnf)))
            ((with_reducible refine draw_pl ttOk zOk foOk mixedOk pl12x14 ?_ ?_); (focus kernel_rfl); (conv => whnf))
            repeat' (first | ((with_reducible apply rd_intro); (focus (intro K hK; (conv => whnf); first | exact hK | (intro z hz; rw [wrapI (by omega)] at hz; subst hz; exact hK))); (conv => whnf)) | ((with_reducible apply gd_and); (focus ((conv => whnf) <;> first | rfl | (intro K hK; (conv => whnf); first | exact hK | (intro z hz; rw [wrapI (by omega)] at hz; subst hz; exact hK)))); (conv => whnf)) | ((with_reducible apply z_wrap); (focus omega); (conv => whnf)) | ((with_reducible first | apply mt_dec | apply mt_eq | apply mt_ne | apply mt_not | apply mt_any) <;> (intro _; conv => whnf)))
            ((with_reducible apply rd_intro); (focus (intro K hK; (conv => whnf); exact ⟨by omega, [.int .i64 y.digest], nums_at hx1, hK⟩)); (conv => whnf))
            repeat' (first | ((with_reducible apply rd_intro); (focus (intro K hK; (conv => whnf); first | exact hK | (intro z hz; rw [wrapI (by omega)] at hz; subst hz; exact hK))); (conv => whnf)) | ((with_reducible apply gd_and); (focus ((conv => whnf) <;> first | rfl | (intro K hK; (conv => whnf); first | exact hK | (intro z hz; rw [wrapI (by omega)] at hz; subst hz; exact hK)))); (conv => whnf)) | ((with_reducible apply z_wrap); (focus omega); (conv => whnf)) | ((with_reducible first | apply mt_dec | apply mt_eq | apply mt_ne | apply mt_not | apply mt_any) <;> (intro _; conv => whnf)))
            refine hfi.mono ?_
            rintro _ _ ⟨rfl, rfl⟩
            conv => whnf
            repeat' (first | ((with_reducible apply rd_intro); (focus (intro K hK; (conv => whnf); first | exact hK | (intro z hz; rw [wrapI (by omega)] at hz; subst hz; exact hK))); (conv => whnf)) | ((with_reducible apply gd_and); (focus ((conv => whnf) <;> first | rfl | (intro K hK; (conv => whnf); first | exact hK | (intro z hz; rw [wrapI (by omega)] at hz; subst hz; exact hK)))); (conv => whnf)) | ((with_reducible apply z_wrap); (focus omega); (conv => whnf)) | ((with_reducible first | apply mt_dec | apply mt_eq | apply mt_ne | apply mt_not | apply mt_any) <;> (intro _; conv => whnf)))
            ((with_reducible apply rd_intro); (focus (intro K hK; (conv => whnf); exact ⟨by omega, y.cs, certsD_at hy, hK⟩)); (conv => whnf))
            repeat' (first | ((with_reducible apply rd_intro); (focus (intro K hK; (conv => whnf); first | exact hK | (intro z hz; rw [wrapI (by omega)] at hz; subst hz; exact hK))); (conv => whnf)) | ((with_reducible apply gd_and); (focus ((conv => whnf) <;> first | rfl | (intro K hK; (conv => whnf); first | exact hK | (intro z hz; rw [wrapI (by omega)] at hz; subst hz; exact hK)))); (conv => whnf)) | ((with_reducible apply z_wrap); (focus omega); (conv => whnf)) | ((with_reducible first | apply mt_dec | apply mt_eq | apply mt_ne | apply mt_not | apply mt_any) <;> (intro _; conv => whnf)))
            refine aw_seal 14 ?_
            conv => whnf
            refine loop_go ttOk zOk foOk (σ := List Int × Nat) (rsK d l j (v.outs ++ b) b v.c.done y.round (min (v.c.count + ((nums b).length : Int)) 1099511627776)) (fun s => s.2 ≤ d.certs.length ∧ keptK d y.round (v.c.done ++ b) s.2 s.1) (fun s => d.certs.length - s.2) [2, 4, 7, 8, 10, 11, 12, 14, 15] ?_ ?_
            · conv => whnf
              exact ⟨([], 0), rfl, by simp only [rsK, ← nums_apps]; rfl, Nat.zero_le _, keptK.zero d _ _⟩
            · rintro ⟨dn, k⟩ ⟨hk, hkk⟩
              replace hk : k ≤ d.certs.length := hk
              replace hkk : keptK d y.round (v.c.done ++ b) k dn := hkk
              conv => whnf
              repeat' (first | ((with_reducible apply rd_intro); (focus (intro K hK; (conv => whnf); first | exact hK | (intro z hz; rw [wrapI (by omega)] at hz; subst hz; exact hK))); (conv => whnf)) | ((with_reducible apply gd_and); (focus ((conv => whnf) <;> first | rfl | (intro K hK; (conv => whnf); first | exact hK | (intro z hz; rw [wrapI (by omega)] at hz; subst hz; exact hK)))); (conv => whnf)) | ((with_reducible apply z_wrap); (focus omega); (conv => whnf)) | ((with_reducible first | apply mt_dec | apply mt_eq | apply mt_ne | apply mt_not | apply mt_any) <;> (intro _; conv => whnf)))
              · rename_i hkl
                refine Exists.elim (⟨_, List.getElem?_eq_getElem (by omega)⟩ : ∃ z, d.certs[k]? = some z) fun z hz => ?_
                have hzr := (h.certs z (List.mem_of_getElem? hz)).head.round
                have hdn := hkk.len
                have hwi := with_ok dn (by unfold tiny; omega) hkk.rise z.digest (hkk.new h hz)
                have hi1 := in_ok v.c.done (by have := hfn.few; unfold few; omega) z.digest
                have hi2 := in_ok b (by unfold few; omega) z.digest
                refine ⟨by omega, z.cs, certsD_at hz, ?_⟩
                conv => whnf
                ((with_reducible refine draw_pl ttOk zOk foOk mixedOk pl12x21 ?_ ?_); (focus kernel_rfl); (conv => whnf))
                repeat' (first | ((with_reducible apply rd_intro); (focus (intro K hK; (conv => whnf); first | exact hK | (intro z hz; rw [wrapI (by omega)] at hz; subst hz; exact hK))); (conv => whnf)) | ((with_reducible apply gd_and); (focus ((conv => whnf) <;> first | rfl | (intro K hK; (conv => whnf); first | exact hK | (intro z hz; rw [wrapI (by omega)] at hz; subst hz; exact hK)))); (conv => whnf)) | ((with_reducible apply z_wrap); (focus omega); (conv => whnf)) | ((with_reducible first | apply mt_dec | apply mt_eq | apply mt_ne | apply mt_not | apply mt_any) <;> (intro _; conv => whnf)))
                ((with_reducible apply rd_intro); (focus (intro K hK; (conv => whnf); exact ⟨by omega, z.cs, certsD_at hz, hK⟩)); (conv => whnf))
                repeat' (first | ((with_reducible apply rd_intro); (focus (intro K hK; (conv => whnf); first | exact hK | (intro z hz; rw [wrapI (by omega)] at hz; subst hz; exact hK))); (conv => whnf)) | ((with_reducible apply gd_and); (focus ((conv => whnf) <;> first | rfl | (intro K hK; (conv => whnf); first | exact hK | (intro z hz; rw [wrapI (by omega)] at hz; subst hz; exact hK)))); (conv => whnf)) | ((with_reducible apply z_wrap); (focus omega); (conv => whnf)) | ((with_reducible first | apply mt_dec | apply mt_eq | apply mt_ne | apply mt_not | apply mt_any) <;> (intro _; conv => whnf)))
                · refine hi1.mono ?_
                  rintro _ _ ⟨rfl, rfl⟩
                  conv => whnf
                  repeat' (first | ((with_reducible apply rd_intro); (focus (intro K hK; (conv => whnf); first | exact hK | (intro z hz; rw [wrapI (by omega)] at hz; subst hz; exact hK))); (conv => whnf)) | ((with_reducible apply gd_and); (focus ((conv => whnf) <;> first | rfl | (intro K hK; (conv => whnf); first | exact hK | (intro z hz; rw [wrapI (by omega)] at hz; subst hz; exact hK)))); (conv => whnf)) | ((with_reducible apply z_wrap); (focus omega); (conv => whnf)) | ((with_reducible first | apply mt_dec | apply mt_eq | apply mt_ne | apply mt_not | apply mt_any) <;> (intro _; conv => whnf)))
                  · rename_i hzl hin
                    refine hwi.mono ?_
                    rintro _ _ ⟨rfl, rfl⟩
                    conv => whnf
                    repeat' (first | ((with_reducible apply rd_intro); (focus (intro K hK; (conv => whnf); first | exact hK | (intro z hz; rw [wrapI (by omega)] at hz; subst hz; exact hK))); (conv => whnf)) | ((with_reducible apply gd_and); (focus ((conv => whnf) <;> first | rfl | (intro K hK; (conv => whnf); first | exact hK | (intro z hz; rw [wrapI (by omega)] at hz; subst hz; exact hK)))); (conv => whnf)) | ((with_reducible apply z_wrap); (focus omega); (conv => whnf)) | ((with_reducible first | apply mt_dec | apply mt_eq | apply mt_ne | apply mt_not | apply mt_any) <;> (intro _; conv => whnf)))
                    exact ⟨(insI dn z.digest, k + 1), rfl, rfl, ⟨by show k + 1 ≤ _; omega, hkk.yes h hz hzl (List.mem_append_left _ (inI_iff.1 hin))⟩, by show _ - (k + 1) < _ - k; omega⟩
                  · rename_i hzl hin
                    refine hi2.mono ?_
                    rintro _ _ ⟨rfl, rfl⟩
                    conv => whnf
                    repeat' (first | ((with_reducible apply rd_intro); (focus (intro K hK; (conv => whnf); first | exact hK | (intro z hz; rw [wrapI (by omega)] at hz; subst hz; exact hK))); (conv => whnf)) | ((with_reducible apply gd_and); (focus ((conv => whnf) <;> first | rfl | (intro K hK; (conv => whnf); first | exact hK | (intro z hz; rw [wrapI (by omega)] at hz; subst hz; exact hK)))); (conv => whnf)) | ((with_reducible apply z_wrap); (focus omega); (conv => whnf)) | ((with_reducible first | apply mt_dec | apply mt_eq | apply mt_ne | apply mt_not | apply mt_any) <;> (intro _; conv => whnf)))
                    · rename_i hin2
                      refine hwi.mono ?_
                      rintro _ _ ⟨rfl, rfl⟩
                      conv => whnf
                      repeat' (first | ((with_reducible apply rd_intro); (focus (intro K hK; (conv => whnf); first | exact hK | (intro z hz; rw [wrapI (by omega)] at hz; subst hz; exact hK))); (conv => whnf)) | ((with_reducible apply gd_and); (focus ((conv => whnf) <;> first | rfl | (intro K hK; (conv => whnf); first | exact hK | (intro z hz; rw [wrapI (by omega)] at hz; subst hz; exact hK)))); (conv => whnf)) | ((with_reducible apply z_wrap); (focus omega); (conv => whnf)) | ((with_reducible first | apply mt_dec | apply mt_eq | apply mt_ne | apply mt_not | apply mt_any) <;> (intro _; conv => whnf)))
                      exact ⟨(insI dn z.digest, k + 1), rfl, rfl, ⟨by show k + 1 ≤ _; omega, hkk.yes h hz hzl (List.mem_append_right _ (inI_iff.1 hin2))⟩, by show _ - (k + 1) < _ - k; omega⟩
                    · rename_i hin2
                      refine ⟨(dn, k + 1), rfl, rfl, ⟨by show k + 1 ≤ _; omega, hkk.no hz fun hq => ?_⟩, by show _ - (k + 1) < _ - k; omega⟩
                      rcases List.mem_append.1 hq.2 with hq | hq
                      · exact hin (inI_iff.2 hq)
                      · exact hin2 (inI_iff.2 hq)
                · rename_i hzl
                  exact ⟨(dn, k + 1), rfl, rfl, ⟨by show k + 1 ≤ _; omega, hkk.no hz fun hq => hzl hq.1⟩, by show _ - (k + 1) < _ - k; omega⟩
              · rename_i hkl
                have hke : k = d.certs.length := by omega
                rw [hke] at hkk
                have hde := hkk.done h hrise
                refine ⟨(⟨⟨y.round, sortI (keepI d y.round (v.c.done ++ b)), min (v.c.count + b.length) 1099511627776⟩, v.outs ++ b⟩, j + 1), rfl, ?_, ⟨hnx, by show d.low = 0 ∨ d.low ≤ y.round - 8; omega⟩, by show _ - (j + 1) < _ - j; omega⟩
                simp only [rsIn, Cursor.cells, Cursor.cs, ← hde, ← hbl]
                rfl
          · rename_i hjl
            have hk := hi.done hw hch hpos hg.round.1 hg.round.2.2 (by omega) hl hg.fin
            have k1 := hk.1
            have k2 := hk.2
            clear hk
            refine (rNext_ok d h v.c.round ⟨k1.round.1, k1.round.2.1⟩ k1.round.2.2).mono ?_
            rintro _ _ ⟨rfl, rfl⟩
            conv => whnf
            repeat' (first | ((with_reducible apply rd_intro); (focus (intro K hK; (conv => whnf); first | exact hK | (intro z hz; rw [wrapI (by omega)] at hz; subst hz; exact hK))); (conv => whnf)) | ((with_reducible apply gd_and); (focus ((conv => whnf) <;> first | rfl | (intro K hK; (conv => whnf); first | exact hK | (intro z hz; rw [wrapI (by omega)] at hz; subst hz; exact hK)))); (conv => whnf)) | ((with_reducible apply z_wrap); (focus omega); (conv => whnf)) | ((with_reducible first | apply mt_dec | apply mt_eq | apply mt_ne | apply mt_not | apply mt_any) <;> (intro _; conv => whnf)))
            exact ⟨v, rfl, rfl, ⟨k1, hlv⟩, k2⟩
      · rename_i hpos
        have hfe : finW d c = w := Exists.elim hg.fin fun n hn => hn.2.trans (goF_end hpos n)
        refine ⟨?_, rfl⟩
        rw [stepAV, if_neg (fun ho => hno ho), hfe]
        rfl
set_option maxHeartbeats 2000000 in
theorem rStep_a (d : Dag) (h : Valid d) (c : Cursor) (hm : curMay c) (h1 : d.low > 0) (h2 : ¬ d.low > c.round - 8) : ACalls Tryz.prog 12 [d.av, c.av] [] (fun av L => av = stepAV d c ∧ L = []) := by
  have hw := h.well
  have hlow := h.low
  have hlen := h.len
  have hr := hm.round
  have hcl := certsD_length d.certs
  have hdl := rise_len2 hm.done
  have hno : ¬ old d c := fun h => h2 h.2
  refine acalls_go ttOk zOk foOk Tryz.func12 rfl Tryz.ntmps12 rfl false rfl ?_
  conv => whnf
  repeat' (first | ((with_reducible apply rd_intro); (focus (intro K hK; (conv => whnf); first | exact hK | (intro z hz; rw [wrapI (by omega)] at hz; subst hz; exact hK))); (conv => whnf)) | ((with_reducible apply gd_and); (focus ((conv => whnf) <;> first | rfl | (intro K hK; (conv => whnf); first | exact hK | (intro z hz; rw [wrapI (by omega)] at hz; subst hz; exact hK)))); (conv => whnf)) | ((with_reducible apply z_wrap); (focus omega); (conv => whnf)) | ((with_reducible first | apply mt_dec | apply mt_eq | apply mt_ne | apply mt_not | apply mt_any) <;> (intro _; conv => whnf)))
  · rename_i h3; exact absurd h3 h2
  · refine (copyCursor_ok c (by unfold tiny; omega)).mono ?_
    rintro _ _ ⟨rfl, rfl⟩
    conv => whnf
    repeat' (first | ((with_reducible apply rd_intro); (focus (intro K hK; (conv => whnf); first | exact hK | (intro z hz; rw [wrapI (by omega)] at hz; subst hz; exact hK))); (conv => whnf)) | ((with_reducible apply gd_and); (focus ((conv => whnf) <;> first | rfl | (intro K hK; (conv => whnf); first | exact hK | (intro z hz; rw [wrapI (by omega)] at hz; subst hz; exact hK)))); (conv => whnf)) | ((with_reducible apply z_wrap); (focus omega); (conv => whnf)) | ((with_reducible first | apply mt_dec | apply mt_eq | apply mt_ne | apply mt_not | apply mt_any) <;> (intro _; conv => whnf)))
    refine (rNext_ok d h c.round ⟨hr.1, hr.2.1⟩ hr.2.2).mono ?_
    rintro _ _ ⟨rfl, rfl⟩
    conv => whnf
    repeat' (first | ((with_reducible apply rd_intro); (focus (intro K hK; (conv => whnf); first | exact hK | (intro z hz; rw [wrapI (by omega)] at hz; subst hz; exact hK))); (conv => whnf)) | ((with_reducible apply gd_and); (focus ((conv => whnf) <;> first | rfl | (intro K hK; (conv => whnf); first | exact hK | (intro z hz; rw [wrapI (by omega)] at hz; subst hz; exact hK)))); (conv => whnf)) | ((with_reducible apply z_wrap); (focus omega); (conv => whnf)) | ((with_reducible first | apply mt_dec | apply mt_eq | apply mt_ne | apply mt_not | apply mt_any) <;> (intro _; conv => whnf)))
    refine loop_go ttOk zOk foOk (σ := Wk) (rsSt d) (fun w => goInv d [] (finW d c) false w ∧ (d.low = 0 ∨ d.low ≤ w.c.round - 8)) (fun w => (topR d.certs - w.c.round).toNat) [2, 4, 7, 8, 9] ?_ ?_
    · conv => whnf
      exact ⟨⟨c, []⟩, rfl, rfl, ⟨start_okay hm, hr, (fun h => by cases h), ⟨(topR d.certs).toNat, by show topR d.certs - c.round ≤ ((topR d.certs).toNat : Int); omega, rfl⟩⟩, by show d.low = 0 ∨ d.low ≤ c.round - 8; omega⟩
    · rintro w ⟨hg, hlw⟩
      conv => whnf
      repeat' (first | ((with_reducible apply rd_intro); (focus (intro K hK; (conv => whnf); first | exact hK | (intro z hz; rw [wrapI (by omega)] at hz; subst hz; exact hK))); (conv => whnf)) | ((with_reducible apply gd_and); (focus ((conv => whnf) <;> first | rfl | (intro K hK; (conv => whnf); first | exact hK | (intro z hz; rw [wrapI (by omega)] at hz; subst hz; exact hK)))); (conv => whnf)) | ((with_reducible apply z_wrap); (focus omega); (conv => whnf)) | ((with_reducible first | apply mt_dec | apply mt_eq | apply mt_ne | apply mt_not | apply mt_any) <;> (intro _; conv => whnf)))
      · rename_i hpos
        have hch := hg.chain hw hpos
        have hsp := nextC_spec hw hg.round.1 hg.round.2.2 hpos
        have s1 := hsp.1
        have s2 := hsp.2.1
        have s4 := hsp.2.2.2.1
        have s5 := hsp.2.2.2.2.1
        have s6 := hsp.2.2.2.2.2
        clear hsp
        have htop := hw.top
        refine (rChain_ok d h w.c.round (nextC d w.c.round) hg.round.1 s1 s4 ⟨s6, by omega⟩ s5).mono ?_
        rintro _ _ ⟨rfl, rfl⟩
        refine Exists.elim (⟨_, rfl⟩ : ∃ l, backI d w.c.round (nextC d w.c.round) = l) fun l hl => ?_
        rw [hl] at hch ⊢
        have hll := nums_length l
        have hln := hch.len hw
        conv => whnf
        repeat' (first | ((with_reducible apply rd_intro); (focus (intro K hK; (conv => whnf); first | exact hK | (intro z hz; rw [wrapI (by omega)] at hz; subst hz; exact hK))); (conv => whnf)) | ((with_reducible apply gd_and); (focus ((conv => whnf) <;> first | rfl | (intro K hK; (conv => whnf); first | exact hK | (intro z hz; rw [wrapI (by omega)] at hz; subst hz; exact hK)))); (conv => whnf)) | ((with_reducible apply z_wrap); (focus omega); (conv => whnf)) | ((with_reducible first | apply mt_dec | apply mt_eq | apply mt_ne | apply mt_not | apply mt_any) <;> (intro _; conv => whnf)))
        refine loop_go ttOk zOk foOk (σ := Wk × Nat) (rsIn d l) (fun s => goInI d [] w l false s.1 s.2 ∧ (d.low = 0 ∨ d.low ≤ s.1.c.round - 8)) (fun s => l.length - s.2) [2, 4, 7, 8, 10, 11] ?_ ?_
        · conv => whnf
          exact ⟨(w, 0), rfl, rfl, goInI.start hw hch hg.okay (fun h => by cases h), hlw⟩
        · rintro ⟨v, j⟩ ⟨hi, hlv⟩
          replace hi : goInI d [] w l false v j := hi
          replace hlv : d.low = 0 ∨ d.low ≤ v.c.round - 8 := hlv
          conv => whnf
          repeat' (first | ((with_reducible apply rd_intro); (focus (intro K hK; (conv => whnf); first | exact hK | (intro z hz; rw [wrapI (by omega)] at hz; subst hz; exact hK))); (conv => whnf)) | ((with_reducible apply gd_and); (focus ((conv => whnf) <;> first | rfl | (intro K hK; (conv => whnf); first | exact hK | (intro z hz; rw [wrapI (by omega)] at hz; subst hz; exact hK)))); (conv => whnf)) | ((with_reducible apply z_wrap); (focus omega); (conv => whnf)) | ((with_reducible first | apply mt_dec | apply mt_eq | apply mt_ne | apply mt_not | apply mt_any) <;> (intro _; conv => whnf)))
          · rename_i hjl
            refine Exists.elim (hch.at hw (show j < l.length by omega)) fun x hx => Exists.elim hx fun i hx => Exists.elim hx fun y hx => ?_
            have hx1 := hx.1
            have hx2 := hx.2.1
            have hy := hx.2.2.1
            have hxr := hx.2.2.2
            clear hx
            have hyd : y.digest = x := (getC_some hx2).elim fun z hz => by
              have := hz.1; rw [hy] at this; cases this; exact hz.2
            subst hyd
            have hlt : v.c.round < y.round := by rw [← hxr]; exact hi.next _ (by rw [List.mem_iff_getElem?]; exact ⟨0, by rw [List.getElem?_drop]; simpa using hx1⟩)
            have hnx := goInI.step hw hch hi (by omega) hx1 hx2 hy hxr
            have hfn := hi.okay.fine
            have ho1 := hi.okay.outs' hw
            have ho2 := hnx.okay.outs' hw
            have hyr := (h.certs y (List.mem_of_getElem? hy)).head.round
            have hil : i < d.certs.length := (List.getElem?_eq_some_iff.1 hy).1
            have hrise : risingI (v.put d i y).c.done := hnx.okay.fine.rising
            have hor := rOrder_ok d h hy v.c.done (by have := hfn.few; unfold few; omega) (by omega)
            have hfi := rFind_ok d h.few' y.digest
            rw [geti_at h hy] at hfi
            replace ho2 : (v.outs ++ behindI d i y.round v.c.done).length ≤ 4294967296 := ho2
            have hput : v.put d i y = ⟨⟨y.round, sortI (keepI d y.round (v.c.done ++ behindI d i y.round v.c.done)), min (v.c.count + (behindI d i y.round v.c.done).length) 1099511627776⟩, v.outs ++ behindI d i y.round v.c.done⟩ := rfl
            rw [hput] at hnx hrise
            clear hput
            refine Exists.elim (⟨_, rfl⟩ : ∃ b, behindI d i y.round v.c.done = b) fun b hb => ?_
            rw [hb] at hor ho2 hnx hrise
            have hbl := nums_length b
            have hoa := nums_length v.outs
            rw [List.length_append] at ho2
            have hcnt := hfn.count
            ((with_reducible refine draw_pl ttOk zOk foOk mixedOk pl12x12 ?_ ?_); (focus kernel_rfl); (conv => whnf))
            repeat' (first | ((with_reducible apply rd_intro); (focus (intro K hK; (conv => whnf); first | exact hK | (intro z hz; rw [wrapI (by omega)] at hz; subst hz; exact hK))); (conv => whnf)) | ((with_reducible apply gd_and); (focus ((conv => whnf) <;> first | rfl | (intro K hK; (conv => whnf); first | exact hK | (intro z hz; rw [wrapI (by omega)] at hz; subst hz; exact hK)))); (conv => whnf)) | ((with_reducible apply z_wrap); (focus omega); (conv => whnf)) | ((with_reducible first | apply mt_dec | apply mt_eq | apply mt_ne | apply mt_not | apply mt_any) <;> (intro _; conv => whnf)))
            ((with_reducible apply rd_intro); (focus (intro K hK; (conv => whnf); exact ⟨by omega, [.int .i64 y.digest], nums_at hx1, hK⟩)); (conv => whnf))
            repeat' (first | ((with_reducible apply rd_intro); (focus (intro K hK; (conv => whnf); first | exact hK | (intro z hz; rw [wrapI (by omega)] at hz; subst hz; exact hK))); (conv => whnf)) | ((with_reducible apply gd_and); (focus ((conv => whnf) <;> first | rfl | (intro K hK; (conv => whnf); first | exact hK | (intro z hz; rw [wrapI (by omega)] at hz; subst hz; exact hK)))); (conv => whnf)) | ((with_reducible apply z_wrap); (focus omega); (conv => whnf)) | ((with_reducible first | apply mt_dec | apply mt_eq | apply mt_ne | apply mt_not | apply mt_any) <;> (intro _; conv => whnf)))
            refine hor.mono ?_
            rintro _ _ ⟨rfl, rfl⟩
            conv => whnf
            repeat' (first | ((with_reducible apply rd_intro); (focus (intro K hK; (conv => whnf); first | exact hK | (intro z hz; rw [wrapI (by omega)] at hz; subst hz; exact hK))); (conv => whnf)) | ((with_reducible apply gd_and); (focus ((conv => whnf) <;> first | rfl | (intro K hK; (conv => whnf); first | exact hK | (intro z hz; rw [wrapI (by omega)] at hz; subst hz; exact hK)))); (conv => whnf)) | ((with_reducible apply z_wrap); (focus omega); (conv => whnf)) | ((with_reducible first | apply mt_dec | apply mt_eq | apply mt_ne | apply mt_not | apply mt_any) <;> (intro _; conv => whnf)))
            refine ⟨by rw [hoa, hbl]; show (_ + _) * 8 ≤ _; omega, ?_⟩
            conv => whnf
            repeat' (first | ((with_reducible apply rd_intro); (focus (intro K hK; (conv => whnf); first | exact hK | (intro z hz; rw [wrapI (by omega)] at hz; subst hz; exact hK))); (conv => whnf)) | ((with_reducible apply gd_and); (focus ((conv => whnf) <;> first | rfl | (intro K hK; (conv => whnf); first | exact hK | (intro z hz; rw [wrapI (by omega)] at hz; subst hz; exact hK)))); (conv => whnf)) | ((with_reducible apply z_wrap); (focus omega); (conv => whnf)) | ((with_reducible first | apply mt_dec | apply mt_eq | apply mt_ne | apply mt_not | apply mt_any) <;> (intro _; conv => whnf)))
            ((with_reducible refine draw_pl ttOk zOk foOk mixedOk pl12x14 ?_ ?_); (focus kernel_rfl); (conv => whnf))
            repeat' (first | ((with_reducible apply rd_intro); (focus (intro K hK; (conv => whnf); first | exact hK | (intro z hz; rw [wrapI (by omega)] at hz; subst hz; exact hK))); (conv => whnf)) | ((with_reducible apply gd_and); (focus ((conv => whnf) <;> first | rfl | (intro K hK; (conv => whnf); first | exact hK | (intro z hz; rw [wrapI (by omega)] at hz; subst hz; exact hK)))); (conv => whnf)) | ((with_reducible apply z_wrap); (focus omega); (conv => whnf)) | ((with_reducible first | apply mt_dec | apply mt_eq | apply mt_ne | apply mt_not | apply mt_any) <;> (intro _; conv => whnf)))
            ((with_reducible apply rd_intro); (focus (intro K hK; (conv => whnf); exact ⟨by omega, [.int .i64 y.digest], nums_at hx1, hK⟩)); (conv => whnf))
            repeat' (first | ((with_reducible apply rd_intro); (focus (intro K hK; (conv => whnf); first | exact hK | (intro z hz; rw [wrapI (by omega)] at hz; subst hz; exact hK))); (conv => whnf)) | ((with_reducible apply gd_and); (focus ((conv => whnf) <;> first | rfl | (intro K hK; (conv => whnf); first | exact hK | (intro z hz; rw [wrapI (by omega)] at hz; subst hz; exact hK)))); (conv => whnf)) | ((with_reducible apply z_wrap); (focus omega); (conv => whnf)) | ((with_reducible first | apply mt_dec | apply mt_eq | apply mt_ne | apply mt_not | apply mt_any) <;> (intro _; conv => whnf)))
            refine hfi.mono ?_
            rintro _ _ ⟨rfl, rfl⟩
            conv => whnf
            repeat' (first | ((with_reducible apply rd_intro); (focus (intro K hK; (conv => whnf); first | exact hK | (intro z hz; rw [wrapI (by omega)] at hz; subst hz; exact hK))); (conv => whnf)) | ((with_reducible apply gd_and); (focus ((conv => whnf) <;> first | rfl | (intro K hK; (conv => whnf); first | exact hK | (intro z hz; rw [wrapI (by omega)] at hz; subst hz; exact hK)))); (conv => whnf)) | ((with_reducible apply z_wrap); (focus omega); (conv => whnf)) | ((with_reducible first | apply mt_dec | apply mt_eq | apply mt_ne | apply mt_not | apply mt_any) <;> (intro _; conv => whnf)))
            ((with_reducible apply rd_intro); (focus (intro K hK; (conv => whnf); exact ⟨by omega, y.cs, certsD_at hy, hK⟩)); (conv => whnf))
            repeat' (first | ((with_reducible apply rd_intro); (focus (intro K hK; (conv => whnf); first | exact hK | (intro z hz; rw [wrapI (by omega)] at hz; subst hz; exact hK))); (conv => whnf)) | ((with_reducible apply gd_and); (focus ((conv => whnf) <;> first | rfl | (intro K hK; (conv => whnf); first | exact hK | (intro z hz; rw [wrapI (by omega)] at hz; subst hz; exact hK)))); (conv => whnf)) | ((with_reducible apply z_wrap); (focus omega); (conv => whnf)) | ((with_reducible first | apply mt_dec | apply mt_eq | apply mt_ne | apply mt_not | apply mt_any) <;> (intro _; conv => whnf)))
            refine aw_seal 14 ?_
            conv => whnf
            refine loop_go ttOk zOk foOk (σ := List Int × Nat) (rsK d l j (v.outs ++ b) b v.c.done y.round (min (v.c.count + ((nums b).length : Int)) 1099511627776)) (fun s => s.2 ≤ d.certs.length ∧ keptK d y.round (v.c.done ++ b) s.2 s.1) (fun s => d.certs.length - s.2) [2, 4, 7, 8, 10, 11, 12, 14, 15] ?_ ?_
            · conv => whnf
              exact ⟨([], 0), rfl, by simp only [rsK, ← nums_apps]; rfl, Nat.zero_le _, keptK.zero d _ _⟩
            · rintro ⟨dn, k⟩ ⟨hk, hkk⟩
              replace hk : k ≤ d.certs.length := hk
              replace hkk : keptK d y.round (v.c.done ++ b) k dn := hkk
              conv => whnf
              repeat' (first | ((with_reducible apply rd_intro); (focus (intro K hK; (conv => whnf); first | exact hK | (intro z hz; rw [wrapI (by omega)] at hz; subst hz; exact hK))); (conv => whnf)) | ((with_reducible apply gd_and); (focus ((conv => whnf) <;> first | rfl | (intro K hK; (conv => whnf); first | exact hK | (intro z hz; rw [wrapI (by omega)] at hz; subst hz; exact hK)))); (conv => whnf)) | ((with_reducible apply z_wrap); (focus omega); (conv => whnf)) | ((with_reducible first | apply mt_dec | apply mt_eq | apply mt_ne | apply mt_not | apply mt_any) <;> (intro _; conv => whnf)))
              · rename_i hkl
                refine Exists.elim (⟨_, List.getElem?_eq_getElem (by omega)⟩ : ∃ z, d.certs[k]? = some z) fun z hz => ?_
                have hzr := (h.certs z (List.mem_of_getElem? hz)).head.round
                have hdn := hkk.len
                have hwi := with_ok dn (by unfold tiny; omega) hkk.rise z.digest (hkk.new h hz)
                have hi1 := in_ok v.c.done (by have := hfn.few; unfold few; omega) z.digest
                have hi2 := in_ok b (by unfold few; omega) z.digest
                refine ⟨by omega, z.cs, certsD_at hz, ?_⟩
                conv => whnf
                ((with_reducible refine draw_pl ttOk zOk foOk mixedOk pl12x21 ?_ ?_); (focus kernel_rfl); (conv => whnf))
                repeat' (first | ((with_reducible apply rd_intro); (focus (intro K hK; (conv => whnf); first | exact hK | (intro z hz; rw [wrapI (by omega)] at hz; subst hz; exact hK))); (conv => whnf)) | ((with_reducible apply gd_and); (focus ((conv => whnf) <;> first | rfl | (intro K hK; (conv => whnf); first | exact hK | (intro z hz; rw [wrapI (by omega)] at hz; subst hz; exact hK)))); (conv => whnf)) | ((with_reducible apply z_wrap); (focus omega); (conv => whnf)) | ((with_reducible first | apply mt_dec | apply mt_eq | apply mt_ne | apply mt_not | apply mt_any) <;> (intro _; conv => whnf)))
                ((with_reducible apply rd_intro); (focus (intro K hK; (conv => whnf); exact ⟨by omega, z.cs, certsD_at hz, hK⟩)); (conv => whnf))
                repeat' (first | ((with_reducible apply rd_intro); (focus (intro K hK; (conv => whnf); first | exact hK | (intro z hz; rw [wrapI (by omega)] at hz; subst hz; exact hK))); (conv => whnf)) | ((with_reducible apply gd_and); (focus ((conv => whnf) <;> first | rfl | (intro K hK; (conv => whnf); first | exact hK | (intro z hz; rw [wrapI (by omega)] at hz; subst hz; exact hK)))); (conv => whnf)) | ((with_reducible apply z_wrap); (focus omega); (conv => whnf)) | ((with_reducible first | apply mt_dec | apply mt_eq | apply mt_ne | apply mt_not | apply mt_any) <;> (intro _; conv => whnf)))
                · refine hi1.mono ?_
                  rintro _ _ ⟨rfl, rfl⟩
                  conv => whnf
                  repeat' (first | ((with_reducible apply rd_intro); (focus (intro K hK; (conv => whnf); first | exact hK | (intro z hz; rw [wrapI (by omega)] at hz; subst hz; exact hK))); (conv => whnf)) | ((with_reducible apply gd_and); (focus ((conv => whnf) <;> first | rfl | (intro K hK; (conv => whnf); first | exact hK | (intro z hz; rw [wrapI (by omega)] at hz; subst hz; exact hK)))); (conv => whnf)) | ((with_reducible apply z_wrap); (focus omega); (conv => whnf)) | ((with_reducible first | apply mt_dec | apply mt_eq | apply mt_ne | apply mt_not | apply mt_any) <;> (intro _; conv => whnf)))
                  · rename_i hzl hin
                    refine hwi.mono ?_
                    rintro _ _ ⟨rfl, rfl⟩
                    conv => whnf
                    repeat' (first | ((with_reducible apply rd_intro); (focus (intro K hK; (conv => whnf); first | exact hK | (intro z hz; rw [wrapI (by omega)] at hz; subst hz; exact hK))); (conv => whnf)) | ((with_reducible apply gd_and); (focus ((conv => whnf) <;> first | rfl | (intro K hK; (conv => whnf); first | exact hK | (intro z hz; rw [wrapI (by omega)] at hz; subst hz; exact hK)))); (conv => whnf)) | ((with_reducible apply z_wrap); (focus omega); (conv => whnf)) | ((with_reducible first | apply mt_dec | apply mt_eq | apply mt_ne | apply mt_not | apply mt_any) <;> (intro _; conv => whnf)))
                    exact ⟨(insI dn z.digest, k + 1), rfl, rfl, ⟨by show k + 1 ≤ _; omega, hkk.yes h hz hzl (List.mem_append_left _ (inI_iff.1 hin))⟩, by show _ - (k + 1) < _ - k; omega⟩
                  · rename_i hzl hin
                    refine hi2.mono ?_
                    rintro _ _ ⟨rfl, rfl⟩
                    conv => whnf
                    repeat' (first | ((with_reducible apply rd_intro); (focus (intro K hK; (conv => whnf); first | exact hK | (intro z hz; rw [wrapI (by omega)] at hz; subst hz; exact hK))); (conv => whnf)) | ((with_reducible apply gd_and); (focus ((conv => whnf) <;> first | rfl | (intro K hK; (conv => whnf); first | exact hK | (intro z hz; rw [wrapI (by omega)] at hz; subst hz; exact hK)))); (conv => whnf)) | ((with_reducible apply z_wrap); (focus omega); (conv => whnf)) | ((with_reducible first | apply mt_dec | apply mt_eq | apply mt_ne | apply mt_not | apply mt_any) <;> (intro _; conv => whnf)))
                    · rename_i hin2
                      refine hwi.mono ?_
                      rintro _ _ ⟨rfl, rfl⟩
                      conv => whnf
                      repeat' (first | ((with_reducible apply rd_intro); (focus (intro K hK; (conv => whnf); first | exact hK | (intro z hz; rw [wrapI (by omega)] at hz; subst hz; exact hK))); (conv => whnf)) | ((with_reducible apply gd_and); (focus ((conv => whnf) <;> first | rfl | (intro K hK; (conv => whnf); first | exact hK | (intro z hz; rw [wrapI (by omega)] at hz; subst hz; exact hK)))); (conv => whnf)) | ((with_reducible apply z_wrap); (focus omega); (conv => whnf)) | ((with_reducible first | apply mt_dec | apply mt_eq | apply mt_ne | apply mt_not | apply mt_any) <;> (intro _; conv => whnf)))
                      exact ⟨(insI dn z.digest, k + 1), rfl, rfl, ⟨by show k + 1 ≤ _; omega, hkk.yes h hz hzl (List.mem_append_right _ (inI_iff.1 hin2))⟩, by show _ - (k + 1) < _ - k; omega⟩
                    · rename_i hin2
                      refine ⟨(dn, k + 1), rfl, rfl, ⟨by show k + 1 ≤ _; omega, hkk.no hz fun hq => ?_⟩, by show _ - (k + 1) < _ - k; omega⟩
                      rcases List.mem_append.1 hq.2 with hq | hq
                      · exact hin (inI_iff.2 hq)
                      · exact hin2 (inI_iff.2 hq)
                · rename_i hzl
                  exact ⟨(dn, k + 1), rfl, rfl, ⟨by show k + 1 ≤ _; omega, hkk.no hz fun hq => hzl hq.1⟩, by show _ - (k + 1) < _ - k; omega⟩
              · rename_i hkl
                have hke : k = d.certs.length := by omega
                rw [hke] at hkk
                have hde := hkk.done h hrise
                refine ⟨(⟨⟨y.round, sortI (keepI d y.round (v.c.done ++ b)), min (v.c.count + b.length) 1099511627776⟩, v.outs ++ b⟩, j + 1), rfl, ?_, ⟨hnx, by show d.low = 0 ∨ d.low ≤ y.round - 8; omega⟩, by show _ - (j + 1) < _ - j; omega⟩
                simp only [rsIn, Cursor.cells, Cursor.cs, ← hde, ← hbl]
                rfl
          · rename_i hjl
            have hk := hi.done hw hch hpos hg.round.1 hg.round.2.2 (by omega) hl hg.fin
            have k1 := hk.1
            have k2 := hk.2
            clear hk
            refine (rNext_ok d h v.c.round ⟨k1.round.1, k1.round.2.1⟩ k1.round.2.2).mono ?_
            rintro _ _ ⟨rfl, rfl⟩
            conv => whnf
            repeat' (first | ((with_reducible apply rd_intro); (focus (intro K hK; (conv => whnf); first | exact hK | (intro z hz; rw [wrapI (by omega)] at hz; subst hz; exact hK))); (conv => whnf)) | ((with_reducible apply gd_and); (focus ((conv => whnf) <;> first | rfl | (intro K hK; (conv => whnf); first | exact hK | (intro z hz; rw [wrapI (by omega)] at hz; subst hz; exact hK)))); (conv => whnf)) | ((with_reducible apply z_wrap); (focus omega); (conv => whnf)) | ((with_reducible first | apply mt_dec | apply mt_eq | apply mt_ne | apply mt_not | apply mt_any) <;> (intro _; conv => whnf)))
            exact ⟨v, rfl, rfl, ⟨k1, hlv⟩, k2⟩
      · rename_i hpos
        have hfe : finW d c = w := Exists.elim hg.fin fun n hn => hn.2.trans (goF_end hpos n)
        refine ⟨?_, rfl⟩
        rw [stepAV, if_neg (fun ho => hno ho), hfe]
        rfl
  · rename_i h3; exact absurd h1 h3
theorem rStep_o (d : Dag) (h : Valid d) (c : Cursor) (hm : curMay c) (h1 : d.low > 0) (h2 : d.low > c.round - 8) : ACalls Tryz.prog 12 [d.av, c.av] [] (fun av L => av = stepAV d c ∧ L = []) := by
  have hw := h.well
  have hlow := h.low
  have hlen := h.len
  have hr := hm.round
  have hcl := certsD_length d.certs
  have hdl := rise_len2 hm.done
  have hst : stepAV d c = .tup [zCurAV, .d (.sl 1 []), .d (.int .i64 6)] := by rw [stepAV, if_pos ⟨h1, h2⟩]
  rw [hst]
  refine acalls_go ttOk zOk foOk Tryz.func12 rfl Tryz.ntmps12 rfl false rfl ?_
  conv => whnf
  repeat' (first | ((with_reducible apply rd_intro); (focus (intro K hK; (conv => whnf); first | exact hK | (intro z hz; rw [wrapI (by omega)] at hz; subst hz; exact hK))); (conv => whnf)) | ((with_reducible apply gd_and); (focus ((conv => whnf) <;> first | rfl | (intro K hK; (conv => whnf); first | exact hK | (intro z hz; rw [wrapI (by omega)] at hz; subst hz; exact hK)))); (conv => whnf)) | ((with_reducible apply z_wrap); (focus omega); (conv => whnf)) | ((with_reducible first | apply mt_dec | apply mt_eq | apply mt_ne | apply mt_not | apply mt_any) <;> (intro _; conv => whnf)))
  · exact ⟨rfl, rfl⟩
  · rename_i h3; exact absurd h2 h3
  · rename_i h3; exact absurd h1 h3
theorem rStep_ok (d : Dag) (h : Valid d) (c : Cursor) (hm : curMay c) : ACalls Tryz.prog 12 [d.av, c.av] [] (fun av L => av = stepAV d c ∧ L = []) := by
  by_cases h1 : d.low > 0
  · by_cases h2 : d.low > c.round - 8
    · exact rStep_o d h c hm h1 h2
    · exact rStep_a d h c hm h1 h2
  · exact rStep_b d h c hm h1
end Go.Proofs.YtoeppembokpjkaaGreat
