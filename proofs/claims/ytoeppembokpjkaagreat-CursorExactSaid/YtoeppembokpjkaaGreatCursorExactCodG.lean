/- Part of the proof of CursorExact: the contracts of the functions. -/
import Derived.Test.YtoeppembokpjkaaGreatCursorExactCodF

set_option linter.unusedVariables false
set_option linter.unusedSimpArgs false
namespace Go.Proofs.YtoeppembokpjkaaGreat
open Go.Ab Go.RowKit Go.MapKept
attribute [local irreducible] ACalls AW ADraw Into fltB fnear
set_option maxRecDepth 100000
/-! ## whether any DAG may be -/
noncomputable def isV (d : Dag) : Bool := @decide (Valid d) (Classical.propDecidable _)
theorem isV_yes {d : Dag} (h : Valid d) : isV d = true := by unfold isV; exact @decide_eq_true _ (Classical.propDecidable _) h
theorem isV_no {d : Dag} (h : ¬ Valid d) : isV d = false := by unfold isV; exact @decide_eq_false _ (Classical.propDecidable _) h
structure mayD (d : Dag) (j : Nat) : Prop where
  ok : ∀ c ∈ d.certs.take j, okCert d.nodes c ∧ d.low < c.round
  sorted : sortedC (d.certs.take j)
  dig : ((d.certs.take j).map (·.digest)).Nodup
  here : ∀ c ∈ d.certs.take j, c.round > d.low + 1 → ∀ x ∈ c.pars, ∃ c' ∈ d.certs.take j, c'.digest = x ∧ c'.round = c.round - 1
theorem mayD.next {d : Dag} {j : Nat} (h : mayD d j) {c : Cert} (hc : d.certs[j]? = some c) (h1 : okCert d.nodes c) (h2 : d.low < c.round) (h3 : c.round > d.low + 1 → ∀ x ∈ c.pars, ∃ c' ∈ d.certs.take j, c'.digest = x ∧ c'.round = c.round - 1) (h4 : ∀ c0, 0 < j → d.certs[j - 1]? = some c0 → c0.before c.round c.author = true) (h5 : ∀ x ∈ d.certs.take j, x.digest ≠ c.digest) : mayD d (j + 1) := by
  have e := take_snoc hc
  refine ⟨?_, ?_, ?_, ?_⟩
  · rw [e]
    intro y hy
    rcases List.mem_append.1 hy with hy | hy
    · exact h.ok y hy
    · simp at hy; rw [hy]; exact ⟨h1, h2⟩
  · rw [e]
    refine List.pairwise_append.2 ⟨h.sorted, by simp, fun x hx y hy => ?_⟩
    simp at hy
    rw [hy]
    obtain ⟨i, hi, rfl⟩ := List.mem_take_iff_getElem.1 hx
    have hil : i < j := by omega
    have hjl := (List.getElem?_eq_some_iff.1 hc).1
    have hp : d.certs[j - 1]? = some d.certs[j - 1] := List.getElem?_eq_getElem (by omega)
    have hb := h4 _ (by omega) hp
    rcases Nat.lt_or_ge i (j - 1) with hlt | hge
    · have h6 := List.pairwise_iff_getElem.1 h.sorted i (j - 1) (by rw [List.length_take]; omega) (by rw [List.length_take]; omega) hlt
      rw [List.getElem_take, List.getElem_take] at h6
      have h7 := before_iff.1 h6
      have h8 := before_iff.1 hb
      exact before_iff.2 (by omega)
    · have : i = j - 1 := by omega
      subst this
      exact hb
  · rw [e, List.map_append, List.nodup_append]
    refine ⟨h.dig, by simp, fun a ha b hb => ?_⟩
    obtain ⟨x, hx, rfl⟩ := List.mem_map.1 ha
    simp at hb
    rw [hb]
    exact h5 x hx
  · rw [e]
    intro y hy hr x hx
    rcases List.mem_append.1 hy with hy | hy
    · obtain ⟨c', k1, k2⟩ := h.here y hy hr x hx
      exact ⟨c', List.mem_append_left _ k1, k2⟩
    · simp at hy
      rw [hy] at hr hx ⊢
      obtain ⟨c', k1, k2⟩ := h3 hr x hx
      exact ⟨c', List.mem_append_left _ k1, k2⟩
theorem mayD.valid {d : Dag} (h : mayD d d.certs.length) (h1 : isN d.nodes = true) (h2 : 0 ≤ d.low ∧ d.low ≤ 1099511627776) (h3 : d.certs.length ≤ 65536) : Valid d := by
  obtain ⟨a, b, c, e⟩ := h
  rw [List.take_length] at a b c e
  exact ⟨h1, h2, h3, fun c hc => (a c hc).1, fun c hc => (a c hc).2, b, c, fun c hc hr x hx => e c hc hr x hx⟩
theorem look_mem {k v : Int} : ∀ {ps : List (Int × Int)}, lookP k ps = some v → (k, v) ∈ ps
  | [], h => by cases h
  | p :: r, h => by
    rw [lookP] at h
    split at h
    · rename_i e
      cases h
      rw [← e]; simp
    · exact List.mem_cons_of_mem _ (look_mem h)
theorem seen_some {l : List Cert} {x v : Int} (h : lookP x (seenP l) = some v) : ∃ c ∈ l, c.digest = x ∧ c.round = v := by
  obtain ⟨c, hc, e⟩ := List.mem_map.1 (look_mem h)
  exact ⟨c, hc, congrArg Prod.fst e, congrArg Prod.snd e⟩
theorem look_no {k : Int} : ∀ {ps : List (Int × Int)}, lookP k ps = none → ∀ p ∈ ps, p.1 ≠ k
  | p :: r, h, q, hq => by
    rw [lookP] at h
    split at h
    · cases h
    · rename_i e
      rcases List.mem_cons.1 hq with rfl | hq
      · exact e
      · exact look_no h q hq
theorem seen_none {l : List Cert} {x : Int} (h : lookP x (seenP l) = none) : ∀ c ∈ l, c.digest ≠ x := fun c hc => look_no h (c.digest, c.round) (List.mem_map.2 ⟨c, hc, rfl⟩)
theorem mapP_look (k : Int) (ps : List (Int × Int)) : ∃ r, mfind (.one (.int .i64 k)) (mapP ps) 0 = some r ∧ ((∃ v, lookP k ps = some v ∧ ∃ i, r = some (i, .v (.one (.int .i64 v)))) ∨ (lookP k ps = none ∧ r = none)) := by
  obtain ⟨r, h1, ⟨v, i, h2, h3⟩ | h2⟩ := mapP_find k ps 0
  · exact ⟨r, h1, .inl ⟨v, h2, i, h3⟩⟩
  · exact ⟨r, h1, .inr h2⟩
def outM (av : AV) (L : List AB) (d : Dag) : Prop := (∃ b, av = .d (.bool b) ∧ (b = true → Valid d)) ∧ L = []
theorem outM_no (d : Dag) : outM (.d (.bool false)) [] d := ⟨⟨false, rfl, by intro h; cases h⟩, rfl⟩
set_option maxHeartbeats 2000000 in
theorem dagMay_any (d : Dag) (h : d.ok) : ACalls Tryz.prog 54 [d.av] [] (fun av L => outM av L d) := by
  have hcl := certsD_length d.certs
  have hfd := h.certs.1
  refine acalls_go ttOk zOk foOk Tryz.func54 rfl Tryz.ntmps54 rfl false rfl ?_
  conv => whnf
  refine (is_ok d.nodes).mono ?_
  rintro _ _ ⟨rfl, rfl⟩
  cases hn : isN d.nodes with
  | false =>
    conv => whnf
    exact outM_no d
  | true =>
    have hnn := of_decide_eq_true hn
    conv => whnf
    repeat' (first | ((with_reducible apply rd_intro); (focus (intro K hK; (conv => whnf); first | exact hK | (intro z hz; rw [wrapI (by omega)] at hz; subst hz; exact hK))); (conv => whnf)) | ((with_reducible apply gd_and); (focus ((conv => whnf) <;> first | rfl | (intro K hK; (conv => whnf); first | exact hK | (intro z hz; rw [wrapI (by omega)] at hz; subst hz; exact hK)))); (conv => whnf)) | ((with_reducible apply z_wrap); (focus omega); (conv => whnf)) | ((with_reducible first | apply mt_dec | apply mt_eq | apply mt_ne | apply mt_not | apply mt_any) <;> (intro _; conv => whnf)))
    · exact outM_no d
    · exact outM_no d
    · exact outM_no d
    · rename_i h1 h2 h3
      refine loop_go ttOk zOk foOk (σ := Nat) (mayS d) (fun j => j ≤ d.certs.length ∧ mayD d j) (fun j => d.certs.length - j) [1, 3, 30, 31, 32] ?_ ?_
      · conv => whnf
        exact ⟨0, by rw [hcl]; rfl, rfl, Nat.zero_le _, by simp, by simp [sortedC], by simp, by simp⟩
      · rintro j ⟨hj, hinv⟩
        conv => whnf
        repeat' (first | ((with_reducible apply rd_intro); (focus (intro K hK; (conv => whnf); first | exact hK | (intro z hz; rw [wrapI (by omega)] at hz; subst hz; exact hK))); (conv => whnf)) | ((with_reducible apply gd_and); (focus ((conv => whnf) <;> first | rfl | (intro K hK; (conv => whnf); first | exact hK | (intro z hz; rw [wrapI (by omega)] at hz; subst hz; exact hK)))); (conv => whnf)) | ((with_reducible apply z_wrap); (focus omega); (conv => whnf)) | ((with_reducible first | apply mt_dec | apply mt_eq | apply mt_ne | apply mt_not | apply mt_any) <;> (intro _; conv => whnf)))
        · rename_i hjl
          have hjn : j < d.certs.length := Int.ofNat_lt.1 hjl
          refine Exists.elim (⟨_, List.getElem?_eq_getElem hjn⟩ : ∃ c, d.certs[j]? = some c) fun c hc => ?_
          have hcm := List.mem_of_getElem? hc
          have hfl := ok_fewL (h.certs.2 c hcm)
          have hpl := nums_length c.pars
          have hmc := mayCert_ok c hfl d.nodes
          refine ⟨by omega, c.cs, certsD_at hc, ?_⟩
          conv => whnf
          repeat' (first | ((with_reducible apply rd_intro); (focus (intro K hK; (conv => whnf); first | exact hK | (intro z hz; rw [wrapI (by omega)] at hz; subst hz; exact hK))); (conv => whnf)) | ((with_reducible apply gd_and); (focus ((conv => whnf) <;> first | rfl | (intro K hK; (conv => whnf); first | exact hK | (intro z hz; rw [wrapI (by omega)] at hz; subst hz; exact hK)))); (conv => whnf)) | ((with_reducible apply z_wrap); (focus omega); (conv => whnf)) | ((with_reducible first | apply mt_dec | apply mt_eq | apply mt_ne | apply mt_not | apply mt_any) <;> (intro _; conv => whnf)))
          ((with_reducible refine draw_pl ttOk zOk foOk mixedOk pl54x7 ?_ ?_); (focus kernel_rfl); (conv => whnf))
          repeat' (first | ((with_reducible apply rd_intro); (focus (intro K hK; (conv => whnf); first | exact hK | (intro z hz; rw [wrapI (by omega)] at hz; subst hz; exact hK))); (conv => whnf)) | ((with_reducible apply gd_and); (focus ((conv => whnf) <;> first | rfl | (intro K hK; (conv => whnf); first | exact hK | (intro z hz; rw [wrapI (by omega)] at hz; subst hz; exact hK)))); (conv => whnf)) | ((with_reducible apply z_wrap); (focus omega); (conv => whnf)) | ((with_reducible first | apply mt_dec | apply mt_eq | apply mt_ne | apply mt_not | apply mt_any) <;> (intro _; conv => whnf)))
          refine hmc.mono ?_
          rintro _ _ ⟨rfl, rfl⟩
          by_cases hok : okCert d.nodes c
          · rw [@decide_eq_true _ (Classical.propDecidable _) hok]
            have hrb := hok.head.round
            have hau := hok.head.author
            conv => whnf
            repeat' (first | ((with_reducible apply rd_intro); (focus (intro K hK; (conv => whnf); first | exact hK | (intro z hz; rw [wrapI (by omega)] at hz; subst hz; exact hK))); (conv => whnf)) | ((with_reducible apply gd_and); (focus ((conv => whnf) <;> first | rfl | (intro K hK; (conv => whnf); first | exact hK | (intro z hz; rw [wrapI (by omega)] at hz; subst hz; exact hK)))); (conv => whnf)) | ((with_reducible apply z_wrap); (focus omega); (conv => whnf)) | ((with_reducible first | apply mt_dec | apply mt_eq | apply mt_ne | apply mt_not | apply mt_any) <;> (intro _; conv => whnf)))
            · exact outM_no d
            · rename_i hab
              replace hab : d.low < c.round := by omega
              refine Exists.elim (mapP_look c.digest (seenP (d.certs.take j))) fun q hq => ?_
              have hq1 := hq.1
              refine hq.2.elim (fun hv => Exists.elim hv fun v hv => Exists.elim hv.2 fun i hqe => ?_) fun hn2 => ?_
              · rw [hqe] at hq1
                have hvp : v > 0 := Exists.elim (seen_some hv.1) fun c' k => by
                  have := (hinv.ok c' k.1).1.head.round
                  have := k.2.2
                  omega
                ((with_reducible apply rd_intro); (focus (intro K hK; (conv => whnf); exact ⟨_, hq1, hK⟩)); (conv => whnf))
                repeat' (first | ((with_reducible apply rd_intro); (focus (intro K hK; (conv => whnf); first | exact hK | (intro z hz; rw [wrapI (by omega)] at hz; subst hz; exact hK))); (conv => whnf)) | ((with_reducible apply gd_and); (focus ((conv => whnf) <;> first | rfl | (intro K hK; (conv => whnf); first | exact hK | (intro z hz; rw [wrapI (by omega)] at hz; subst hz; exact hK)))); (conv => whnf)) | ((with_reducible apply z_wrap); (focus omega); (conv => whnf)) | ((with_reducible first | apply mt_dec | apply mt_eq | apply mt_ne | apply mt_not | apply mt_any) <;> (intro _; conv => whnf)))
                · exact outM_no d
                · exfalso; omega
                · exfalso; omega
              · have hfr := hn2.1
                rw [hn2.2] at hq1
                ((with_reducible apply rd_intro); (focus (intro K hK; (conv => whnf); exact ⟨_, hq1, hK⟩)); (conv => whnf))
                repeat' (first | ((with_reducible apply rd_intro); (focus (intro K hK; (conv => whnf); first | exact hK | (intro z hz; rw [wrapI (by omega)] at hz; subst hz; exact hK))); (conv => whnf)) | ((with_reducible apply gd_and); (focus ((conv => whnf) <;> first | rfl | (intro K hK; (conv => whnf); first | exact hK | (intro z hz; rw [wrapI (by omega)] at hz; subst hz; exact hK)))); (conv => whnf)) | ((with_reducible apply z_wrap); (focus omega); (conv => whnf)) | ((with_reducible first | apply mt_dec | apply mt_eq | apply mt_ne | apply mt_not | apply mt_any) <;> (intro _; conv => whnf)))
                · rename_i hj0
                  refine Exists.elim (⟨_, List.getElem?_eq_getElem (show j - 1 < d.certs.length by omega)⟩ : ∃ c, d.certs[j - 1]? = some c) fun c0 hc0 => ?_
                  have hc0m : c0 ∈ d.certs.take j := List.mem_take_iff_getElem.2 ⟨j - 1, by omega, (List.getElem?_eq_some_iff.1 hc0).2⟩
                  have hok0 := (hinv.ok c0 hc0m).1
                  have hrb0 := hok0.head.round
                  have hau0 := hok0.head.author
                  have hft : isF c.round ∧ isF c.author := ⟨⟨by omega, by omega⟩, ⟨by omega, by omega⟩⟩
                  have hft0 : isF c0.round ∧ isF c0.author := ⟨⟨by omega, by omega⟩, ⟨by omega, by omega⟩⟩
                  have hpl1 := placeLess_ok hft0.1 hft0.2 hft.1 hft.2
                  ((with_reducible apply rd_intro); (focus (intro K hK; (conv => whnf); exact ⟨by omega, c0.cs, (by rw [show ((j : Int) - 1).toNat = j - 1 by omega]; exact certsD_at hc0), hK⟩)); (conv => whnf))
                  repeat' (first | ((with_reducible apply rd_intro); (focus (intro K hK; (conv => whnf); first | exact hK | (intro z hz; rw [wrapI (by omega)] at hz; subst hz; exact hK))); (conv => whnf)) | ((with_reducible apply gd_and); (focus ((conv => whnf) <;> first | rfl | (intro K hK; (conv => whnf); first | exact hK | (intro z hz; rw [wrapI (by omega)] at hz; subst hz; exact hK)))); (conv => whnf)) | ((with_reducible apply z_wrap); (focus omega); (conv => whnf)) | ((with_reducible first | apply mt_dec | apply mt_eq | apply mt_ne | apply mt_not | apply mt_any) <;> (intro _; conv => whnf)))
                  refine (dagPlace_ok c0).mono ?_
                  rintro _ _ ⟨rfl, rfl⟩
                  conv => whnf
                  repeat' (first | ((with_reducible apply rd_intro); (focus (intro K hK; (conv => whnf); first | exact hK | (intro z hz; rw [wrapI (by omega)] at hz; subst hz; exact hK))); (conv => whnf)) | ((with_reducible apply gd_and); (focus ((conv => whnf) <;> first | rfl | (intro K hK; (conv => whnf); first | exact hK | (intro z hz; rw [wrapI (by omega)] at hz; subst hz; exact hK)))); (conv => whnf)) | ((with_reducible apply z_wrap); (focus omega); (conv => whnf)) | ((with_reducible first | apply mt_dec | apply mt_eq | apply mt_ne | apply mt_not | apply mt_any) <;> (intro _; conv => whnf)))
                  refine (dagPlace_ok c).mono ?_
                  rintro _ _ ⟨rfl, rfl⟩
                  conv => whnf
                  repeat' (first | ((with_reducible apply rd_intro); (focus (intro K hK; (conv => whnf); first | exact hK | (intro z hz; rw [wrapI (by omega)] at hz; subst hz; exact hK))); (conv => whnf)) | ((with_reducible apply gd_and); (focus ((conv => whnf) <;> first | rfl | (intro K hK; (conv => whnf); first | exact hK | (intro z hz; rw [wrapI (by omega)] at hz; subst hz; exact hK)))); (conv => whnf)) | ((with_reducible apply z_wrap); (focus omega); (conv => whnf)) | ((with_reducible first | apply mt_dec | apply mt_eq | apply mt_ne | apply mt_not | apply mt_any) <;> (intro _; conv => whnf)))
                  refine hpl1.mono ?_
                  rintro _ _ ⟨rfl, rfl⟩
                  by_cases hb : c0.before c.round c.author = true
                  · rw [show decide (c0.round < c.round ∨ c0.round = c.round ∧ c0.author < c.author) = true from hb]
                    have h4 : ∀ c0, 0 < j → d.certs[j - 1]? = some c0 → c0.before c.round c.author = true := by
                      intro c1 _ hc1
                      rw [hc0] at hc1; cases hc1; exact hb
                    conv => whnf
                    repeat' (first | ((with_reducible apply rd_intro); (focus (intro K hK; (conv => whnf); first | exact hK | (intro z hz; rw [wrapI (by omega)] at hz; subst hz; exact hK))); (conv => whnf)) | ((with_reducible apply gd_and); (focus ((conv => whnf) <;> first | rfl | (intro K hK; (conv => whnf); first | exact hK | (intro z hz; rw [wrapI (by omega)] at hz; subst hz; exact hK)))); (conv => whnf)) | ((with_reducible apply z_wrap); (focus omega); (conv => whnf)) | ((with_reducible first | apply mt_dec | apply mt_eq | apply mt_ne | apply mt_not | apply mt_any) <;> (intro _; conv => whnf)))
                    refine loop_go ttOk zOk foOk (σ := Nat) (mayI d j c) (fun m => m ≤ c.pars.length ∧ (c.round > d.low + 1 → ∀ x ∈ c.pars.take m, ∃ c' ∈ d.certs.take j, c'.digest = x ∧ c'.round = c.round - 1)) (fun m => c.pars.length - m) [1, 3, 5, 30, 31, 32, 76, 77, 78] ?_ ?_
                    · conv => whnf
                      exact ⟨0, by rw [hpl]; rfl, rfl, Nat.zero_le _, by simp⟩
                    · rintro m ⟨hm, hall⟩
                      conv => whnf
                      repeat' (first | ((with_reducible apply rd_intro); (focus (intro K hK; (conv => whnf); first | exact hK | (intro z hz; rw [wrapI (by omega)] at hz; subst hz; exact hK))); (conv => whnf)) | ((with_reducible apply gd_and); (focus ((conv => whnf) <;> first | rfl | (intro K hK; (conv => whnf); first | exact hK | (intro z hz; rw [wrapI (by omega)] at hz; subst hz; exact hK)))); (conv => whnf)) | ((with_reducible apply z_wrap); (focus omega); (conv => whnf)) | ((with_reducible first | apply mt_dec | apply mt_eq | apply mt_ne | apply mt_not | apply mt_any) <;> (intro _; conv => whnf)))
                      · rename_i hml
                        have hmn : m < c.pars.length := Int.ofNat_lt.1 hml
                        have hpf := hfl.pars
                        unfold few at hpf
                        refine Exists.elim (⟨_, List.getElem?_eq_getElem hmn⟩ : ∃ x, c.pars[m]? = some x) fun x hx => ?_
                        refine ⟨by omega, [.int .i64 x], nums_at hx, ?_⟩
                        conv => whnf
                        repeat' (first | ((with_reducible apply rd_intro); (focus (intro K hK; (conv => whnf); first | exact hK | (intro z hz; rw [wrapI (by omega)] at hz; subst hz; exact hK))); (conv => whnf)) | ((with_reducible apply gd_and); (focus ((conv => whnf) <;> first | rfl | (intro K hK; (conv => whnf); first | exact hK | (intro z hz; rw [wrapI (by omega)] at hz; subst hz; exact hK)))); (conv => whnf)) | ((with_reducible apply z_wrap); (focus omega); (conv => whnf)) | ((with_reducible first | apply mt_dec | apply mt_eq | apply mt_ne | apply mt_not | apply mt_any) <;> (intro _; conv => whnf)))
                        · rename_i hrl
                          refine Exists.elim (mapP_look x (seenP (d.certs.take j))) fun q hq => ?_
                          have hq1 := hq.1
                          refine hq.2.elim (fun hv => Exists.elim hv fun v hv => Exists.elim hv.2 fun i hqe => ?_) fun hn => ?_
                          · rw [hqe] at hq1
                            refine ⟨_, hq1, ?_⟩
                            conv => whnf
                            repeat' (first | ((with_reducible apply rd_intro); (focus (intro K hK; (conv => whnf); first | exact hK | (intro z hz; rw [wrapI (by omega)] at hz; subst hz; exact hK))); (conv => whnf)) | ((with_reducible apply gd_and); (focus ((conv => whnf) <;> first | rfl | (intro K hK; (conv => whnf); first | exact hK | (intro z hz; rw [wrapI (by omega)] at hz; subst hz; exact hK)))); (conv => whnf)) | ((with_reducible apply z_wrap); (focus omega); (conv => whnf)) | ((with_reducible first | apply mt_dec | apply mt_eq | apply mt_ne | apply mt_not | apply mt_any) <;> (intro _; conv => whnf)))
                            · exact outM_no d
                            · rename_i hve
                              refine ⟨m + 1, rfl, rfl, ⟨by omega, fun hr y hy => ?_⟩, by omega⟩
                              rw [take_snoc hx] at hy
                              rcases List.mem_append.1 hy with hy | hy
                              · exact hall hr y hy
                              · simp at hy
                                obtain ⟨c', k1, k2, k3⟩ := seen_some hv.1
                                exact ⟨c', k1, by rw [k2, hy], by rw [k3]; exact hve⟩
                          · rw [hn.2] at hq1
                            refine ⟨_, hq1, ?_⟩
                            conv => whnf
                            repeat' (first | ((with_reducible apply rd_intro); (focus (intro K hK; (conv => whnf); first | exact hK | (intro z hz; rw [wrapI (by omega)] at hz; subst hz; exact hK))); (conv => whnf)) | ((with_reducible apply gd_and); (focus ((conv => whnf) <;> first | rfl | (intro K hK; (conv => whnf); first | exact hK | (intro z hz; rw [wrapI (by omega)] at hz; subst hz; exact hK)))); (conv => whnf)) | ((with_reducible apply z_wrap); (focus omega); (conv => whnf)) | ((with_reducible first | apply mt_dec | apply mt_eq | apply mt_ne | apply mt_not | apply mt_any) <;> (intro _; conv => whnf)))
                            · exact outM_no d
                            · rename_i hve
                              exfalso
                              omega
                        · rename_i hrl
                          exact ⟨m + 1, rfl, rfl, ⟨by omega, fun hr => absurd hr hrl⟩, by omega⟩
                      · rename_i hml
                        rw [List.take_of_length_le (by omega)] at hall
                        refine Exists.elim (mapP_new (v := c.round) hfr) fun q hq => ?_
                        refine ⟨q, hq.1, ?_⟩
                        have hnew : mputAt (mapP (seenP (d.certs.take j))) q (.one (.int .i64 c.digest)) (.v (.one (.int .i64 c.round))) = mapP (seenP (d.certs.take (j + 1))) := by
                          rw [hq.2, List.take_add_one, hc]; simp [seenP]
                        rw [hnew]
                        conv => whnf
                        repeat' (first | ((with_reducible apply rd_intro); (focus (intro K hK; (conv => whnf); first | exact hK | (intro z hz; rw [wrapI (by omega)] at hz; subst hz; exact hK))); (conv => whnf)) | ((with_reducible apply gd_and); (focus ((conv => whnf) <;> first | rfl | (intro K hK; (conv => whnf); first | exact hK | (intro z hz; rw [wrapI (by omega)] at hz; subst hz; exact hK)))); (conv => whnf)) | ((with_reducible apply z_wrap); (focus omega); (conv => whnf)) | ((with_reducible first | apply mt_dec | apply mt_eq | apply mt_ne | apply mt_not | apply mt_any) <;> (intro _; conv => whnf)))
                        exact ⟨j + 1, rfl, rfl, ⟨by omega, hinv.next hc hok hab hall h4 (seen_none hfr)⟩, by omega⟩
                  · rw [show decide (c0.round < c.round ∨ c0.round = c.round ∧ c0.author < c.author) = false from by simpa [Cert.before] using hb]
                    conv => whnf
                    repeat' (first | ((with_reducible apply rd_intro); (focus (intro K hK; (conv => whnf); first | exact hK | (intro z hz; rw [wrapI (by omega)] at hz; subst hz; exact hK))); (conv => whnf)) | ((with_reducible apply gd_and); (focus ((conv => whnf) <;> first | rfl | (intro K hK; (conv => whnf); first | exact hK | (intro z hz; rw [wrapI (by omega)] at hz; subst hz; exact hK)))); (conv => whnf)) | ((with_reducible apply z_wrap); (focus omega); (conv => whnf)) | ((with_reducible first | apply mt_dec | apply mt_eq | apply mt_ne | apply mt_not | apply mt_any) <;> (intro _; conv => whnf)))
                    exact outM_no d
                · rename_i hj0
                  have h4 : ∀ c0, 0 < j → d.certs[j - 1]? = some c0 → c0.before c.round c.author = true := by
                    intro c1 h _
                    omega
                  refine loop_go ttOk zOk foOk (σ := Nat) (mayI d j c) (fun m => m ≤ c.pars.length ∧ (c.round > d.low + 1 → ∀ x ∈ c.pars.take m, ∃ c' ∈ d.certs.take j, c'.digest = x ∧ c'.round = c.round - 1)) (fun m => c.pars.length - m) [1, 3, 5, 30, 31, 32, 76, 77, 78] ?_ ?_
                  · conv => whnf
                    exact ⟨0, by rw [hpl]; rfl, rfl, Nat.zero_le _, by simp⟩
                  · rintro m ⟨hm, hall⟩
                    conv => whnf
                    repeat' (first | ((with_reducible apply rd_intro); (focus (intro K hK; (conv => whnf); first | exact hK | (intro z hz; rw [wrapI (by omega)] at hz; subst hz; exact hK))); (conv => whnf)) | ((with_reducible apply gd_and); (focus ((conv => whnf) <;> first | rfl | (intro K hK; (conv => whnf); first | exact hK | (intro z hz; rw [wrapI (by omega)] at hz; subst hz; exact hK)))); (conv => whnf)) | ((with_reducible apply z_wrap); (focus omega); (conv => whnf)) | ((with_reducible first | apply mt_dec | apply mt_eq | apply mt_ne | apply mt_not | apply mt_any) <;> (intro _; conv => whnf)))
                    · rename_i hml
                      have hmn : m < c.pars.length := Int.ofNat_lt.1 hml
                      have hpf := hfl.pars
                      unfold few at hpf
                      refine Exists.elim (⟨_, List.getElem?_eq_getElem hmn⟩ : ∃ x, c.pars[m]? = some x) fun x hx => ?_
                      refine ⟨by omega, [.int .i64 x], nums_at hx, ?_⟩
                      conv => whnf
                      repeat' (first | ((with_reducible apply rd_intro); (focus (intro K hK; (conv => whnf); first | exact hK | (intro z hz; rw [wrapI (by omega)] at hz; subst hz; exact hK))); (conv => whnf)) | ((with_reducible apply gd_and); (focus ((conv => whnf) <;> first | rfl | (intro K hK; (conv => whnf); first | exact hK | (intro z hz; rw [wrapI (by omega)] at hz; subst hz; exact hK)))); (conv => whnf)) | ((with_reducible apply z_wrap); (focus omega); (conv => whnf)) | ((with_reducible first | apply mt_dec | apply mt_eq | apply mt_ne | apply mt_not | apply mt_any) <;> (intro _; conv => whnf)))
                      · rename_i hrl
                        refine Exists.elim (mapP_look x (seenP (d.certs.take j))) fun q hq => ?_
                        have hq1 := hq.1
                        refine hq.2.elim (fun hv => Exists.elim hv fun v hv => Exists.elim hv.2 fun i hqe => ?_) fun hn => ?_
                        · rw [hqe] at hq1
                          refine ⟨_, hq1, ?_⟩
                          conv => whnf
                          repeat' (first | ((with_reducible apply rd_intro); (focus (intro K hK; (conv => whnf); first | exact hK | (intro z hz; rw [wrapI (by omega)] at hz; subst hz; exact hK))); (conv => whnf)) | ((with_reducible apply gd_and); (focus ((conv => whnf) <;> first | rfl | (intro K hK; (conv => whnf); first | exact hK | (intro z hz; rw [wrapI (by omega)] at hz; subst hz; exact hK)))); (conv => whnf)) | ((with_reducible apply z_wrap); (focus omega); (conv => whnf)) | ((with_reducible first | apply mt_dec | apply mt_eq | apply mt_ne | apply mt_not | apply mt_any) <;> (intro _; conv => whnf)))
                          · exact outM_no d
                          · rename_i hve
                            refine ⟨m + 1, rfl, rfl, ⟨by omega, fun hr y hy => ?_⟩, by omega⟩
                            rw [take_snoc hx] at hy
                            rcases List.mem_append.1 hy with hy | hy
                            · exact hall hr y hy
                            · simp at hy
                              obtain ⟨c', k1, k2, k3⟩ := seen_some hv.1
                              exact ⟨c', k1, by rw [k2, hy], by rw [k3]; exact hve⟩
                        · rw [hn.2] at hq1
                          refine ⟨_, hq1, ?_⟩
                          conv => whnf
                          repeat' (first | ((with_reducible apply rd_intro); (focus (intro K hK; (conv => whnf); first | exact hK | (intro z hz; rw [wrapI (by omega)] at hz; subst hz; exact hK))); (conv => whnf)) | ((with_reducible apply gd_and); (focus ((conv => whnf) <;> first | rfl | (intro K hK; (conv => whnf); first | exact hK | (intro z hz; rw [wrapI (by omega)] at hz; subst hz; exact hK)))); (conv => whnf)) | ((with_reducible apply z_wrap); (focus omega); (conv => whnf)) | ((with_reducible first | apply mt_dec | apply mt_eq | apply mt_ne | apply mt_not | apply mt_any) <;> (intro _; conv => whnf)))
                          · exact outM_no d
                          · rename_i hve
                            exfalso
                            omega
                      · rename_i hrl
                        exact ⟨m + 1, rfl, rfl, ⟨by omega, fun hr => absurd hr hrl⟩, by omega⟩
                    · rename_i hml
                      rw [List.take_of_length_le (by omega)] at hall
                      refine Exists.elim (mapP_new (v := c.round) hfr) fun q hq => ?_
                      refine ⟨q, hq.1, ?_⟩
                      have hnew : mputAt (mapP (seenP (d.certs.take j))) q (.one (.int .i64 c.digest)) (.v (.one (.int .i64 c.round))) = mapP (seenP (d.certs.take (j + 1))) := by
                        rw [hq.2, List.take_add_one, hc]; simp [seenP]
                      rw [hnew]
                      conv => whnf
                      repeat' (first | ((with_reducible apply rd_intro); (focus (intro K hK; (conv => whnf); first | exact hK | (intro z hz; rw [wrapI (by omega)] at hz; subst hz; exact hK))); (conv => whnf)) | ((with_reducible apply gd_and); (focus ((conv => whnf) <;> first | rfl | (intro K hK; (conv => whnf); first | exact hK | (intro z hz; rw [wrapI (by omega)] at hz; subst hz; exact hK)))); (conv => whnf)) | ((with_reducible apply z_wrap); (focus omega); (conv => whnf)) | ((with_reducible first | apply mt_dec | apply mt_eq | apply mt_ne | apply mt_not | apply mt_any) <;> (intro _; conv => whnf)))
                      exact ⟨j + 1, rfl, rfl, ⟨by omega, hinv.next hc hok hab hall h4 (seen_none hfr)⟩, by omega⟩
          · rw [@decide_eq_false _ (Classical.propDecidable _) hok]
            conv => whnf
            repeat' (first | ((with_reducible apply rd_intro); (focus (intro K hK; (conv => whnf); first | exact hK | (intro z hz; rw [wrapI (by omega)] at hz; subst hz; exact hK))); (conv => whnf)) | ((with_reducible apply gd_and); (focus ((conv => whnf) <;> first | rfl | (intro K hK; (conv => whnf); first | exact hK | (intro z hz; rw [wrapI (by omega)] at hz; subst hz; exact hK)))); (conv => whnf)) | ((with_reducible apply z_wrap); (focus omega); (conv => whnf)) | ((with_reducible first | apply mt_dec | apply mt_eq | apply mt_ne | apply mt_not | apply mt_any) <;> (intro _; conv => whnf)))
            exact outM_no d
        · rename_i hjl
          have : j = d.certs.length := by omega
          subst this
          exact ⟨⟨_, rfl, fun _ => hinv.valid hn ⟨by omega, by omega⟩ (by omega)⟩, rfl⟩
theorem dagMay_full (d : Dag) (h : d.ok) : ACalls Tryz.prog 54 [d.av] [] (fun av L => av = .d (.bool (isV d)) ∧ L = []) := by
  by_cases hv : Valid d
  · rw [isV_yes hv]; exact dagMay_ok d hv
  · rw [isV_no hv]
    refine (dagMay_any d h).mono ?_
    rintro _ _ ⟨⟨b, rfl, hb⟩, rfl⟩
    cases b with
    | true => exact absurd (hb rfl) hv
    | false => exact ⟨rfl, rfl⟩
theorem Valid.lacks {d : Dag} (h : Valid d) {c : Cert} (hc : c ∈ d.certs) : lacksI d c = [] := by
  unfold lacksI
  split
  · rfl
  · rename_i hr
    refine List.filter_eq_nil_iff.2 fun x hx => ?_
    obtain ⟨c', k1, k2, k3⟩ := h.here c hc (by omega) x hx
    unfold lackB
    rw [← k2, certOf_mem h.dig k1]
    simp [k3]
theorem before_take3 {d : Dag} (h : Valid d) {j : Nat} {c : Cert} (hc : d.certs[j]? = some c) : (∀ y ∈ d.certs.take j, y.before c.round c.author = true) ∧ (∀ y ∈ d.certs.take j, y.digest ≠ c.digest) := by
  obtain ⟨hj, rfl⟩ := List.getElem?_eq_some_iff.1 hc
  refine ⟨fun y hy => ?_, fun y hy e => ?_⟩
  · obtain ⟨i, hi, rfl⟩ := List.mem_take_iff_getElem.1 hy
    exact List.pairwise_iff_getElem.1 h.sorted i j (by omega) hj (by omega)
  · obtain ⟨i, hi, rfl⟩ := List.mem_take_iff_getElem.1 hy
    have := List.pairwise_iff_getElem.1 h.dig i j (by simp; omega) (by simp; omega) (by omega)
    simp at this
    exact this e
set_option maxHeartbeats 2000000 in
theorem rMayDag_true (d : Dag) (h : Valid d) : ACalls Tryz.prog 11 [d.av] [] (fun av L => av = .d (.bool true) ∧ L = []) := by
  have hcl := certsD_length d.certs
  have hlow := h.low
  have hlen := h.len
  have hnn := of_decide_eq_true h.nodes
  have hfd : few d.certs := by unfold few; omega
  refine acalls_go ttOk zOk foOk Tryz.func11 rfl Tryz.ntmps11 rfl false rfl ?_
  conv => whnf
  refine (rMay_ok d.nodes).mono ?_
  rintro _ _ ⟨rfl, rfl⟩
  rw [h.nodes]
  conv => whnf
  repeat' (first | ((with_reducible apply rd_intro); (focus (intro K hK; (conv => whnf); first | exact hK | (intro z hz; rw [wrapI (by omega)] at hz; subst hz; exact hK))); (conv => whnf)) | ((with_reducible apply gd_and); (focus ((conv => whnf) <;> first | rfl | (intro K hK; (conv => whnf); first | exact hK | (intro z hz; rw [wrapI (by omega)] at hz; subst hz; exact hK)))); (conv => whnf)) | ((with_reducible apply z_wrap); (focus omega); (conv => whnf)) | ((with_reducible first | apply mt_dec | apply mt_eq | apply mt_ne | apply mt_not | apply mt_any) <;> (intro _; conv => whnf)))
  · exfalso; omega
  · exfalso; omega
  · exfalso; omega
  · refine loop_go ttOk zOk foOk (σ := Nat) (fun j => ([(1, .ptr 0 0), (3, .d (.int .i64 j))], [.cells d.cells])) (fun j => j ≤ d.certs.length) (fun j => d.certs.length - j) [1, 3] ?_ ?_
    · conv => whnf
      exact ⟨0, rfl, rfl, Nat.zero_le _⟩
    · intro j hj
      conv => whnf
      repeat' (first | ((with_reducible apply rd_intro); (focus (intro K hK; (conv => whnf); first | exact hK | (intro z hz; rw [wrapI (by omega)] at hz; subst hz; exact hK))); (conv => whnf)) | ((with_reducible apply gd_and); (focus ((conv => whnf) <;> first | rfl | (intro K hK; (conv => whnf); first | exact hK | (intro z hz; rw [wrapI (by omega)] at hz; subst hz; exact hK)))); (conv => whnf)) | ((with_reducible apply z_wrap); (focus omega); (conv => whnf)) | ((with_reducible first | apply mt_dec | apply mt_eq | apply mt_ne | apply mt_not | apply mt_any) <;> (intro _; conv => whnf)))
      · rename_i hjl
        have hjn : j < d.certs.length := by omega
        refine Exists.elim (⟨_, List.getElem?_eq_getElem hjn⟩ : ∃ c, d.certs[j]? = some c) fun c hc => ?_
        have hcm := List.mem_of_getElem? hc
        have hcok := h.certs c hcm
        have hlo := h.above c hcm
        refine ⟨by omega, c.cs, certsD_at hc, ?_⟩
        conv => whnf
        repeat' (first | ((with_reducible apply rd_intro); (focus (intro K hK; (conv => whnf); first | exact hK | (intro z hz; rw [wrapI (by omega)] at hz; subst hz; exact hK))); (conv => whnf)) | ((with_reducible apply gd_and); (focus ((conv => whnf) <;> first | rfl | (intro K hK; (conv => whnf); first | exact hK | (intro z hz; rw [wrapI (by omega)] at hz; subst hz; exact hK)))); (conv => whnf)) | ((with_reducible apply z_wrap); (focus omega); (conv => whnf)) | ((with_reducible first | apply mt_dec | apply mt_eq | apply mt_ne | apply mt_not | apply mt_any) <;> (intro _; conv => whnf)))
        refine (rCert_ok c (h.fewL hcm) d.nodes).mono ?_
        rintro _ _ ⟨rfl, rfl⟩
        rw [@decide_eq_true _ (Classical.propDecidable _) hcok]
        conv => whnf
        repeat' (first | ((with_reducible apply rd_intro); (focus (intro K hK; (conv => whnf); first | exact hK | (intro z hz; rw [wrapI (by omega)] at hz; subst hz; exact hK))); (conv => whnf)) | ((with_reducible apply gd_and); (focus ((conv => whnf) <;> first | rfl | (intro K hK; (conv => whnf); first | exact hK | (intro z hz; rw [wrapI (by omega)] at hz; subst hz; exact hK)))); (conv => whnf)) | ((with_reducible apply z_wrap); (focus omega); (conv => whnf)) | ((with_reducible first | apply mt_dec | apply mt_eq | apply mt_ne | apply mt_not | apply mt_any) <;> (intro _; conv => whnf)))
        · exfalso; omega
        · rename_i hlow hj0
          have hj0' : 0 < j := by omega
          refine Exists.elim (⟨_, List.getElem?_eq_getElem (show j - 1 < d.certs.length by omega)⟩ : ∃ c, d.certs[j - 1]? = some c) fun c0 hc0 => ?_
          have hb : c0.before c.round c.author = true := (before_take3 h hc).1 c0 (List.mem_take_iff_getElem.2 ⟨j - 1, by omega, (List.getElem?_eq_some_iff.1 hc0).2⟩)
          refine ⟨by omega, c0.cs, (by rw [show ((j : Int) - 1).toNat = j - 1 by omega]; exact certsD_at hc0), ?_⟩
          conv => whnf
          repeat' (first | ((with_reducible apply rd_intro); (focus (intro K hK; (conv => whnf); first | exact hK | (intro z hz; rw [wrapI (by omega)] at hz; subst hz; exact hK))); (conv => whnf)) | ((with_reducible apply gd_and); (focus ((conv => whnf) <;> first | rfl | (intro K hK; (conv => whnf); first | exact hK | (intro z hz; rw [wrapI (by omega)] at hz; subst hz; exact hK)))); (conv => whnf)) | ((with_reducible apply z_wrap); (focus omega); (conv => whnf)) | ((with_reducible first | apply mt_dec | apply mt_eq | apply mt_ne | apply mt_not | apply mt_any) <;> (intro _; conv => whnf)))
          refine (rBefore_ok c0.round c0.author c.round c.author).mono ?_
          rintro _ _ ⟨rfl, rfl⟩
          rw [show decide (c0.round < c.round ∨ c0.round = c.round ∧ c0.author < c.author) = true from hb]
          conv => whnf
          refine loop_go ttOk zOk foOk (σ := Nat) (fun k => ([(1, .ptr 0 0), (3, .d (.int .i64 j)), (4, .ptr 1 0), (6, .d (.int .i64 k))], [.cells d.cells, .cells c.cells])) (fun k => k ≤ j) (fun k => j - k) [1, 3, 4, 6] ?_ ?_
          · conv => whnf
            exact ⟨0, rfl, rfl, by omega⟩
          · intro k hkj
            conv => whnf
            repeat' (first | ((with_reducible apply rd_intro); (focus (intro K hK; (conv => whnf); first | exact hK | (intro z hz; rw [wrapI (by omega)] at hz; subst hz; exact hK))); (conv => whnf)) | ((with_reducible apply gd_and); (focus ((conv => whnf) <;> first | rfl | (intro K hK; (conv => whnf); first | exact hK | (intro z hz; rw [wrapI (by omega)] at hz; subst hz; exact hK)))); (conv => whnf)) | ((with_reducible apply z_wrap); (focus omega); (conv => whnf)) | ((with_reducible first | apply mt_dec | apply mt_eq | apply mt_ne | apply mt_not | apply mt_any) <;> (intro _; conv => whnf)))
            · rename_i hkl
              have hkn : k < j := Int.ofNat_lt.1 hkl
              refine Exists.elim (⟨_, List.getElem?_eq_getElem (by omega)⟩ : ∃ c, d.certs[k]? = some c) fun c1 hc1 => ?_
              have hne : c1.digest ≠ c.digest := (before_take3 h hc).2 c1 (List.mem_take_iff_getElem.2 ⟨k, by omega, (List.getElem?_eq_some_iff.1 hc1).2⟩)
              ((with_reducible refine draw_pl ttOk zOk foOk mixedOk pl11x16 ?_ ?_); (focus kernel_rfl); (conv => whnf))
              repeat' (first | ((with_reducible apply rd_intro); (focus (intro K hK; (conv => whnf); first | exact hK | (intro z hz; rw [wrapI (by omega)] at hz; subst hz; exact hK))); (conv => whnf)) | ((with_reducible apply gd_and); (focus ((conv => whnf) <;> first | rfl | (intro K hK; (conv => whnf); first | exact hK | (intro z hz; rw [wrapI (by omega)] at hz; subst hz; exact hK)))); (conv => whnf)) | ((with_reducible apply z_wrap); (focus omega); (conv => whnf)) | ((with_reducible first | apply mt_dec | apply mt_eq | apply mt_ne | apply mt_not | apply mt_any) <;> (intro _; conv => whnf)))
              ((with_reducible apply rd_intro); (focus (intro K hK; (conv => whnf); exact ⟨by omega, c1.cs, certsD_at hc1, hK⟩)); (conv => whnf))
              repeat' (first | ((with_reducible apply rd_intro); (focus (intro K hK; (conv => whnf); first | exact hK | (intro z hz; rw [wrapI (by omega)] at hz; subst hz; exact hK))); (conv => whnf)) | ((with_reducible apply gd_and); (focus ((conv => whnf) <;> first | rfl | (intro K hK; (conv => whnf); first | exact hK | (intro z hz; rw [wrapI (by omega)] at hz; subst hz; exact hK)))); (conv => whnf)) | ((with_reducible apply z_wrap); (focus omega); (conv => whnf)) | ((with_reducible first | apply mt_dec | apply mt_eq | apply mt_ne | apply mt_not | apply mt_any) <;> (intro _; conv => whnf)))
              · rename_i he; exact absurd he hne
              · exact ⟨k + 1, rfl, rfl, by omega, by omega⟩
            · rename_i hkl
              have hkj : k = j := by omega
              subst hkj
              refine (rLacks_ok d hfd c (by have := hcok.head.pars.1; omega) hcok.head.round).mono ?_
              rintro _ _ ⟨rfl, rfl⟩
              rw [h.lacks hcm]
              conv => whnf
              repeat' (first | ((with_reducible apply rd_intro); (focus (intro K hK; (conv => whnf); first | exact hK | (intro z hz; rw [wrapI (by omega)] at hz; subst hz; exact hK))); (conv => whnf)) | ((with_reducible apply gd_and); (focus ((conv => whnf) <;> first | rfl | (intro K hK; (conv => whnf); first | exact hK | (intro z hz; rw [wrapI (by omega)] at hz; subst hz; exact hK)))); (conv => whnf)) | ((with_reducible apply z_wrap); (focus omega); (conv => whnf)) | ((with_reducible first | apply mt_dec | apply mt_eq | apply mt_ne | apply mt_not | apply mt_any) <;> (intro _; conv => whnf)))
              exact ⟨k + 1, rfl, rfl, by omega, by omega⟩
        · rename_i hlow hj0
          refine loop_go ttOk zOk foOk (σ := Nat) (fun k => ([(1, .ptr 0 0), (3, .d (.int .i64 j)), (4, .ptr 1 0), (6, .d (.int .i64 k))], [.cells d.cells, .cells c.cells])) (fun k => k ≤ j) (fun k => j - k) [1, 3, 4, 6] ?_ ?_
          · conv => whnf
            exact ⟨0, rfl, rfl, by omega⟩
          · intro k hkj
            conv => whnf
            repeat' (first | ((with_reducible apply rd_intro); (focus (intro K hK; (conv => whnf); first | exact hK | (intro z hz; rw [wrapI (by omega)] at hz; subst hz; exact hK))); (conv => whnf)) | ((with_reducible apply gd_and); (focus ((conv => whnf) <;> first | rfl | (intro K hK; (conv => whnf); first | exact hK | (intro z hz; rw [wrapI (by omega)] at hz; subst hz; exact hK)))); (conv => whnf)) | ((with_reducible apply z_wrap); (focus omega); (conv => whnf)) | ((with_reducible first | apply mt_dec | apply mt_eq | apply mt_ne | apply mt_not | apply mt_any) <;> (intro _; conv => whnf)))
            · rename_i hkl
              have hkn : k < j := Int.ofNat_lt.1 hkl
              refine Exists.elim (⟨_, List.getElem?_eq_getElem (by omega)⟩ : ∃ c, d.certs[k]? = some c) fun c1 hc1 => ?_
              have hne : c1.digest ≠ c.digest := (before_take3 h hc).2 c1 (List.mem_take_iff_getElem.2 ⟨k, by omega, (List.getElem?_eq_some_iff.1 hc1).2⟩)
              ((with_reducible refine draw_pl ttOk zOk foOk mixedOk pl11x16 ?_ ?_); (focus kernel_rfl); (conv => whnf))
              repeat' (first | ((with_reducible apply rd_intro); (focus (intro K hK; (conv => whnf); first | exact hK | (intro z hz; rw [wrapI (by omega)] at hz; subst hz; exact hK))); (conv => whnf)) | ((with_reducible apply gd_and); (focus ((conv => whnf) <;> first | rfl | (intro K hK; (conv => whnf); first | exact hK | (intro z hz; rw [wrapI (by omega)] at hz; subst hz; exact hK)))); (conv => whnf)) | ((with_reducible apply z_wrap); (focus omega); (conv => whnf)) | ((with_reducible first | apply mt_dec | apply mt_eq | apply mt_ne | apply mt_not | apply mt_any) <;> (intro _; conv => whnf)))
              ((with_reducible apply rd_intro); (focus (intro K hK; (conv => whnf); exact ⟨by omega, c1.cs, certsD_at hc1, hK⟩)); (conv => whnf))
              repeat' (first | ((with_reducible apply rd_intro); (focus (intro K hK; (conv => whnf); first | exact hK | (intro z hz; rw [wrapI (by omega)] at hz; subst hz; exact hK))); (conv => whnf)) | ((with_reducible apply gd_and); (focus ((conv => whnf) <;> first | rfl | (intro K hK; (conv => whnf); first | exact hK | (intro z hz; rw [wrapI (by omega)] at hz; subst hz; exact hK)))); (conv => whnf)) | ((with_reducible apply z_wrap); (focus omega); (conv => whnf)) | ((with_reducible first | apply mt_dec | apply mt_eq | apply mt_ne | apply mt_not | apply mt_any) <;> (intro _; conv => whnf)))
              · rename_i he; exact absurd he hne
              · exact ⟨k + 1, rfl, rfl, by omega, by omega⟩
            · rename_i hkl
              have hkj : k = j := by omega
              subst hkj
              refine (rLacks_ok d hfd c (by have := hcok.head.pars.1; omega) hcok.head.round).mono ?_
              rintro _ _ ⟨rfl, rfl⟩
              rw [h.lacks hcm]
              conv => whnf
              repeat' (first | ((with_reducible apply rd_intro); (focus (intro K hK; (conv => whnf); first | exact hK | (intro z hz; rw [wrapI (by omega)] at hz; subst hz; exact hK))); (conv => whnf)) | ((with_reducible apply gd_and); (focus ((conv => whnf) <;> first | rfl | (intro K hK; (conv => whnf); first | exact hK | (intro z hz; rw [wrapI (by omega)] at hz; subst hz; exact hK)))); (conv => whnf)) | ((with_reducible apply z_wrap); (focus omega); (conv => whnf)) | ((with_reducible first | apply mt_dec | apply mt_eq | apply mt_ne | apply mt_not | apply mt_any) <;> (intro _; conv => whnf)))
              exact ⟨k + 1, rfl, rfl, by omega, by omega⟩
      · exact ⟨rfl, rfl⟩
theorem rMayDag_full (d : Dag) (h : d.ok) : ACalls Tryz.prog 11 [d.av] [] (fun av L => av = .d (.bool (isV d)) ∧ L = []) := by
  by_cases hv : Valid d
  · rw [isV_yes hv]; exact rMayDag_true d hv
  · rw [isV_no hv]
    refine (rMayDag_ok d h).mono ?_
    rintro _ _ ⟨⟨b, rfl, hb⟩, rfl⟩
    cases b with
    | true => exact absurd (hb rfl) hv
    | false => exact ⟨rfl, rfl⟩
end Go.Proofs.YtoeppembokpjkaaGreat

namespace Go.Proofs.YtoeppembokpjkaaGreat
open Go.Ab Go.RowKit Go.MapKept
attribute [local irreducible] ACalls AW ADraw Into fltB fnear
set_option maxRecDepth 100000
/-! ## weights -/
def Cert.light (c : Cert) : Prop := c.bats.length ≤ 3000 ∧ c.pars.length ≤ 3000 ∧ c.sigs.length ≤ 3000
theorem certsW3_ok (l : List Cert) (hl : few l) (h : ∀ c ∈ l, c.ok) : ACalls Tryz.prog 58 [.d (.sl 6 (certsD l))] [] (fun av L => (∃ n : Int, av = .d (.int .i64 n) ∧ (n ≤ 3000 → ∀ c ∈ l, c.light)) ∧ L = []) := by
  have hcl := certsD_length l
  unfold few at hl
  refine acalls_go ttOk zOk foOk Tryz.func58 rfl Tryz.ntmps58 rfl false rfl ?_
  conv => whnf
  refine loop_go2 ttOk zOk foOk (σ := Int) (ρ := Nat) (fun w j => ([(0, .d (.sl 6 (certsD l))), (3, .d (.int .i64 w)), (4, .d (.int .i64 j))], [])) (fun w j => j ≤ l.length ∧ (0 ≤ w ∧ w ≤ 1000000000000000) ∧ (w ≤ 3000 → ∀ c ∈ l.take j, c.light)) (fun _ j => l.length - j) [0, 3, 4] ?_ ?_
  · conv => whnf
    exact ⟨l.length, 0, by rw [hcl]; rfl, rfl, by omega, ⟨by omega, by omega⟩, by simp⟩
  · rintro w j ⟨hj, ⟨hw0, hw1⟩, hall⟩
    conv => whnf
    rw [hcl]
    repeat' (first | ((with_reducible apply z_wrap); (focus omega); (conv => whnf)) | ((with_reducible first | apply mt_dec | apply mt_eq | apply mt_ne | apply mt_not | apply mt_any) <;> (intro _; conv => whnf)))
    · rename_i hjl hwl
      refine Exists.elim (⟨_, List.getElem?_eq_getElem (by omega)⟩ : ∃ c, l[j]? = some c) fun c hc => ?_
      have hk := h c (List.mem_of_getElem? hc)
      have h1 := hk.bats.1
      have h2 := hk.pars.1
      have h3 := hk.sigs.1
      unfold few at h1 h2 h3
      refine ⟨by omega, c.cs, certsD_at hc, ?_⟩
      conv => whnf
      refine (certW_ok c hk).mono ?_
      rintro _ _ ⟨rfl, rfl⟩
      conv => whnf
      repeat' (first | ((with_reducible apply z_wrap); (focus omega); (conv => whnf)) | ((with_reducible first | apply mt_dec | apply mt_eq | apply mt_ne | apply mt_not | apply mt_any) <;> (intro _; conv => whnf)))
      refine ⟨_, j + 1, rfl, rfl, ⟨by omega, ⟨by omega, by omega⟩, fun hw y hy => ?_⟩, by omega⟩
      rw [take_snoc' hc] at hy
      rcases List.mem_append.1 hy with hy | hy
      · exact hall (by omega) y hy
      · simp at hy; rw [hy]; exact ⟨by omega, by omega, by omega⟩
    · exact ⟨⟨_, rfl, fun hw => by omega⟩, rfl⟩
    · rw [List.take_of_length_le (by omega)] at hall
      exact ⟨⟨_, rfl, hall⟩, rfl⟩
theorem heavyD3_ok (d : Dag) (h : d.ok) : ACalls Tryz.prog 41 [d.av] [] (fun av L => (∃ b, av = .d (.bool b) ∧ (b = false → d.certs.length ≤ 80 ∧ ∀ c ∈ d.certs, c.light)) ∧ L = []) := by
  have hcl := certsD_length d.certs
  refine acalls_go ttOk zOk foOk Tryz.func41 rfl Tryz.ntmps41 rfl false rfl ?_
  conv => whnf
  rw [hcl]
  repeat' (first | ((with_reducible apply z_wrap); (focus omega); (conv => whnf)) | ((with_reducible first | apply mt_dec | apply mt_eq | apply mt_ne | apply mt_not | apply mt_any) <;> (intro _; conv => whnf)))
  · exact ⟨⟨_, rfl, by intro h; cases h⟩, rfl⟩
  · rename_i h80
    refine (certsW3_ok d.certs h.certs.1 h.certs.2).mono ?_
    rintro _ _ ⟨⟨n, rfl, hn⟩, rfl⟩
    conv => whnf
    exact ⟨⟨_, rfl, fun h3 => ⟨by omega, hn (by have := of_decide_eq_false h3; omega)⟩⟩, rfl⟩
theorem heavy3_ok (p : AskG) (h : p.ok) : ACalls Tryz.prog 8 [p.av] [] (fun av L => (∃ b, av = .d (.bool b) ∧ (b = false → (p.d.certs.length ≤ 80 ∧ ∀ c ∈ p.d.certs, c.light) ∧ ∀ j c, j < 6 → p.cs[j]? = some c → c.done.length ≤ 2000)) ∧ L = []) := by
  have hcl : (p.cs.map Cursor.cs).length = p.cs.length := List.length_map ..
  have hil := nums_length p.is
  have hc := h.cs.1
  unfold few at hc
  refine acalls_go ttOk zOk foOk Tryz.func8 rfl Tryz.ntmps8 rfl false rfl ?_
  conv => whnf
  refine loop_go2 ttOk zOk foOk (σ := Int) (ρ := Nat) (fun w j => ([(1, .ptr 0 0), (3, .d (.int .i64 w)), (4, .d (.int .i64 j))], [.cells p.cells])) (fun w j => j ≤ p.cs.length ∧ (0 ≤ w ∧ w ≤ 2000) ∧ ∀ i c, i < j → p.cs[i]? = some c → (c.done.length : Int) ≤ w) (fun _ j => p.cs.length - j) [1, 3, 4] ?_ ?_
  · conv => whnf
    exact ⟨0, 0, rfl, rfl, by omega, ⟨by omega, by omega⟩, fun i c h => by omega⟩
  · rintro w j ⟨hj, ⟨hw0, hw1⟩, hall⟩
    conv => whnf
    rw [hcl]
    repeat' (first | ((with_reducible apply z_wrap); (focus omega); (conv => whnf)) | ((with_reducible first | apply mt_dec | apply mt_eq | apply mt_ne | apply mt_not | apply mt_any) <;> (intro _; conv => whnf)))
    · rename_i hjl hwl
      refine Exists.elim (⟨_, List.getElem?_eq_getElem (by omega)⟩ : ∃ c, p.cs[j]? = some c) fun c hcj => ?_
      have h1 := (h.cs.2 c (List.mem_of_getElem? hcj)).done.1
      unfold few at h1
      have hdl := nums_length c.done
      ((with_reducible refine ix_map hcj ?_ ?_); (focus (first | rfl | omega)); (conv => whnf))
      rw [hdl]
      repeat' (first | ((with_reducible apply z_wrap); (focus omega); (conv => whnf)) | ((with_reducible first | apply mt_dec | apply mt_eq | apply mt_ne | apply mt_not | apply mt_any) <;> (intro _; conv => whnf)))
      · exact ⟨⟨_, rfl, by intro h; cases h⟩, rfl⟩
      · refine ⟨_, j + 1, rfl, rfl, ⟨by omega, ⟨by omega, by omega⟩, fun i y hi hy => ?_⟩, by omega⟩
        rcases Nat.lt_or_ge i j with h5 | h5
        · have := hall i y h5 hy; omega
        · have : i = j := by omega
          subst this
          rw [hcj] at hy; cases hy; omega
    all_goals
      have hall' : ∀ i c, i < 6 → p.cs[i]? = some c → c.done.length ≤ 2000 := by
        intro i y hi hy
        have h5 := (List.getElem?_eq_some_iff.1 hy).1
        have := hall i y (by omega) hy
        omega
      refine (heavyD3_ok p.d h.d).mono ?_
      rintro _ _ ⟨⟨b, rfl, hb⟩, rfl⟩
      cases b with
      | true =>
        conv => whnf
        exact ⟨⟨_, rfl, by intro h; cases h⟩, rfl⟩
      | false =>
        conv => whnf
        rw [hil]
        exact ⟨⟨_, rfl, fun h2 => ⟨hb rfl, hall'⟩⟩, rfl⟩
/-! ## whether any cursor may be -/
noncomputable def isM (c : Cursor) : Bool := @decide (curMay c) (Classical.propDecidable _)
theorem isM_yes {c : Cursor} (h : curMay c) : isM c = true := by unfold isM; exact @decide_eq_true _ (Classical.propDecidable _) h
theorem isM_no {c : Cursor} (h : ¬ curMay c) : isM c = false := by unfold isM; exact @decide_eq_false _ (Classical.propDecidable _) h
theorem isM_of {c : Cursor} {b : Bool} (h : b = true ↔ curMay c) : b = isM c := by
  cases b with
  | true => rw [isM_yes (h.1 rfl)]
  | false => rw [isM_no (fun h2 => by cases h.2 h2)]
theorem curMay_full (c : Cursor) (hf : few c.done) : ACalls Tryz.prog 55 [c.av] [] (fun av L => av = .d (.bool (isM c)) ∧ L = []) := by
  have hdg := digests_ok c.done hf
  refine acalls_go ttOk zOk foOk Tryz.func55 rfl Tryz.ntmps55 rfl false rfl ?_
  conv => whnf
  repeat' (first | ((with_reducible apply z_wrap); (focus omega); (conv => whnf)) | ((with_reducible first | apply mt_dec | apply mt_eq | apply mt_ne | apply mt_not | apply mt_any) <;> (intro _; conv => whnf)))
  · rename_i h1 h2
    refine ⟨by decide, ?_⟩
    intro z hz
    have hz2 : z = c.round % 2 := tmod_pos (by omega) hz
    clear hz
    subst hz2
    conv => whnf
    repeat' (first | ((with_reducible apply z_wrap); (focus omega); (conv => whnf)) | ((with_reducible first | apply mt_dec | apply mt_eq | apply mt_ne | apply mt_not | apply mt_any) <;> (intro _; conv => whnf)))
    · rename_i h3
      refine hdg.mono ?_
      rintro _ _ ⟨rfl, rfl⟩
      by_cases h4 : riseB c.done 1 65536
      · rw [@decide_eq_true _ (Classical.propDecidable _) h4]
        conv => whnf
        repeat' (first | ((with_reducible apply z_wrap); (focus omega); (conv => whnf)) | ((with_reducible first | apply mt_dec | apply mt_eq | apply mt_ne | apply mt_not | apply mt_any) <;> (intro _; conv => whnf)))
        · rename_i h5
          refine ⟨congrArg (fun b => AV.d (.bool b)) (isM_of ?_), rfl⟩
          rw [decide_eq_true_iff]
          exact ⟨fun h6 => ⟨⟨by omega, by omega, h3⟩, h4, h5, h6⟩, fun h => h.count.2⟩
        · rename_i h5
          exact ⟨by rw [isM_no fun h => h5 h.count.1]; rfl, rfl⟩
      · rw [@decide_eq_false _ (Classical.propDecidable _) h4]
        conv => whnf
        exact ⟨by rw [isM_no fun h => h4 h.done]; rfl, rfl⟩
    · rename_i h3
      exact ⟨by rw [isM_no fun h => h3 h.round.2.2]; rfl, rfl⟩
  · rename_i h1 h2
    exact ⟨by rw [isM_no fun h => h2 h.round.2.1]; rfl, rfl⟩
  · rename_i h1
    exact ⟨by rw [isM_no fun h => h1 h.round.1]; rfl, rfl⟩
theorem rNum_ok (n : Int) : ACalls Tryz.prog 44 [.d (.int .i64 n)] [] (fun av L => av = .d (.bool (decide (0 ≤ n ∧ n ≤ 1099511627776))) ∧ L = []) := by
  refine acalls_go ttOk zOk foOk Tryz.func44 rfl Tryz.ntmps44 rfl false rfl ?_
  conv => whnf
  repeat' (first | ((with_reducible apply z_wrap); (focus omega); (conv => whnf)) | ((with_reducible first | apply mt_dec | apply mt_eq | apply mt_ne | apply mt_not | apply mt_any) <;> (intro _; conv => whnf)))
  · rename_i h1
    exact ⟨boolEq (by simp; omega), rfl⟩
  · rename_i h1
    exact ⟨by rw [decide_eq_false (by omega)]; rfl, rfl⟩
theorem rCurMay_full (c : Cursor) (hf : few c.done) : ACalls Tryz.prog 10 [c.av] [] (fun av L => av = .d (.bool (isM c)) ∧ L = []) := by
  have hdg := rDigests_ok c.done hf
  have hri := rRising_ok c.done hf
  have hnu := rNum_ok c.count
  refine acalls_go ttOk zOk foOk Tryz.func10 rfl Tryz.ntmps10 rfl false rfl ?_
  conv => whnf
  repeat' (first | ((with_reducible apply z_wrap); (focus omega); (conv => whnf)) | ((with_reducible first | apply mt_dec | apply mt_eq | apply mt_ne | apply mt_not | apply mt_any) <;> (intro _; conv => whnf)))
  · rename_i h1 h2
    refine ⟨by decide, ?_⟩
    intro z hz
    have hz2 : z = c.round % 2 := tmod_pos (by omega) hz
    clear hz
    subst hz2
    conv => whnf
    repeat' (first | ((with_reducible apply z_wrap); (focus omega); (conv => whnf)) | ((with_reducible first | apply mt_dec | apply mt_eq | apply mt_ne | apply mt_not | apply mt_any) <;> (intro _; conv => whnf)))
    · rename_i h3
      refine hdg.mono ?_
      rintro _ _ ⟨rfl, rfl⟩
      by_cases h4 : ∀ x ∈ c.done, 1 ≤ x ∧ x ≤ 65536
      · rw [decide_eq_true h4]
        conv => whnf
        repeat' (first | ((with_reducible apply z_wrap); (focus omega); (conv => whnf)) | ((with_reducible first | apply mt_dec | apply mt_eq | apply mt_ne | apply mt_not | apply mt_any) <;> (intro _; conv => whnf)))
        refine hri.mono ?_
        rintro _ _ ⟨rfl, rfl⟩
        by_cases h5 : risingI c.done
        · rw [@decide_eq_true _ (Classical.propDecidable _) h5]
          conv => whnf
          repeat' (first | ((with_reducible apply z_wrap); (focus omega); (conv => whnf)) | ((with_reducible first | apply mt_dec | apply mt_eq | apply mt_ne | apply mt_not | apply mt_any) <;> (intro _; conv => whnf)))
          refine hnu.mono ?_
          rintro _ _ ⟨rfl, rfl⟩
          conv => whnf
          refine ⟨congrArg (fun b => AV.d (.bool b)) (isM_of ?_), rfl⟩
          rw [decide_eq_true_iff]
          exact ⟨fun h6 => ⟨⟨by omega, by omega, h3⟩, ⟨h5, h4⟩, h6⟩, fun h => h.count⟩
        · rw [@decide_eq_false _ (Classical.propDecidable _) h5]
          conv => whnf
          exact ⟨by rw [isM_no fun h => h5 h.done.1]; rfl, rfl⟩
      · rw [decide_eq_false h4]
        conv => whnf
        exact ⟨by rw [isM_no fun h => h4 h.done.2]; rfl, rfl⟩
    · rename_i h3
      exact ⟨by rw [isM_no fun h => h3 h.round.2.2]; rfl, rfl⟩
  · rename_i h1 h2
    exact ⟨by rw [isM_no fun h => h2 h.round.2.1]; rfl, rfl⟩
  · rename_i h1
    exact ⟨by rw [isM_no fun h => h1 h.round.1]; rfl, rfl⟩
noncomputable def chk (c : Cursor) : Int := if isM c then 0 else 1
theorem curCheck_full (c : Cursor) (hf : few c.done) : ACalls Tryz.prog 16 [c.av] [] (fun av L => av = .d (.int .i64 (chk c)) ∧ L = []) := by
  have hm := curMay_full c hf
  unfold chk
  refine acalls_go ttOk zOk foOk Tryz.func16 rfl Tryz.ntmps16 rfl false rfl ?_
  conv => whnf
  refine hm.mono ?_
  rintro _ _ ⟨rfl, rfl⟩
  cases hb : isM c with
  | true => conv => whnf
            exact ⟨rfl, rfl⟩
  | false => conv => whnf
             exact ⟨rfl, rfl⟩
end Go.Proofs.YtoeppembokpjkaaGreat

namespace Go.Proofs.YtoeppembokpjkaaGreat
open Go.Ab Go.RowKit Go.MapKept
attribute [local irreducible] ACalls AW ADraw Into fltB fnear
set_option maxRecDepth 100000
/-! ## comparisons -/
theorem eqNumbers_raw (xs ys : List Int) (hm : few xs) : ACalls Tryz.prog 18 [.arr 0, .d (.sl 1 (nums ys))] [.row 3 1 (nums xs) false] (fun av L => av = .d (.bool (decide (xs = ys))) ∧ L = [.row 3 1 (nums xs) false]) := by
  have hx := nums_length xs
  have hy := nums_length ys
  unfold few at hm
  refine acalls_go ttOk zOk foOk Tryz.func18 rfl Tryz.ntmps18 rfl true rfl ?_
  conv => whnf
  rw [hx, hy]
  repeat' (first | ((with_reducible apply rd_intro); (focus (intro K hK; (conv => whnf); first | exact hK | (intro z hz; rw [wrapI (by omega)] at hz; subst hz; exact hK))); (conv => whnf)) | ((with_reducible apply gd_and); (focus ((conv => whnf) <;> first | rfl | (intro K hK; (conv => whnf); first | exact hK | (intro z hz; rw [wrapI (by omega)] at hz; subst hz; exact hK)))); (conv => whnf)) | ((with_reducible apply z_wrap); (focus omega); (conv => whnf)) | ((with_reducible first | apply mt_dec | apply mt_eq | apply mt_ne | apply mt_not | apply mt_any) <;> (intro _; conv => whnf)))
  · rename_i h
    rw [decide_eq_false (fun e => h (by rw [e]))]
    exact ⟨rfl, rfl⟩
  · rename_i h
    have hl : xs.length = ys.length := by omega
    refine loop_go ttOk zOk foOk (σ := Nat) (fun k => ([(0, .arr 0), (1, .d (.sl 1 (nums ys))), (5, .d (.int .i64 k))], [.row 3 1 (nums xs) false])) (fun k => k ≤ xs.length ∧ xs.take k = ys.take k) (fun k => xs.length - k) [0, 1, 5] ?_ ?_
    · conv => whnf
      exact ⟨0, rfl, rfl, by simp⟩
    · rintro k ⟨hk, he⟩
      conv => whnf
      rw [hx]
      repeat' (first | ((with_reducible apply rd_intro); (focus (intro K hK; (conv => whnf); first | exact hK | (intro z hz; rw [wrapI (by omega)] at hz; subst hz; exact hK))); (conv => whnf)) | ((with_reducible apply gd_and); (focus ((conv => whnf) <;> first | rfl | (intro K hK; (conv => whnf); first | exact hK | (intro z hz; rw [wrapI (by omega)] at hz; subst hz; exact hK)))); (conv => whnf)) | ((with_reducible apply z_wrap); (focus omega); (conv => whnf)) | ((with_reducible first | apply mt_dec | apply mt_eq | apply mt_ne | apply mt_not | apply mt_any) <;> (intro _; conv => whnf)))
      · rename_i h
        refine Exists.elim (⟨_, List.getElem?_eq_getElem (by omega)⟩ : ∃ a, xs[k]? = some a) fun a ha => ?_
        refine Exists.elim (⟨_, List.getElem?_eq_getElem (by omega)⟩ : ∃ b, ys[k]? = some b) fun b hb => ?_
        ((with_reducible refine draw_pl ttOk zOk foOk mixedOk pl18x6 ?_ ?_); (focus kernel_rfl); (conv => whnf))
        repeat' (first | ((with_reducible apply rd_intro); (focus (intro K hK; (conv => whnf); first | exact hK | (intro z hz; rw [wrapI (by omega)] at hz; subst hz; exact hK))); (conv => whnf)) | ((with_reducible apply gd_and); (focus ((conv => whnf) <;> first | rfl | (intro K hK; (conv => whnf); first | exact hK | (intro z hz; rw [wrapI (by omega)] at hz; subst hz; exact hK)))); (conv => whnf)) | ((with_reducible apply z_wrap); (focus omega); (conv => whnf)) | ((with_reducible first | apply mt_dec | apply mt_eq | apply mt_ne | apply mt_not | apply mt_any) <;> (intro _; conv => whnf)))
        ((with_reducible apply rd_intro); (focus (intro K hK; (conv => whnf); exact ⟨by omega, by rw [hx]; omega, hK⟩)); (conv => whnf))
        repeat' (first | ((with_reducible apply rd_intro); (focus (intro K hK; (conv => whnf); first | exact hK | (intro z hz; rw [wrapI (by omega)] at hz; subst hz; exact hK))); (conv => whnf)) | ((with_reducible apply gd_and); (focus ((conv => whnf) <;> first | rfl | (intro K hK; (conv => whnf); first | exact hK | (intro z hz; rw [wrapI (by omega)] at hz; subst hz; exact hK)))); (conv => whnf)) | ((with_reducible apply z_wrap); (focus omega); (conv => whnf)) | ((with_reducible first | apply mt_dec | apply mt_eq | apply mt_ne | apply mt_not | apply mt_any) <;> (intro _; conv => whnf)))
        ((with_reducible apply rd_intro); (focus (intro K hK; (conv => whnf); exact ⟨_, nums_at ha, hK⟩)); (conv => whnf))
        repeat' (first | ((with_reducible apply rd_intro); (focus (intro K hK; (conv => whnf); first | exact hK | (intro z hz; rw [wrapI (by omega)] at hz; subst hz; exact hK))); (conv => whnf)) | ((with_reducible apply gd_and); (focus ((conv => whnf) <;> first | rfl | (intro K hK; (conv => whnf); first | exact hK | (intro z hz; rw [wrapI (by omega)] at hz; subst hz; exact hK)))); (conv => whnf)) | ((with_reducible apply z_wrap); (focus omega); (conv => whnf)) | ((with_reducible first | apply mt_dec | apply mt_eq | apply mt_ne | apply mt_not | apply mt_any) <;> (intro _; conv => whnf)))
        ((with_reducible apply rd_intro); (focus (intro K hK; (conv => whnf); exact ⟨by omega, [.int .i64 b], nums_at hb, hK⟩)); (conv => whnf))
        repeat' (first | ((with_reducible apply rd_intro); (focus (intro K hK; (conv => whnf); first | exact hK | (intro z hz; rw [wrapI (by omega)] at hz; subst hz; exact hK))); (conv => whnf)) | ((with_reducible apply gd_and); (focus ((conv => whnf) <;> first | rfl | (intro K hK; (conv => whnf); first | exact hK | (intro z hz; rw [wrapI (by omega)] at hz; subst hz; exact hK)))); (conv => whnf)) | ((with_reducible apply z_wrap); (focus omega); (conv => whnf)) | ((with_reducible first | apply mt_dec | apply mt_eq | apply mt_ne | apply mt_not | apply mt_any) <;> (intro _; conv => whnf)))
        · rename_i h
          rw [decide_eq_false (fun e => by subst e; rw [ha] at hb; cases hb; exact h rfl)]
          exact ⟨rfl, rfl⟩
        · rename_i h
          exact ⟨k + 1, rfl, rfl, ⟨by omega, (take_succ_eq ha hb he).2 (by omega)⟩, by omega⟩
      · rename_i h
        obtain rfl : k = xs.length := by omega
        rw [decide_eq_true (by rw [List.take_length, hl, List.take_length] at he; exact he)]
        exact ⟨rfl, rfl⟩
theorem eqCursor_raw (r q : Int) (xs ys : List Int) (a b : Int) (hm : few xs) : ACalls Tryz.prog 17 [.agg [.d (.int .i64 r), .arr 0, .d (.int .i64 a)], .agg [.d (.int .i64 q), .d (.sl 1 (nums ys)), .d (.int .i64 b)]] [.row 3 1 (nums xs) false] (fun av L => av = .d (.bool (decide (r = q ∧ xs = ys ∧ a = b))) ∧ L = [.row 3 1 (nums xs) false]) := by
  have hen := eqNumbers_raw xs ys hm
  refine acalls_go ttOk zOk foOk Tryz.func17 rfl Tryz.ntmps17 rfl true rfl ?_
  conv => whnf
  repeat' (first | ((with_reducible apply rd_intro); (focus (intro K hK; (conv => whnf); first | exact hK | (intro z hz; rw [wrapI (by omega)] at hz; subst hz; exact hK))); (conv => whnf)) | ((with_reducible apply gd_and); (focus ((conv => whnf) <;> first | rfl | (intro K hK; (conv => whnf); first | exact hK | (intro z hz; rw [wrapI (by omega)] at hz; subst hz; exact hK)))); (conv => whnf)) | ((with_reducible apply z_wrap); (focus omega); (conv => whnf)) | ((with_reducible first | apply mt_dec | apply mt_eq | apply mt_ne | apply mt_not | apply mt_any) <;> (intro _; conv => whnf)))
  · rename_i h1
    (refine Or.inr ?_; (conv => whnf))
    refine hen.mono ?_
    rintro _ _ ⟨rfl, rfl⟩
    by_cases h2 : xs = ys
    · rw [decide_eq_true h2]
      conv => whnf
      repeat' (first | ((with_reducible apply rd_intro); (focus (intro K hK; (conv => whnf); first | exact hK | (intro z hz; rw [wrapI (by omega)] at hz; subst hz; exact hK))); (conv => whnf)) | ((with_reducible apply gd_and); (focus ((conv => whnf) <;> first | rfl | (intro K hK; (conv => whnf); first | exact hK | (intro z hz; rw [wrapI (by omega)] at hz; subst hz; exact hK)))); (conv => whnf)) | ((with_reducible apply z_wrap); (focus omega); (conv => whnf)) | ((with_reducible first | apply mt_dec | apply mt_eq | apply mt_ne | apply mt_not | apply mt_any) <;> (intro _; conv => whnf)))
      exact ⟨by by_cases h3 : a = b <;> simp [h1, h2, h3], rfl⟩
    · rw [decide_eq_false h2]
      conv => whnf
      exact ⟨by rw [decide_eq_false (fun h => h2 h.2.1)]; rfl, rfl⟩
  · rename_i h1
    exact ⟨by rw [decide_eq_false (fun h => h1 h.1)]; rfl, rfl⟩
theorem eqHeader_same (c : Cert) (h : fewL c) : ACalls Tryz.prog 94 [c.hav, c.hav] [] (fun av L => av = .d (.bool true) ∧ L = []) := by
  have h1 := eqNumbers_ok c.bats c.bats h.bats
  have h2 := eqNumbers_ok c.pars c.pars h.pars
  rw [decide_eq_true rfl] at h1 h2
  refine acalls_go ttOk zOk foOk Tryz.func94 rfl Tryz.ntmps94 rfl false rfl ?_
  conv => whnf
  repeat' (first | ((with_reducible apply rd_intro); (focus (intro K hK; (conv => whnf); first | exact hK | (intro z hz; rw [wrapI (by omega)] at hz; subst hz; exact hK))); (conv => whnf)) | ((with_reducible apply gd_and); (focus ((conv => whnf) <;> first | rfl | (intro K hK; (conv => whnf); first | exact hK | (intro z hz; rw [wrapI (by omega)] at hz; subst hz; exact hK)))); (conv => whnf)) | ((with_reducible apply z_wrap); (focus omega); (conv => whnf)) | ((with_reducible first | apply mt_dec | apply mt_eq | apply mt_ne | apply mt_not | apply mt_any) <;> (intro _; conv => whnf)))
  · refine h1.mono ?_
    rintro _ _ ⟨rfl, rfl⟩
    conv => whnf
    repeat' (first | ((with_reducible apply rd_intro); (focus (intro K hK; (conv => whnf); first | exact hK | (intro z hz; rw [wrapI (by omega)] at hz; subst hz; exact hK))); (conv => whnf)) | ((with_reducible apply gd_and); (focus ((conv => whnf) <;> first | rfl | (intro K hK; (conv => whnf); first | exact hK | (intro z hz; rw [wrapI (by omega)] at hz; subst hz; exact hK)))); (conv => whnf)) | ((with_reducible apply z_wrap); (focus omega); (conv => whnf)) | ((with_reducible first | apply mt_dec | apply mt_eq | apply mt_ne | apply mt_not | apply mt_any) <;> (intro _; conv => whnf)))
    refine h2.mono ?_
    rintro _ _ ⟨rfl, rfl⟩
    conv => whnf
    exact ⟨rfl, rfl⟩
  all_goals (rename_i hx; exact absurd rfl hx)
theorem eqCert_same (c : Cert) (h : fewL c) : ACalls Tryz.prog 64 [c.av, c.av] [] (fun av L => av = .d (.bool true) ∧ L = []) := by
  have h1 := eqHeader_same c h
  have h2 := eqNumbers_ok c.sigs c.sigs h.sigs
  rw [decide_eq_true rfl] at h2
  refine acalls_go ttOk zOk foOk Tryz.func64 rfl Tryz.ntmps64 rfl false rfl ?_
  conv => whnf
  refine h1.mono ?_
  rintro _ _ ⟨rfl, rfl⟩
  conv => whnf
  repeat' (first | ((with_reducible apply rd_intro); (focus (intro K hK; (conv => whnf); first | exact hK | (intro z hz; rw [wrapI (by omega)] at hz; subst hz; exact hK))); (conv => whnf)) | ((with_reducible apply gd_and); (focus ((conv => whnf) <;> first | rfl | (intro K hK; (conv => whnf); first | exact hK | (intro z hz; rw [wrapI (by omega)] at hz; subst hz; exact hK)))); (conv => whnf)) | ((with_reducible apply z_wrap); (focus omega); (conv => whnf)) | ((with_reducible first | apply mt_dec | apply mt_eq | apply mt_ne | apply mt_not | apply mt_any) <;> (intro _; conv => whnf)))
  · refine h2.mono ?_
    rintro _ _ ⟨rfl, rfl⟩
    conv => whnf
    exact ⟨rfl, rfl⟩
  all_goals (rename_i hx; exact absurd rfl hx)
theorem eqCerts_same (l : List Cert) (hl : few l) (h : ∀ c ∈ l, fewL c) : ACalls Tryz.prog 28 [.d (.sl 6 (certsD l)), .d (.sl 6 (certsD l))] [] (fun av L => av = .d (.bool true) ∧ L = []) := by
  have hcl := certsD_length l
  unfold few at hl
  refine acalls_go ttOk zOk foOk Tryz.func28 rfl Tryz.ntmps28 rfl false rfl ?_
  conv => whnf
  repeat' (first | ((with_reducible apply rd_intro); (focus (intro K hK; (conv => whnf); first | exact hK | (intro z hz; rw [wrapI (by omega)] at hz; subst hz; exact hK))); (conv => whnf)) | ((with_reducible apply gd_and); (focus ((conv => whnf) <;> first | rfl | (intro K hK; (conv => whnf); first | exact hK | (intro z hz; rw [wrapI (by omega)] at hz; subst hz; exact hK)))); (conv => whnf)) | ((with_reducible apply z_wrap); (focus omega); (conv => whnf)) | ((with_reducible first | apply mt_dec | apply mt_eq | apply mt_ne | apply mt_not | apply mt_any) <;> (intro _; conv => whnf)))
  · rename_i hx; exact absurd rfl hx
  · refine loop_go ttOk zOk foOk (σ := Nat) (fun k => ([(0, .d (.sl 6 (certsD l))), (1, .d (.sl 6 (certsD l))), (5, .d (.int .i64 k))], [])) (fun k => k ≤ l.length) (fun k => l.length - k) [0, 1, 5] ?_ ?_
    · conv => whnf
      exact ⟨0, rfl, rfl, by omega⟩
    · intro k hk
      conv => whnf
      rw [hcl]
      repeat' (first | ((with_reducible apply rd_intro); (focus (intro K hK; (conv => whnf); first | exact hK | (intro z hz; rw [wrapI (by omega)] at hz; subst hz; exact hK))); (conv => whnf)) | ((with_reducible apply gd_and); (focus ((conv => whnf) <;> first | rfl | (intro K hK; (conv => whnf); first | exact hK | (intro z hz; rw [wrapI (by omega)] at hz; subst hz; exact hK)))); (conv => whnf)) | ((with_reducible apply z_wrap); (focus omega); (conv => whnf)) | ((with_reducible first | apply mt_dec | apply mt_eq | apply mt_ne | apply mt_not | apply mt_any) <;> (intro _; conv => whnf)))
      · rename_i hkl
        refine Exists.elim (⟨_, List.getElem?_eq_getElem (by omega)⟩ : ∃ c, l[k]? = some c) fun c hc => ?_
        have h1 := eqCert_same c (h c (List.mem_of_getElem? hc))
        ((with_reducible refine draw_pl ttOk zOk foOk mixedOk pl28x6 ?_ ?_); (focus kernel_rfl); (conv => whnf))
        repeat' (first | ((with_reducible apply rd_intro); (focus (intro K hK; (conv => whnf); first | exact hK | (intro z hz; rw [wrapI (by omega)] at hz; subst hz; exact hK))); (conv => whnf)) | ((with_reducible apply gd_and); (focus ((conv => whnf) <;> first | rfl | (intro K hK; (conv => whnf); first | exact hK | (intro z hz; rw [wrapI (by omega)] at hz; subst hz; exact hK)))); (conv => whnf)) | ((with_reducible apply z_wrap); (focus omega); (conv => whnf)) | ((with_reducible first | apply mt_dec | apply mt_eq | apply mt_ne | apply mt_not | apply mt_any) <;> (intro _; conv => whnf)))
        ((with_reducible apply rd_intro); (focus (intro K hK; (conv => whnf); exact ⟨by omega, c.cs, certsD_at hc, hK⟩)); (conv => whnf))
        repeat' (first | ((with_reducible apply rd_intro); (focus (intro K hK; (conv => whnf); first | exact hK | (intro z hz; rw [wrapI (by omega)] at hz; subst hz; exact hK))); (conv => whnf)) | ((with_reducible apply gd_and); (focus ((conv => whnf) <;> first | rfl | (intro K hK; (conv => whnf); first | exact hK | (intro z hz; rw [wrapI (by omega)] at hz; subst hz; exact hK)))); (conv => whnf)) | ((with_reducible apply z_wrap); (focus omega); (conv => whnf)) | ((with_reducible first | apply mt_dec | apply mt_eq | apply mt_ne | apply mt_not | apply mt_any) <;> (intro _; conv => whnf)))
        ((with_reducible apply rd_intro); (focus (intro K hK; (conv => whnf); exact ⟨by omega, c.cs, certsD_at hc, hK⟩)); (conv => whnf))
        repeat' (first | ((with_reducible apply rd_intro); (focus (intro K hK; (conv => whnf); first | exact hK | (intro z hz; rw [wrapI (by omega)] at hz; subst hz; exact hK))); (conv => whnf)) | ((with_reducible apply gd_and); (focus ((conv => whnf) <;> first | rfl | (intro K hK; (conv => whnf); first | exact hK | (intro z hz; rw [wrapI (by omega)] at hz; subst hz; exact hK)))); (conv => whnf)) | ((with_reducible apply z_wrap); (focus omega); (conv => whnf)) | ((with_reducible first | apply mt_dec | apply mt_eq | apply mt_ne | apply mt_not | apply mt_any) <;> (intro _; conv => whnf)))
        refine h1.mono ?_
        rintro _ _ ⟨rfl, rfl⟩
        conv => whnf
        repeat' (first | ((with_reducible apply rd_intro); (focus (intro K hK; (conv => whnf); first | exact hK | (intro z hz; rw [wrapI (by omega)] at hz; subst hz; exact hK))); (conv => whnf)) | ((with_reducible apply gd_and); (focus ((conv => whnf) <;> first | rfl | (intro K hK; (conv => whnf); first | exact hK | (intro z hz; rw [wrapI (by omega)] at hz; subst hz; exact hK)))); (conv => whnf)) | ((with_reducible apply z_wrap); (focus omega); (conv => whnf)) | ((with_reducible first | apply mt_dec | apply mt_eq | apply mt_ne | apply mt_not | apply mt_any) <;> (intro _; conv => whnf)))
        exact ⟨k + 1, rfl, rfl, by omega, by omega⟩
      · exact ⟨rfl, rfl⟩
theorem eqDag_same (d : Dag) (hl : few d.certs) (h : ∀ c ∈ d.certs, fewL c) : ACalls Tryz.prog 19 [d.av, d.av] [] (fun av L => av = .d (.bool true) ∧ L = []) := by
  have h1 := eqCerts_same d.certs hl h
  refine acalls_go ttOk zOk foOk Tryz.func19 rfl Tryz.ntmps19 rfl false rfl ?_
  conv => whnf
  repeat' (first | ((with_reducible apply rd_intro); (focus (intro K hK; (conv => whnf); first | exact hK | (intro z hz; rw [wrapI (by omega)] at hz; subst hz; exact hK))); (conv => whnf)) | ((with_reducible apply gd_and); (focus ((conv => whnf) <;> first | rfl | (intro K hK; (conv => whnf); first | exact hK | (intro z hz; rw [wrapI (by omega)] at hz; subst hz; exact hK)))); (conv => whnf)) | ((with_reducible apply z_wrap); (focus omega); (conv => whnf)) | ((with_reducible first | apply mt_dec | apply mt_eq | apply mt_ne | apply mt_not | apply mt_any) <;> (intro _; conv => whnf)))
  · refine h1.mono ?_
    rintro _ _ ⟨rfl, rfl⟩
    conv => whnf
    exact ⟨rfl, rfl⟩
  all_goals (rename_i hx; exact absurd rfl hx)
theorem copyDag_ok (d : Dag) (hl : tiny d.certs) (h : ∀ c ∈ d.certs, c.tiny) : ACalls Tryz.prog 9 [d.av] [] (fun av L => av = d.av ∧ L = []) := by
  refine acalls_go ttOk zOk foOk Tryz.func9 rfl Tryz.ntmps9 rfl false rfl ?_
  conv => whnf
  refine (copyCerts_ok d.certs hl h).mono ?_
  rintro _ _ ⟨rfl, rfl⟩
  conv => whnf
  repeat' (first | ((with_reducible apply rd_intro); (focus (intro K hK; (conv => whnf); first | exact hK | (intro z hz; rw [wrapI (by omega)] at hz; subst hz; exact hK))); (conv => whnf)) | ((with_reducible apply gd_and); (focus ((conv => whnf) <;> first | rfl | (intro K hK; (conv => whnf); first | exact hK | (intro z hz; rw [wrapI (by omega)] at hz; subst hz; exact hK)))); (conv => whnf)) | ((with_reducible apply z_wrap); (focus omega); (conv => whnf)) | ((with_reducible first | apply mt_dec | apply mt_eq | apply mt_ne | apply mt_not | apply mt_any) <;> (intro _; conv => whnf)))
  exact ⟨rfl, rfl⟩
/-! ## spoiling -/
theorem spoil_ok (xs : List Int) (hm : xs.length ≤ 8000000000) : ACalls Tryz.prog 20 [.arr 0] [.row 3 1 (nums xs) false] (fun av L => av = .tup [] ∧ L = [.dead]) := by
  refine acalls_go ttOk zOk foOk Tryz.func20 rfl Tryz.ntmps20 rfl true rfl ?_
  conv => whnf
  refine loop_go2 ttOk zOk foOk (σ := Nat) (ρ := List Int) (fun k ys => ([(0, .arr 0), (2, .d (.int .i64 k))], [.row 3 1 (nums ys) false])) (fun k ys => k ≤ xs.length ∧ ys.length = xs.length) (fun k _ => xs.length - k) [0, 2] ?_ ?_
  · conv => whnf
    exact ⟨0, xs, rfl, rfl, by omega, rfl⟩
  · rintro k ys ⟨hk, hl⟩
    have hll := nums_length ys
    conv => whnf
    repeat' (first | ((with_reducible apply rd_intro); (focus (intro K hK; (conv => whnf); first | exact hK | (intro z hz; rw [wrapI (by omega)] at hz; subst hz; exact hK))); (conv => whnf)) | ((with_reducible apply gd_and); (focus ((conv => whnf) <;> first | rfl | (intro K hK; (conv => whnf); first | exact hK | (intro z hz; rw [wrapI (by omega)] at hz; subst hz; exact hK)))); (conv => whnf)) | ((with_reducible apply z_wrap); (focus omega); (conv => whnf)) | ((with_reducible first | apply mt_dec | apply mt_eq | apply mt_ne | apply mt_not | apply mt_any) <;> (intro _; conv => whnf)))
    · rename_i h
      refine ⟨by omega, by rw [hll]; show k < _; omega, ?_⟩
      conv => whnf
      refine Exists.elim (⟨_, List.getElem?_eq_getElem (by omega)⟩ : ∃ y, ys[k]? = some y) fun y hy => ?_
      refine ⟨[.int .i64 y], nums_at hy, ?_⟩
      conv => whnf
      repeat' (first | ((with_reducible apply rd_intro); (focus (intro K hK; (conv => whnf); first | exact hK | (intro z hz; rw [wrapI (by omega)] at hz; subst hz; exact hK))); (conv => whnf)) | ((with_reducible apply gd_and); (focus ((conv => whnf) <;> first | rfl | (intro K hK; (conv => whnf); first | exact hK | (intro z hz; rw [wrapI (by omega)] at hz; subst hz; exact hK)))); (conv => whnf)) | ((with_reducible apply z_wrap); (focus omega); (conv => whnf)) | ((with_reducible first | apply mt_dec | apply mt_eq | apply mt_ne | apply mt_not | apply mt_any) <;> (intro _; conv => whnf)))
      refine ⟨k + 1, ys.set k (-99), rfl, ?_, ⟨by omega, by simpa using hl⟩, by omega⟩
      simp [nums, List.map_set]
    · rename_i h
      refine ⟨by rw [nums_length, List.length_singleton]; show (_ + 1) * 8 ≤ _; omega, ?_⟩
      conv => whnf
      exact ⟨rfl, rfl⟩
theorem spoil_nil : ACalls Tryz.prog 20 [.d .nils] [] (fun av L => av = .tup [] ∧ L = []) := by
  refine acalls_go ttOk zOk foOk Tryz.func20 rfl Tryz.ntmps20 rfl false rfl ?_
  conv => whnf
  refine loop_go ttOk zOk foOk (σ := Unit) (fun _ => ([(0, .d .nils), (2, .d (.int .i64 0))], [])) (fun _ => True) (fun _ => 0) [0, 2] ?_ ?_
  · conv => whnf
    exact ⟨(), rfl, rfl, trivial⟩
  · intro _ _
    conv => whnf
    repeat' (first | ((with_reducible apply rd_intro); (focus (intro K hK; (conv => whnf); first | exact hK | (intro z hz; rw [wrapI (by omega)] at hz; subst hz; exact hK))); (conv => whnf)) | ((with_reducible apply gd_and); (focus ((conv => whnf) <;> first | rfl | (intro K hK; (conv => whnf); first | exact hK | (intro z hz; rw [wrapI (by omega)] at hz; subst hz; exact hK)))); (conv => whnf)) | ((with_reducible apply z_wrap); (focus omega); (conv => whnf)) | ((with_reducible first | apply mt_dec | apply mt_eq | apply mt_ne | apply mt_not | apply mt_any) <;> (intro _; conv => whnf)))
    refine ⟨by show 1 * 8 ≤ 140737488355328; decide, ?_⟩
    conv => whnf
    exact ⟨rfl, rfl⟩
/-! ## a step, all that it hands back as rows of the caller's own -/
theorem stepX_bad (d : Dag) (hd : d.ok) (c : Cursor) (hf : few c.done) (hb : isV d = false ∨ isM c = false) : ACalls Tryz.prog 14 [d.av, c.av] [] (fun av L => av = .tup [zCurAV, .arr 0, .d (.int .i64 1)] ∧ L = [.row 3 1 [] false]) := by
  have h1 := dagMay_full d hd
  have h2 := curMay_full c hf
  refine acalls_go ttOk zOk foOk Tryz.func14 rfl Tryz.ntmps14 rfl true rfl ?_
  conv => whnf
  refine h1.mono ?_
  rintro _ _ ⟨rfl, rfl⟩
  cases hv : isV d with
  | false =>
    conv => whnf
    repeat' (first | ((with_reducible apply rd_intro); (focus (intro K hK; (conv => whnf); first | exact hK | (intro z hz; rw [wrapI (by omega)] at hz; subst hz; exact hK))); (conv => whnf)) | ((with_reducible apply gd_and); (focus ((conv => whnf) <;> first | rfl | (intro K hK; (conv => whnf); first | exact hK | (intro z hz; rw [wrapI (by omega)] at hz; subst hz; exact hK)))); (conv => whnf)) | ((with_reducible apply z_wrap); (focus omega); (conv => whnf)) | ((with_reducible first | apply mt_dec | apply mt_eq | apply mt_ne | apply mt_not | apply mt_any) <;> (intro _; conv => whnf)))
    exact ⟨rfl, rfl⟩
  | true =>
    conv => whnf
    repeat' (first | ((with_reducible apply rd_intro); (focus (intro K hK; (conv => whnf); first | exact hK | (intro z hz; rw [wrapI (by omega)] at hz; subst hz; exact hK))); (conv => whnf)) | ((with_reducible apply gd_and); (focus ((conv => whnf) <;> first | rfl | (intro K hK; (conv => whnf); first | exact hK | (intro z hz; rw [wrapI (by omega)] at hz; subst hz; exact hK)))); (conv => whnf)) | ((with_reducible apply z_wrap); (focus omega); (conv => whnf)) | ((with_reducible first | apply mt_dec | apply mt_eq | apply mt_ne | apply mt_not | apply mt_any) <;> (intro _; conv => whnf)))
    refine h2.mono ?_
    rintro _ _ ⟨rfl, rfl⟩
    rw [hb.resolve_left (by rw [hv]; simp)]
    conv => whnf
    repeat' (first | ((with_reducible apply rd_intro); (focus (intro K hK; (conv => whnf); first | exact hK | (intro z hz; rw [wrapI (by omega)] at hz; subst hz; exact hK))); (conv => whnf)) | ((with_reducible apply gd_and); (focus ((conv => whnf) <;> first | rfl | (intro K hK; (conv => whnf); first | exact hK | (intro z hz; rw [wrapI (by omega)] at hz; subst hz; exact hK)))); (conv => whnf)) | ((with_reducible apply z_wrap); (focus omega); (conv => whnf)) | ((with_reducible first | apply mt_dec | apply mt_eq | apply mt_ne | apply mt_not | apply mt_any) <;> (intro _; conv => whnf)))
    exact ⟨rfl, rfl⟩
theorem stepX_old (d : Dag) (h : Valid d) (c : Cursor) (hm : curMay c) (ho : old d c) : ACalls Tryz.prog 14 [d.av, c.av] [] (fun av L => av = .tup [zCurAV, .arr 0, .d (.int .i64 6)] ∧ L = [.row 3 1 [] false]) := by
  have h1 := dagMay_ok d h
  have h2 := curMay_ok c _ (.inr rfl) hm
  have hr := hm.round
  have hlow := h.low
  refine acalls_go ttOk zOk foOk Tryz.func14 rfl Tryz.ntmps14 rfl true rfl ?_
  conv => whnf
  refine h1.mono ?_
  rintro _ _ ⟨rfl, rfl⟩
  conv => whnf
  repeat' (first | ((with_reducible apply rd_intro); (focus (intro K hK; (conv => whnf); first | exact hK | (intro z hz; rw [wrapI (by omega)] at hz; subst hz; exact hK))); (conv => whnf)) | ((with_reducible apply gd_and); (focus ((conv => whnf) <;> first | rfl | (intro K hK; (conv => whnf); first | exact hK | (intro z hz; rw [wrapI (by omega)] at hz; subst hz; exact hK)))); (conv => whnf)) | ((with_reducible apply z_wrap); (focus omega); (conv => whnf)) | ((with_reducible first | apply mt_dec | apply mt_eq | apply mt_ne | apply mt_not | apply mt_any) <;> (intro _; conv => whnf)))
  refine h2.mono ?_
  rintro _ _ ⟨rfl, rfl⟩
  conv => whnf
  repeat' (first | ((with_reducible apply rd_intro); (focus (intro K hK; (conv => whnf); first | exact hK | (intro z hz; rw [wrapI (by omega)] at hz; subst hz; exact hK))); (conv => whnf)) | ((with_reducible apply gd_and); (focus ((conv => whnf) <;> first | rfl | (intro K hK; (conv => whnf); first | exact hK | (intro z hz; rw [wrapI (by omega)] at hz; subst hz; exact hK)))); (conv => whnf)) | ((with_reducible apply z_wrap); (focus omega); (conv => whnf)) | ((with_reducible first | apply mt_dec | apply mt_eq | apply mt_ne | apply mt_not | apply mt_any) <;> (intro _; conv => whnf)))
  · exact ⟨rfl, rfl⟩
  · rename_i h3 h4; exact absurd ho.2 h4
  · rename_i h3; exact absurd ho.1 h3
def Wk.resX (w : Wk) : AV := .tup [.agg [.d (.int .i64 w.c.round), .arr 0, .d (.int .i64 w.c.count)], .arr 1, .d (.int .i64 0)]
set_option maxHeartbeats 1000000 in
theorem stepX_ok (d : Dag) (h : Valid d) (c : Cursor) (hm : curMay c) (ho : ¬ old d c) : ACalls Tryz.prog 14 [d.av, c.av] [] (fun av L => av = (finW d c).resX ∧ L = [.row 3 1 (nums (finW d c).c.done) false, .row 3 1 (nums (finW d c).outs) false]) := by
  have h1 := dagMay_ok d h
  have h2 := curMay_ok c _ (.inr rfl) hm
  have hfew := rise_len2 hm.done
  have hcl := clone_ok c.done (by omega)
  have hr := hm.round
  have hlow := h.low
  have hgo := go_ok d h.well c ⟨hr.1, hr.2.1⟩ hr.2.2 (start_okay hm) (finW d c) rfl
  obtain ⟨fw, hfw⟩ : ∃ fw, finW d c = fw := ⟨_, rfl⟩
  rw [hfw] at hgo ⊢
  refine acalls_go ttOk zOk foOk Tryz.func14 rfl Tryz.ntmps14 rfl true rfl ?_
  conv => whnf
  refine h1.mono ?_
  rintro _ _ ⟨rfl, rfl⟩
  conv => whnf
  repeat' (first | ((with_reducible apply rd_intro); (focus (intro K hK; (conv => whnf); first | exact hK | (intro z hz; rw [wrapI (by omega)] at hz; subst hz; exact hK))); (conv => whnf)) | ((with_reducible apply gd_and); (focus ((conv => whnf) <;> first | rfl | (intro K hK; (conv => whnf); first | exact hK | (intro z hz; rw [wrapI (by omega)] at hz; subst hz; exact hK)))); (conv => whnf)) | ((with_reducible apply z_wrap); (focus omega); (conv => whnf)) | ((with_reducible first | apply mt_dec | apply mt_eq | apply mt_ne | apply mt_not | apply mt_any) <;> (intro _; conv => whnf)))
  refine h2.mono ?_
  rintro _ _ ⟨rfl, rfl⟩
  conv => whnf
  repeat' (first | ((with_reducible apply rd_intro); (focus (intro K hK; (conv => whnf); first | exact hK | (intro z hz; rw [wrapI (by omega)] at hz; subst hz; exact hK))); (conv => whnf)) | ((with_reducible apply gd_and); (focus ((conv => whnf) <;> first | rfl | (intro K hK; (conv => whnf); first | exact hK | (intro z hz; rw [wrapI (by omega)] at hz; subst hz; exact hK)))); (conv => whnf)) | ((with_reducible apply z_wrap); (focus omega); (conv => whnf)) | ((with_reducible first | apply mt_dec | apply mt_eq | apply mt_ne | apply mt_not | apply mt_any) <;> (intro _; conv => whnf)))
  · rename_i h3 h4; exact absurd ⟨h3, h4⟩ ho
  · refine hcl.mono ?_
    rintro _ _ ⟨rfl, rfl⟩
    conv => whnf
    repeat' (first | ((with_reducible apply rd_intro); (focus (intro K hK; (conv => whnf); first | exact hK | (intro z hz; rw [wrapI (by omega)] at hz; subst hz; exact hK))); (conv => whnf)) | ((with_reducible apply gd_and); (focus ((conv => whnf) <;> first | rfl | (intro K hK; (conv => whnf); first | exact hK | (intro z hz; rw [wrapI (by omega)] at hz; subst hz; exact hK)))); (conv => whnf)) | ((with_reducible apply z_wrap); (focus omega); (conv => whnf)) | ((with_reducible first | apply mt_dec | apply mt_eq | apply mt_ne | apply mt_not | apply mt_any) <;> (intro _; conv => whnf)))
    refine hgo.mono ?_
    rintro _ _ (⟨hfd, rfl, rfl⟩ | ⟨rfl, rfl⟩)
    · conv => whnf
      repeat' (first | ((with_reducible apply rd_intro); (focus (intro K hK; (conv => whnf); first | exact hK | (intro z hz; rw [wrapI (by omega)] at hz; subst hz; exact hK))); (conv => whnf)) | ((with_reducible apply gd_and); (focus ((conv => whnf) <;> first | rfl | (intro K hK; (conv => whnf); first | exact hK | (intro z hz; rw [wrapI (by omega)] at hz; subst hz; exact hK)))); (conv => whnf)) | ((with_reducible apply z_wrap); (focus omega); (conv => whnf)) | ((with_reducible first | apply mt_dec | apply mt_eq | apply mt_ne | apply mt_not | apply mt_any) <;> (intro _; conv => whnf)))
      exact ⟨rfl, rfl⟩
    · conv => whnf
      repeat' (first | ((with_reducible apply rd_intro); (focus (intro K hK; (conv => whnf); first | exact hK | (intro z hz; rw [wrapI (by omega)] at hz; subst hz; exact hK))); (conv => whnf)) | ((with_reducible apply gd_and); (focus ((conv => whnf) <;> first | rfl | (intro K hK; (conv => whnf); first | exact hK | (intro z hz; rw [wrapI (by omega)] at hz; subst hz; exact hK)))); (conv => whnf)) | ((with_reducible apply z_wrap); (focus omega); (conv => whnf)) | ((with_reducible first | apply mt_dec | apply mt_eq | apply mt_ne | apply mt_not | apply mt_any) <;> (intro _; conv => whnf)))
      exact ⟨rfl, rfl⟩
  · refine hcl.mono ?_
    rintro _ _ ⟨rfl, rfl⟩
    conv => whnf
    repeat' (first | ((with_reducible apply rd_intro); (focus (intro K hK; (conv => whnf); first | exact hK | (intro z hz; rw [wrapI (by omega)] at hz; subst hz; exact hK))); (conv => whnf)) | ((with_reducible apply gd_and); (focus ((conv => whnf) <;> first | rfl | (intro K hK; (conv => whnf); first | exact hK | (intro z hz; rw [wrapI (by omega)] at hz; subst hz; exact hK)))); (conv => whnf)) | ((with_reducible apply z_wrap); (focus omega); (conv => whnf)) | ((with_reducible first | apply mt_dec | apply mt_eq | apply mt_ne | apply mt_not | apply mt_any) <;> (intro _; conv => whnf)))
    refine hgo.mono ?_
    rintro _ _ (⟨hfd, rfl, rfl⟩ | ⟨rfl, rfl⟩)
    · conv => whnf
      repeat' (first | ((with_reducible apply rd_intro); (focus (intro K hK; (conv => whnf); first | exact hK | (intro z hz; rw [wrapI (by omega)] at hz; subst hz; exact hK))); (conv => whnf)) | ((with_reducible apply gd_and); (focus ((conv => whnf) <;> first | rfl | (intro K hK; (conv => whnf); first | exact hK | (intro z hz; rw [wrapI (by omega)] at hz; subst hz; exact hK)))); (conv => whnf)) | ((with_reducible apply z_wrap); (focus omega); (conv => whnf)) | ((with_reducible first | apply mt_dec | apply mt_eq | apply mt_ne | apply mt_not | apply mt_any) <;> (intro _; conv => whnf)))
      exact ⟨rfl, rfl⟩
    · conv => whnf
      repeat' (first | ((with_reducible apply rd_intro); (focus (intro K hK; (conv => whnf); first | exact hK | (intro z hz; rw [wrapI (by omega)] at hz; subst hz; exact hK))); (conv => whnf)) | ((with_reducible apply gd_and); (focus ((conv => whnf) <;> first | rfl | (intro K hK; (conv => whnf); first | exact hK | (intro z hz; rw [wrapI (by omega)] at hz; subst hz; exact hK)))); (conv => whnf)) | ((with_reducible apply z_wrap); (focus omega); (conv => whnf)) | ((with_reducible first | apply mt_dec | apply mt_eq | apply mt_ne | apply mt_not | apply mt_any) <;> (intro _; conv => whnf)))
      exact ⟨rfl, rfl⟩
/-- the zero cursor, its nil slice as a row of one's own -/
def zRowAV (e : Int) : AV := .tup [.agg [.d (.int .i64 0), .arr 1, .d (.int .i64 0)], .arr 0, .d (.int .i64 e)]
theorem stepZ_bad (d : Dag) (hd : d.ok) (c : Cursor) (hf : few c.done) (hb : isV d = false ∨ isM c = false) : ACalls Tryz.prog 14 [d.av, c.av] [] (fun av L => av = zRowAV 1 ∧ L = [.row 3 1 [] false, .row 3 1 [] false]) := by
  refine acalls_nilrow 3 1 (by decide) (stepX_bad d hd c hf hb) ?_
  rintro _ _ ⟨rfl, rfl⟩
  exact ⟨_, _, _, _, rfl, rfl, rfl⟩
theorem stepZ_old (d : Dag) (h : Valid d) (c : Cursor) (hm : curMay c) (ho : old d c) : ACalls Tryz.prog 14 [d.av, c.av] [] (fun av L => av = zRowAV 6 ∧ L = [.row 3 1 [] false, .row 3 1 [] false]) := by
  refine acalls_nilrow 3 1 (by decide) (stepX_old d h c hm ho) ?_
  rintro _ _ ⟨rfl, rfl⟩
  exact ⟨_, _, _, _, rfl, rfl, rfl⟩
end Go.Proofs.YtoeppembokpjkaaGreat
