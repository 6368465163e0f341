/- AuditOrders: for every Ask the law returns true, and its argument reads behind the call as it read before. No condition of ours. -/
import Derived.Test.YtoeppembokpjkaaGreatAuditOrdersCodG
import Derived.Test.YtoeppembokpjkaaGreatRows

set_option linter.unusedVariables false
set_option linter.unusedSimpArgs false
namespace Go.Proofs.YtoeppembokpjkaaGreat
open Go.Ab Go.RowKit Go.MapKept
attribute [local irreducible] ACalls AW ADraw Into fltB fnear
set_option maxRecDepth 100000
/-! ## the page's Add, at any place -/
theorem lackB_eq {d : Dag} (h : Valid d) (r x : Int) : lackB d r x = !(ofR d.certs (r - 1)).any fun y => y.digest == x := by
  unfold lackB
  cases hc : certOf d x with
  | none =>
    have : ((ofR d.certs (r - 1)).any fun y => y.digest == x) = false := by
      rw [List.any_eq_false]
      intro y hy e
      have hy' := (List.mem_filter.1 hy).1
      unfold certOf at hc
      cases hg : getC d.certs x with
      | none =>
        unfold getC at hg
        rw [List.findIdx?_eq_none_iff] at hg
        have := hg y hy'
        simp at this e
        exact this e
      | some i =>
        rw [hg] at hc
        have hlt : i < d.certs.length := by
          unfold getC at hg
          exact (List.findIdx?_eq_some_iff_getElem.1 hg).1
        simp only [Option.bind_some] at hc
        rw [List.getElem?_eq_getElem hlt] at hc
        cases hc
    rw [this]; rfl
  | some c =>
    obtain ⟨i, hg, hi⟩ : ∃ i, getC d.certs x = some i ∧ d.certs[i]? = some c := by
      unfold certOf at hc
      cases hg : getC d.certs x with
      | none => rw [hg] at hc; cases hc
      | some i => rw [hg] at hc; exact ⟨i, rfl, hc⟩
    have hcx : c.digest = x := by
      unfold getC at hg
      obtain ⟨h1, h2, _⟩ := List.findIdx?_eq_some_iff_getElem.1 hg
      rw [List.getElem?_eq_getElem h1] at hi
      cases hi
      simpa using h2
    by_cases hr : c.round = r - 1
    · have : ((ofR d.certs (r - 1)).any fun y => y.digest == x) = true := by
        rw [List.any_eq_true]
        exact ⟨c, List.mem_filter.2 ⟨List.mem_of_getElem? hi, by simpa using hr⟩, by simpa using hcx⟩
      rw [this]; simp [hr]
    · have : ((ofR d.certs (r - 1)).any fun y => y.digest == x) = false := by
        rw [List.any_eq_false]
        intro y hy e
        obtain ⟨hy1, hy2⟩ := List.mem_filter.1 hy
        have e2 : y.digest = x := by simpa using e
        have : y = c := by
          obtain ⟨j, hj⟩ := List.getElem?_of_mem hy1
          have hnd := h.dig
          have e1 : (d.certs.map (·.digest))[j]? = some x := by rw [List.getElem?_map, hj]; simp [e2]
          have e3 : (d.certs.map (·.digest))[i]? = some x := by rw [List.getElem?_map, hi]; simp [hcx]
          have hjl := (List.getElem?_eq_some_iff.1 e1).1
          have := (List.getElem?_inj hjl hnd).1 (e1.trans e3.symm)
          subst this
          rw [hj] at hi; exact Option.some.inj hi
        subst this
        exact hr (of_decide_eq_true hy2)
      rw [this]; simp [hr]
theorem lacks_lack {d : Dag} (h : Valid d) (c : Cert) : lacksI d c = lackI d c := by
  unfold lacksI lackI
  by_cases hr : c.round - 1 ≤ d.low
  · rw [if_pos hr, if_pos (by omega)]
  · rw [if_neg hr, if_neg (by omega)]
    refine List.filter_congr fun x _ => ?_
    exact lackB_eq h c.round x
theorem at_of {d : Dag} (c : Cert) : (atX d.certs c.round c.author = none ∧ atC d.certs c.round c.author = none) ∨ ∃ i y, atX d.certs c.round c.author = some i ∧ d.certs[i]? = some y ∧ atC d.certs c.round c.author = some y := by
  rw [atC_of]
  cases h : atX d.certs c.round c.author with
  | none => exact .inl ⟨rfl, rfl⟩
  | some i =>
    unfold atX at h
    have hlt := (List.findIdx?_eq_some_iff_getElem.1 h).1
    exact .inr ⟨i, _, rfl, List.getElem?_eq_getElem hlt, by simp [List.getElem?_eq_getElem hlt]⟩
theorem getC_any {l : List Cert} {x : Int} (h : getC l x = none) : (l.any fun y => y.digest == x) = false := by
  unfold getC at h
  rw [List.findIdx?_eq_none_iff] at h
  rw [List.any_eq_false]
  intro y hy
  have := h y hy
  simpa using this
theorem getC_any2 {l : List Cert} {x : Int} {i : Nat} (h : getC l x = some i) : (l.any fun y => y.digest == x) = true := by
  unfold getC at h
  obtain ⟨h1, h2, _⟩ := List.findIdx?_eq_some_iff_getElem.1 h
  rw [List.any_eq_true]
  exact ⟨l[i], List.getElem_mem h1, by simpa using h2⟩
theorem getC_at {d : Dag} (h : Valid d) {x : Int} {i : Nat} {y : Cert} (hy : d.certs[i]? = some y) : (getC d.certs x = some i ↔ y.digest = x) := by
  have hlt := (List.getElem?_eq_some_iff.1 hy).1
  constructor
  · intro hg
    unfold getC at hg
    obtain ⟨h1, h2, _⟩ := List.findIdx?_eq_some_iff_getElem.1 hg
    rw [List.getElem?_eq_getElem h1] at hy
    cases hy
    simpa using h2
  · intro e
    unfold getC
    rw [List.findIdx?_eq_some_iff_getElem]
    refine ⟨hlt, ?_, fun j hj => ?_⟩
    · rw [List.getElem?_eq_getElem hlt] at hy
      cases hy
      simpa using e
    · intro e2
      have e3 : (d.certs.map (·.digest))[j]? = (d.certs.map (·.digest))[i]? := by
        rw [List.getElem?_map, List.getElem?_map, hy, List.getElem?_eq_getElem (by omega)]
        simp only [Option.map_some]
        rw [e]
        simpa using e2
      have := (List.getElem?_inj (by simpa using (by omega : j < d.certs.length)) h.dig).1 e3
      omega
theorem rAdd_row (d : Dag) (h : Valid d) (c : Cert) (hct : c.tiny) (hfl : fewL c) (hok : okCert d.nodes c) :
    ACalls Tryz.prog 59 [d.av, c.av] [] (fun av L => (putE d c ≠ 0 ∧ av = .tup [d.av, .d (.int .i64 (putE d c))] ∧ L = []) ∨ (putE d c = 0 ∧ av = .tup [.agg [.d (.int .i64 d.nodes), .d (.int .i64 d.low), .arr 0], .d (.int .i64 0)] ∧ L = [.row 68 6 (certsD (insC d c).certs) false])) := by
  have hcl := certsD_length d.certs
  have hlen := h.len
  have hfd : few d.certs := by unfold few; omega
  have hlk := rLacks_ok d hfd c (by have := hct.pars; unfold tiny at this; omega) hok.head.round
  rw [lacks_lack h] at hlk
  refine acalls_go ttOk zOk foOk Tryz.func59 rfl Tryz.ntmps59 rfl true rfl ?_
  conv => whnf
  refine (rCert_ok c hfl d.nodes).mono ?_
  rintro _ _ ⟨rfl, rfl⟩
  rw [@decide_eq_true _ (Classical.propDecidable _) hok]
  conv => whnf
  repeat' (first | ((with_reducible apply rd_intro); (focus (intro K hK; (conv => whnf); first | exact hK | (intro z hz; rw [wrapI (by omega)] at hz; subst hz; exact hK))); (conv => whnf)) | ((with_reducible apply gd_and); (focus ((conv => whnf) <;> first | rfl | (intro K hK; (conv => whnf); first | exact hK | (intro z hz; rw [wrapI (by omega)] at hz; subst hz; exact hK)))); (conv => whnf)) | ((with_reducible apply z_wrap); (focus omega); (conv => whnf)) | ((with_reducible first | apply mt_dec | apply mt_eq | apply mt_ne | apply mt_not | apply mt_any) <;> (intro _; conv => whnf)))
  · rename_i hlow
    have e : putE d c = 6 := by rw [putE, if_pos hlow]
    rw [e]
    exact .inl ⟨by decide, rfl, rfl⟩
  · rename_i hlow
    refine (rAt_ok d hfd c.round c.author).mono ?_
    rintro _ _ ⟨rfl, rfl⟩
    conv => whnf
    refine (rFind_ok d hfd c.digest).mono ?_
    rintro _ _ ⟨rfl, rfl⟩
    rcases at_of (d := d) c with ⟨hx, hat⟩ | ⟨i, y, hx, hy, hat⟩
    · rw [show atI d.certs c.round c.author = -1 by rw [atI, hx]; rfl]
      cases hg : getC d.certs c.digest with
      | none =>
        rw [show getI d.certs c.digest = -1 by rw [getI, hg]; rfl]
        conv => whnf
        repeat' (first | ((with_reducible apply rd_intro); (focus (intro K hK; (conv => whnf); first | exact hK | (intro z hz; rw [wrapI (by omega)] at hz; subst hz; exact hK))); (conv => whnf)) | ((with_reducible apply gd_and); (focus ((conv => whnf) <;> first | rfl | (intro K hK; (conv => whnf); first | exact hK | (intro z hz; rw [wrapI (by omega)] at hz; subst hz; exact hK)))); (conv => whnf)) | ((with_reducible apply z_wrap); (focus omega); (conv => whnf)) | ((with_reducible first | apply mt_dec | apply mt_eq | apply mt_ne | apply mt_not | apply mt_any) <;> (intro _; conv => whnf)))
        refine hlk.mono ?_
        rintro _ _ ⟨rfl, rfl⟩
        obtain ⟨lk, hlk2⟩ : ∃ lk, lackI d c = lk := ⟨_, rfl⟩
        rw [hlk2]
        cases lk with
        | cons z r =>
          have e : putE d c = 7 := by rw [putE, if_neg hlow, hat]; simp [getC_any hg, hlk2]
          conv => whnf
          repeat' (first | ((with_reducible apply rd_intro); (focus (intro K hK; (conv => whnf); first | exact hK | (intro z hz; rw [wrapI (by omega)] at hz; subst hz; exact hK))); (conv => whnf)) | ((with_reducible apply gd_and); (focus ((conv => whnf) <;> first | rfl | (intro K hK; (conv => whnf); first | exact hK | (intro z hz; rw [wrapI (by omega)] at hz; subst hz; exact hK)))); (conv => whnf)) | ((with_reducible apply z_wrap); (focus omega); (conv => whnf)) | ((with_reducible first | apply mt_dec | apply mt_eq | apply mt_ne | apply mt_not | apply mt_any) <;> (intro _; conv => whnf)))
          · rw [e]
            exact .inl ⟨by decide, rfl, rfl⟩
          · rename_i hx
            exact absurd (by show ((0 : Int) < ((nums (z :: r)).length : Int)); rw [nums_length]; simp) hx
        | nil =>
          have e : putE d c = 0 := by rw [putE, if_neg hlow, hat]; simp [getC_any hg, hlk2]
          conv => whnf
          repeat' (first | ((with_reducible apply rd_intro); (focus (intro K hK; (conv => whnf); first | exact hK | (intro z hz; rw [wrapI (by omega)] at hz; subst hz; exact hK))); (conv => whnf)) | ((with_reducible apply gd_and); (focus ((conv => whnf) <;> first | rfl | (intro K hK; (conv => whnf); first | exact hK | (intro z hz; rw [wrapI (by omega)] at hz; subst hz; exact hK)))); (conv => whnf)) | ((with_reducible apply z_wrap); (focus omega); (conv => whnf)) | ((with_reducible first | apply mt_dec | apply mt_eq | apply mt_ne | apply mt_not | apply mt_any) <;> (intro _; conv => whnf)))
          have hle := pos_le d.certs c.round c.author
          refine loop_go ttOk zOk foOk (σ := Nat) (fun j => ([(2, .ptr 0 0), (3, .ptr 1 0), (4, .ptr 2 0), (8, .d (.int .i64 j))], [.cells d.cells, .cells c.cells, .cells [.d (.int .i64 0), .d (.int .i64 0), .d .nils]])) (fun j => j ≤ pos d.certs c.round c.author) (fun j => d.certs.length - j) [2, 3, 4, 8] ?_ ?_
          · conv => whnf
            exact ⟨0, rfl, rfl, Nat.zero_le _⟩
          · intro j hj
            conv => whnf
            ((with_reducible refine draw_pl ttOk zOk foOk mixedOk pl59x14 ?_ ?_); (focus kernel_rfl); (conv => whnf))
            repeat' (first | ((with_reducible apply rd_intro); (focus (intro K hK; (conv => whnf); first | exact hK | (intro z hz; rw [wrapI (by omega)] at hz; subst hz; exact hK))); (conv => whnf)) | ((with_reducible apply gd_and); (focus ((conv => whnf) <;> first | rfl | (intro K hK; (conv => whnf); first | exact hK | (intro z hz; rw [wrapI (by omega)] at hz; subst hz; exact hK)))); (conv => whnf)) | ((with_reducible apply z_wrap); (focus omega); (conv => whnf)) | ((with_reducible first | apply mt_dec | apply mt_eq | apply mt_ne | apply mt_not | apply mt_any) <;> (intro _; conv => whnf)))
            · rename_i hjl
              refine Exists.elim (⟨_, List.getElem?_eq_getElem (by omega)⟩ : ∃ y, d.certs[j]? = some y) fun y hy => ?_
              have hb := pos_iff (r := c.round) (a := c.author) h.sorted hy
              ((with_reducible apply rd_intro); (focus (intro K hK; (conv => whnf); exact ⟨by omega, y.cs, certsD_at hy, hK⟩)); (conv => whnf))
              repeat' (first | ((with_reducible apply rd_intro); (focus (intro K hK; (conv => whnf); first | exact hK | (intro z hz; rw [wrapI (by omega)] at hz; subst hz; exact hK))); (conv => whnf)) | ((with_reducible apply gd_and); (focus ((conv => whnf) <;> first | rfl | (intro K hK; (conv => whnf); first | exact hK | (intro z hz; rw [wrapI (by omega)] at hz; subst hz; exact hK)))); (conv => whnf)) | ((with_reducible apply z_wrap); (focus omega); (conv => whnf)) | ((with_reducible first | apply mt_dec | apply mt_eq | apply mt_ne | apply mt_not | apply mt_any) <;> (intro _; conv => whnf)))
              ((with_reducible apply rd_intro); (focus (intro K hK; (conv => whnf); exact ⟨by omega, y.cs, certsD_at hy, hK⟩)); (conv => whnf))
              repeat' (first | ((with_reducible apply rd_intro); (focus (intro K hK; (conv => whnf); first | exact hK | (intro z hz; rw [wrapI (by omega)] at hz; subst hz; exact hK))); (conv => whnf)) | ((with_reducible apply gd_and); (focus ((conv => whnf) <;> first | rfl | (intro K hK; (conv => whnf); first | exact hK | (intro z hz; rw [wrapI (by omega)] at hz; subst hz; exact hK)))); (conv => whnf)) | ((with_reducible apply z_wrap); (focus omega); (conv => whnf)) | ((with_reducible first | apply mt_dec | apply mt_eq | apply mt_ne | apply mt_not | apply mt_any) <;> (intro _; conv => whnf)))
              refine (rBefore_ok y.round y.author c.round c.author).mono ?_
              rintro _ _ ⟨rfl, rfl⟩
              rw [show decide (y.round < c.round ∨ y.round = c.round ∧ y.author < c.author) = y.before c.round c.author from rfl]
              cases hbb : y.before c.round c.author with
              | true =>
                conv => whnf
                repeat' (first | ((with_reducible apply rd_intro); (focus (intro K hK; (conv => whnf); first | exact hK | (intro z hz; rw [wrapI (by omega)] at hz; subst hz; exact hK))); (conv => whnf)) | ((with_reducible apply gd_and); (focus ((conv => whnf) <;> first | rfl | (intro K hK; (conv => whnf); first | exact hK | (intro z hz; rw [wrapI (by omega)] at hz; subst hz; exact hK)))); (conv => whnf)) | ((with_reducible apply z_wrap); (focus omega); (conv => whnf)) | ((with_reducible first | apply mt_dec | apply mt_eq | apply mt_ne | apply mt_not | apply mt_any) <;> (intro _; conv => whnf)))
                exact ⟨j + 1, rfl, rfl, by have := hb.1 hbb; omega, by omega⟩
              | false =>
                have hje : j = pos d.certs c.round c.author := by
                  rcases Nat.lt_or_ge j (pos d.certs c.round c.author) with h4 | h4
                  · rw [hb.2 h4] at hbb; cases hbb
                  · omega
                conv => whnf
                repeat' (first | ((with_reducible apply rd_intro); (focus (intro K hK; (conv => whnf); first | exact hK | (intro z hz; rw [wrapI (by omega)] at hz; subst hz; exact hK))); (conv => whnf)) | ((with_reducible apply gd_and); (focus ((conv => whnf) <;> first | rfl | (intro K hK; (conv => whnf); first | exact hK | (intro z hz; rw [wrapI (by omega)] at hz; subst hz; exact hK)))); (conv => whnf)) | ((with_reducible apply z_wrap); (focus omega); (conv => whnf)) | ((with_reducible first | apply mt_dec | apply mt_eq | apply mt_ne | apply mt_not | apply mt_any) <;> (intro _; conv => whnf)))
                subst hje
                clear hj
                obtain ⟨P, hP⟩ : ∃ P, pos d.certs c.round c.author = P := ⟨_, rfl⟩
                have hins : (insC d c).certs = d.certs.take P ++ c :: d.certs.drop P := by rw [← hP]; rfl
                rw [hP] at hle
                rw [hP, hins]
                have hcp1 := copyCerts_row (d.certs.take P) (by unfold tiny; simp; omega) (fun c hc => h.tiny.2 c (List.mem_of_mem_take hc))
                have hcp2 := copyCerts_ok (d.certs.drop P) (by unfold tiny; simp; omega) (fun c hc => h.tiny.2 c (List.mem_of_mem_drop hc))
                have hs1 : List.drop (Int.toNat 0) (List.take ((P : Int)).toNat (certsD d.certs)) = certsD (d.certs.take P) := by
                  rw [show (Int.toNat 0) = 0 from rfl, List.drop_zero, show ((P : Int)).toNat = P from rfl]
                  simp [certsD]
                have hs2 : List.drop ((P : Int)).toNat (List.take ((certsD d.certs).length : Int).toNat (certsD d.certs)) = certsD (d.certs.drop P) := by
                  rw [show ((P : Int)).toNat = P from rfl, show ((certsD d.certs).length : Int).toNat = (certsD d.certs).length from rfl, List.take_length]
                  simp [certsD]
                have hl1 := certsD_length (d.certs.take P)
                have hl2 := certsD_length (d.certs.drop P)
                have hl3 : (d.certs.take P).length ≤ 65536 := Nat.le_trans (List.length_take_le' ..) hlen
                have hl4 : (d.certs.drop P).length ≤ 65536 := by rw [List.length_drop]; omega
                ((with_reducible refine draw_pl ttOk zOk foOk mixedOk pl59x17 ?_ ?_); (focus kernel_rfl); (conv => whnf))
                repeat' (first | ((with_reducible apply rd_intro); (focus (intro K hK; (conv => whnf); first | exact hK | (intro z hz; rw [wrapI (by omega)] at hz; subst hz; exact hK))); (conv => whnf)) | ((with_reducible apply gd_and); (focus ((conv => whnf) <;> first | rfl | (intro K hK; (conv => whnf); first | exact hK | (intro z hz; rw [wrapI (by omega)] at hz; subst hz; exact hK)))); (conv => whnf)) | ((with_reducible apply z_wrap); (focus omega); (conv => whnf)) | ((with_reducible first | apply mt_dec | apply mt_eq | apply mt_ne | apply mt_not | apply mt_any) <;> (intro _; conv => whnf)))
                ((with_reducible apply rd_intro); (focus (intro K hK; (conv => whnf); exact ⟨by omega, by omega, by omega, hK⟩)); (conv => whnf))
                repeat' (first | ((with_reducible apply rd_intro); (focus (intro K hK; (conv => whnf); first | exact hK | (intro z hz; rw [wrapI (by omega)] at hz; subst hz; exact hK))); (conv => whnf)) | ((with_reducible apply gd_and); (focus ((conv => whnf) <;> first | rfl | (intro K hK; (conv => whnf); first | exact hK | (intro z hz; rw [wrapI (by omega)] at hz; subst hz; exact hK)))); (conv => whnf)) | ((with_reducible apply z_wrap); (focus omega); (conv => whnf)) | ((with_reducible first | apply mt_dec | apply mt_eq | apply mt_ne | apply mt_not | apply mt_any) <;> (intro _; conv => whnf)))
                rw [hs1]
                refine hcp1.mono ?_
                rintro _ _ ⟨rfl, rfl⟩
                conv => whnf
                repeat' (first | ((with_reducible apply rd_intro); (focus (intro K hK; (conv => whnf); first | exact hK | (intro z hz; rw [wrapI (by omega)] at hz; subst hz; exact hK))); (conv => whnf)) | ((with_reducible apply gd_and); (focus ((conv => whnf) <;> first | rfl | (intro K hK; (conv => whnf); first | exact hK | (intro z hz; rw [wrapI (by omega)] at hz; subst hz; exact hK)))); (conv => whnf)) | ((with_reducible apply z_wrap); (focus omega); (conv => whnf)) | ((with_reducible first | apply mt_dec | apply mt_eq | apply mt_ne | apply mt_not | apply mt_any) <;> (intro _; conv => whnf)))
                refine (copyCert_ok c hct).mono ?_
                rintro _ _ ⟨rfl, rfl⟩
                conv => whnf
                repeat' (first | ((with_reducible apply rd_intro); (focus (intro K hK; (conv => whnf); first | exact hK | (intro z hz; rw [wrapI (by omega)] at hz; subst hz; exact hK))); (conv => whnf)) | ((with_reducible apply gd_and); (focus ((conv => whnf) <;> first | rfl | (intro K hK; (conv => whnf); first | exact hK | (intro z hz; rw [wrapI (by omega)] at hz; subst hz; exact hK)))); (conv => whnf)) | ((with_reducible apply z_wrap); (focus omega); (conv => whnf)) | ((with_reducible first | apply mt_dec | apply mt_eq | apply mt_ne | apply mt_not | apply mt_any) <;> (intro _; conv => whnf)))
                refine ⟨by simp; omega, ?_⟩
                conv => whnf
                repeat' (first | ((with_reducible apply rd_intro); (focus (intro K hK; (conv => whnf); first | exact hK | (intro z hz; rw [wrapI (by omega)] at hz; subst hz; exact hK))); (conv => whnf)) | ((with_reducible apply gd_and); (focus ((conv => whnf) <;> first | rfl | (intro K hK; (conv => whnf); first | exact hK | (intro z hz; rw [wrapI (by omega)] at hz; subst hz; exact hK)))); (conv => whnf)) | ((with_reducible apply z_wrap); (focus omega); (conv => whnf)) | ((with_reducible first | apply mt_dec | apply mt_eq | apply mt_ne | apply mt_not | apply mt_any) <;> (intro _; conv => whnf)))
                ((with_reducible refine draw_pl ttOk zOk foOk mixedOk pl59x18 ?_ ?_); (focus kernel_rfl); (conv => whnf))
                repeat' (first | ((with_reducible apply rd_intro); (focus (intro K hK; (conv => whnf); first | exact hK | (intro z hz; rw [wrapI (by omega)] at hz; subst hz; exact hK))); (conv => whnf)) | ((with_reducible apply gd_and); (focus ((conv => whnf) <;> first | rfl | (intro K hK; (conv => whnf); first | exact hK | (intro z hz; rw [wrapI (by omega)] at hz; subst hz; exact hK)))); (conv => whnf)) | ((with_reducible apply z_wrap); (focus omega); (conv => whnf)) | ((with_reducible first | apply mt_dec | apply mt_eq | apply mt_ne | apply mt_not | apply mt_any) <;> (intro _; conv => whnf)))
                ((with_reducible apply rd_intro); (focus (intro K hK; (conv => whnf); exact ⟨by omega, by omega, by omega, hK⟩)); (conv => whnf))
                repeat' (first | ((with_reducible apply rd_intro); (focus (intro K hK; (conv => whnf); first | exact hK | (intro z hz; rw [wrapI (by omega)] at hz; subst hz; exact hK))); (conv => whnf)) | ((with_reducible apply gd_and); (focus ((conv => whnf) <;> first | rfl | (intro K hK; (conv => whnf); first | exact hK | (intro z hz; rw [wrapI (by omega)] at hz; subst hz; exact hK)))); (conv => whnf)) | ((with_reducible apply z_wrap); (focus omega); (conv => whnf)) | ((with_reducible first | apply mt_dec | apply mt_eq | apply mt_ne | apply mt_not | apply mt_any) <;> (intro _; conv => whnf)))
                rw [hs2]
                refine hcp2.mono ?_
                rintro _ _ ⟨rfl, rfl⟩
                conv => whnf
                repeat' (first | ((with_reducible apply rd_intro); (focus (intro K hK; (conv => whnf); first | exact hK | (intro z hz; rw [wrapI (by omega)] at hz; subst hz; exact hK))); (conv => whnf)) | ((with_reducible apply gd_and); (focus ((conv => whnf) <;> first | rfl | (intro K hK; (conv => whnf); first | exact hK | (intro z hz; rw [wrapI (by omega)] at hz; subst hz; exact hK)))); (conv => whnf)) | ((with_reducible apply z_wrap); (focus omega); (conv => whnf)) | ((with_reducible first | apply mt_dec | apply mt_eq | apply mt_ne | apply mt_not | apply mt_any) <;> (intro _; conv => whnf)))
                refine ⟨by simp [certsD]; omega, ?_⟩
                conv => whnf
                repeat' (first | ((with_reducible apply rd_intro); (focus (intro K hK; (conv => whnf); first | exact hK | (intro z hz; rw [wrapI (by omega)] at hz; subst hz; exact hK))); (conv => whnf)) | ((with_reducible apply gd_and); (focus ((conv => whnf) <;> first | rfl | (intro K hK; (conv => whnf); first | exact hK | (intro z hz; rw [wrapI (by omega)] at hz; subst hz; exact hK)))); (conv => whnf)) | ((with_reducible apply z_wrap); (focus omega); (conv => whnf)) | ((with_reducible first | apply mt_dec | apply mt_eq | apply mt_ne | apply mt_not | apply mt_any) <;> (intro _; conv => whnf)))
                refine .inr ⟨e, rfl, ?_⟩
                simp [certsD, Cert.cs]
            · rename_i hjl
              have hje : j = pos d.certs c.round c.author := by omega
              subst hje
              clear hj
              obtain ⟨P, hP⟩ : ∃ P, pos d.certs c.round c.author = P := ⟨_, rfl⟩
              have hins : (insC d c).certs = d.certs.take P ++ c :: d.certs.drop P := by rw [← hP]; rfl
              rw [hP] at hle
              rw [hP, hins]
              have hcp1 := copyCerts_row (d.certs.take P) (by unfold tiny; simp; omega) (fun c hc => h.tiny.2 c (List.mem_of_mem_take hc))
              have hcp2 := copyCerts_ok (d.certs.drop P) (by unfold tiny; simp; omega) (fun c hc => h.tiny.2 c (List.mem_of_mem_drop hc))
              have hs1 : List.drop (Int.toNat 0) (List.take ((P : Int)).toNat (certsD d.certs)) = certsD (d.certs.take P) := by
                rw [show (Int.toNat 0) = 0 from rfl, List.drop_zero, show ((P : Int)).toNat = P from rfl]
                simp [certsD]
              have hs2 : List.drop ((P : Int)).toNat (List.take ((certsD d.certs).length : Int).toNat (certsD d.certs)) = certsD (d.certs.drop P) := by
                rw [show ((P : Int)).toNat = P from rfl, show ((certsD d.certs).length : Int).toNat = (certsD d.certs).length from rfl, List.take_length]
                simp [certsD]
              have hl1 := certsD_length (d.certs.take P)
              have hl2 := certsD_length (d.certs.drop P)
              have hl3 : (d.certs.take P).length ≤ 65536 := Nat.le_trans (List.length_take_le' ..) hlen
              have hl4 : (d.certs.drop P).length ≤ 65536 := by rw [List.length_drop]; omega
              ((with_reducible refine draw_pl ttOk zOk foOk mixedOk pl59x17 ?_ ?_); (focus kernel_rfl); (conv => whnf))
              repeat' (first | ((with_reducible apply rd_intro); (focus (intro K hK; (conv => whnf); first | exact hK | (intro z hz; rw [wrapI (by omega)] at hz; subst hz; exact hK))); (conv => whnf)) | ((with_reducible apply gd_and); (focus ((conv => whnf) <;> first | rfl | (intro K hK; (conv => whnf); first | exact hK | (intro z hz; rw [wrapI (by omega)] at hz; subst hz; exact hK)))); (conv => whnf)) | ((with_reducible apply z_wrap); (focus omega); (conv => whnf)) | ((with_reducible first | apply mt_dec | apply mt_eq | apply mt_ne | apply mt_not | apply mt_any) <;> (intro _; conv => whnf)))
              ((with_reducible apply rd_intro); (focus (intro K hK; (conv => whnf); exact ⟨by omega, by omega, by omega, hK⟩)); (conv => whnf))
              repeat' (first | ((with_reducible apply rd_intro); (focus (intro K hK; (conv => whnf); first | exact hK | (intro z hz; rw [wrapI (by omega)] at hz; subst hz; exact hK))); (conv => whnf)) | ((with_reducible apply gd_and); (focus ((conv => whnf) <;> first | rfl | (intro K hK; (conv => whnf); first | exact hK | (intro z hz; rw [wrapI (by omega)] at hz; subst hz; exact hK)))); (conv => whnf)) | ((with_reducible apply z_wrap); (focus omega); (conv => whnf)) | ((with_reducible first | apply mt_dec | apply mt_eq | apply mt_ne | apply mt_not | apply mt_any) <;> (intro _; conv => whnf)))
              rw [hs1]
              refine hcp1.mono ?_
              rintro _ _ ⟨rfl, rfl⟩
              conv => whnf
              repeat' (first | ((with_reducible apply rd_intro); (focus (intro K hK; (conv => whnf); first | exact hK | (intro z hz; rw [wrapI (by omega)] at hz; subst hz; exact hK))); (conv => whnf)) | ((with_reducible apply gd_and); (focus ((conv => whnf) <;> first | rfl | (intro K hK; (conv => whnf); first | exact hK | (intro z hz; rw [wrapI (by omega)] at hz; subst hz; exact hK)))); (conv => whnf)) | ((with_reducible apply z_wrap); (focus omega); (conv => whnf)) | ((with_reducible first | apply mt_dec | apply mt_eq | apply mt_ne | apply mt_not | apply mt_any) <;> (intro _; conv => whnf)))
              refine (copyCert_ok c hct).mono ?_
              rintro _ _ ⟨rfl, rfl⟩
              conv => whnf
              repeat' (first | ((with_reducible apply rd_intro); (focus (intro K hK; (conv => whnf); first | exact hK | (intro z hz; rw [wrapI (by omega)] at hz; subst hz; exact hK))); (conv => whnf)) | ((with_reducible apply gd_and); (focus ((conv => whnf) <;> first | rfl | (intro K hK; (conv => whnf); first | exact hK | (intro z hz; rw [wrapI (by omega)] at hz; subst hz; exact hK)))); (conv => whnf)) | ((with_reducible apply z_wrap); (focus omega); (conv => whnf)) | ((with_reducible first | apply mt_dec | apply mt_eq | apply mt_ne | apply mt_not | apply mt_any) <;> (intro _; conv => whnf)))
              refine ⟨by simp; omega, ?_⟩
              conv => whnf
              repeat' (first | ((with_reducible apply rd_intro); (focus (intro K hK; (conv => whnf); first | exact hK | (intro z hz; rw [wrapI (by omega)] at hz; subst hz; exact hK))); (conv => whnf)) | ((with_reducible apply gd_and); (focus ((conv => whnf) <;> first | rfl | (intro K hK; (conv => whnf); first | exact hK | (intro z hz; rw [wrapI (by omega)] at hz; subst hz; exact hK)))); (conv => whnf)) | ((with_reducible apply z_wrap); (focus omega); (conv => whnf)) | ((with_reducible first | apply mt_dec | apply mt_eq | apply mt_ne | apply mt_not | apply mt_any) <;> (intro _; conv => whnf)))
              ((with_reducible refine draw_pl ttOk zOk foOk mixedOk pl59x18 ?_ ?_); (focus kernel_rfl); (conv => whnf))
              repeat' (first | ((with_reducible apply rd_intro); (focus (intro K hK; (conv => whnf); first | exact hK | (intro z hz; rw [wrapI (by omega)] at hz; subst hz; exact hK))); (conv => whnf)) | ((with_reducible apply gd_and); (focus ((conv => whnf) <;> first | rfl | (intro K hK; (conv => whnf); first | exact hK | (intro z hz; rw [wrapI (by omega)] at hz; subst hz; exact hK)))); (conv => whnf)) | ((with_reducible apply z_wrap); (focus omega); (conv => whnf)) | ((with_reducible first | apply mt_dec | apply mt_eq | apply mt_ne | apply mt_not | apply mt_any) <;> (intro _; conv => whnf)))
              ((with_reducible apply rd_intro); (focus (intro K hK; (conv => whnf); exact ⟨by omega, by omega, by omega, hK⟩)); (conv => whnf))
              repeat' (first | ((with_reducible apply rd_intro); (focus (intro K hK; (conv => whnf); first | exact hK | (intro z hz; rw [wrapI (by omega)] at hz; subst hz; exact hK))); (conv => whnf)) | ((with_reducible apply gd_and); (focus ((conv => whnf) <;> first | rfl | (intro K hK; (conv => whnf); first | exact hK | (intro z hz; rw [wrapI (by omega)] at hz; subst hz; exact hK)))); (conv => whnf)) | ((with_reducible apply z_wrap); (focus omega); (conv => whnf)) | ((with_reducible first | apply mt_dec | apply mt_eq | apply mt_ne | apply mt_not | apply mt_any) <;> (intro _; conv => whnf)))
              rw [hs2]
              refine hcp2.mono ?_
              rintro _ _ ⟨rfl, rfl⟩
              conv => whnf
              repeat' (first | ((with_reducible apply rd_intro); (focus (intro K hK; (conv => whnf); first | exact hK | (intro z hz; rw [wrapI (by omega)] at hz; subst hz; exact hK))); (conv => whnf)) | ((with_reducible apply gd_and); (focus ((conv => whnf) <;> first | rfl | (intro K hK; (conv => whnf); first | exact hK | (intro z hz; rw [wrapI (by omega)] at hz; subst hz; exact hK)))); (conv => whnf)) | ((with_reducible apply z_wrap); (focus omega); (conv => whnf)) | ((with_reducible first | apply mt_dec | apply mt_eq | apply mt_ne | apply mt_not | apply mt_any) <;> (intro _; conv => whnf)))
              refine ⟨by simp [certsD]; omega, ?_⟩
              conv => whnf
              repeat' (first | ((with_reducible apply rd_intro); (focus (intro K hK; (conv => whnf); first | exact hK | (intro z hz; rw [wrapI (by omega)] at hz; subst hz; exact hK))); (conv => whnf)) | ((with_reducible apply gd_and); (focus ((conv => whnf) <;> first | rfl | (intro K hK; (conv => whnf); first | exact hK | (intro z hz; rw [wrapI (by omega)] at hz; subst hz; exact hK)))); (conv => whnf)) | ((with_reducible apply z_wrap); (focus omega); (conv => whnf)) | ((with_reducible first | apply mt_dec | apply mt_eq | apply mt_ne | apply mt_not | apply mt_any) <;> (intro _; conv => whnf)))
              refine .inr ⟨e, rfl, ?_⟩
              simp [certsD, Cert.cs]
      | some k =>
        rw [show getI d.certs c.digest = k by rw [getI, hg]; rfl]
        have e : putE d c = 5 := by rw [putE, if_neg hlow, hat]; simp [getC_any2 hg]
        conv => whnf
        repeat' (first | ((with_reducible apply rd_intro); (focus (intro K hK; (conv => whnf); first | exact hK | (intro z hz; rw [wrapI (by omega)] at hz; subst hz; exact hK))); (conv => whnf)) | ((with_reducible apply gd_and); (focus ((conv => whnf) <;> first | rfl | (intro K hK; (conv => whnf); first | exact hK | (intro z hz; rw [wrapI (by omega)] at hz; subst hz; exact hK)))); (conv => whnf)) | ((with_reducible apply z_wrap); (focus omega); (conv => whnf)) | ((with_reducible first | apply mt_dec | apply mt_eq | apply mt_ne | apply mt_not | apply mt_any) <;> (intro _; conv => whnf)))
        rw [e]
        exact .inl ⟨by decide, rfl, rfl⟩
    · have hgi := getC_at h (x := c.digest) hy
      rw [show atI d.certs c.round c.author = i by rw [atI, hx]; rfl]
      conv => whnf
      repeat' (first | ((with_reducible apply rd_intro); (focus (intro K hK; (conv => whnf); first | exact hK | (intro z hz; rw [wrapI (by omega)] at hz; subst hz; exact hK))); (conv => whnf)) | ((with_reducible apply gd_and); (focus ((conv => whnf) <;> first | rfl | (intro K hK; (conv => whnf); first | exact hK | (intro z hz; rw [wrapI (by omega)] at hz; subst hz; exact hK)))); (conv => whnf)) | ((with_reducible apply z_wrap); (focus omega); (conv => whnf)) | ((with_reducible first | apply mt_dec | apply mt_eq | apply mt_ne | apply mt_not | apply mt_any) <;> (intro _; conv => whnf)))
      · rename_i hab
        have hab' : getC d.certs c.digest = some i := by
          cases hg : getC d.certs c.digest with
          | none => rw [getI, hg] at hab; exact absurd hab (by show ¬ ((i : Int) = -1); omega)
          | some k => rw [getI, hg] at hab; rw [show i = k from Int.ofNat_inj.1 hab]
        have e : putE d c = 4 := by rw [putE, if_neg hlow, hat]; simp [hgi.1 hab']
        rw [e]
        exact .inl ⟨by decide, rfl, rfl⟩
      · rename_i hab
        have hne : y.digest ≠ c.digest := fun h5 => hab (by rw [getI, hgi.2 h5]; rfl)
        have e : putE d c = 5 := by rw [putE, if_neg hlow, hat]; simp [hne]
        rw [e]
        exact .inl ⟨by decide, rfl, rfl⟩
theorem rAdd_ok (d : Dag) (h : Valid d) (c : Cert) (hct : c.tiny) (hfl : fewL c) (hok : okCert d.nodes c) :
    ACalls Tryz.prog 59 [d.av, c.av] [] (fun av L => av = .tup [(putD d c).av, .d (.int .i64 (putE d c))] ∧ L = []) := by
  refine acalls_data (rAdd_row d h c hct hfl hok) ?_
  rintro _ _ (⟨h, rfl, rfl⟩ | ⟨h, rfl, rfl⟩)
  · rw [putD, if_neg h]
    conv => whnf
    exact ⟨rfl, rfl⟩
  · rw [putD, if_pos h, h]
    conv => whnf
    exact ⟨rfl, rfl⟩
end Go.Proofs.YtoeppembokpjkaaGreat

namespace Go.Proofs.YtoeppembokpjkaaGreat
open Go.Ab Go.RowKit Go.MapKept
attribute [local irreducible] ACalls AW ADraw Into fltB fnear
set_option maxRecDepth 100000
/-! ## the page's Dag -/
inductive Lft (d : Dag) : List Cert → List Cert → Prop where
  | nil : Lft d [] []
  | keep (c : Cert) {l left : List Cert} : Lft d l left → Lft d (c :: l) (c :: left)
  | skip (c : Cert) {l left : List Cert} : c ∈ d.certs → Lft d l left → Lft d (c :: l) left
theorem Lft.all (d : Dag) : ∀ l : List Cert, Lft d l l
  | [] => .nil
  | c :: l => .keep c (Lft.all d l)
theorem Lft.mono {d d' : Dag} (h : ∀ c ∈ d.certs, c ∈ d'.certs) {l left : List Cert} (k : Lft d l left) : Lft d' l left := by
  induction k with
  | nil => exact .nil
  | keep c _ ih => exact .keep c ih
  | skip c hc _ ih => exact .skip c (h c hc) ih
theorem mem_putE {d : Dag} {c : Cert} (h : c ∈ d.certs) : putE d c ≠ 0 := fun e => (putE_ok e).2.2.1 c h rfl
theorem Lft.none {d : Dag} {l left : List Cert} (k : Lft d l left) (h : ∀ c ∈ l, putE d c ≠ 0) : ∀ c ∈ left, putE d c ≠ 0 := by
  induction k with
  | nil => simp
  | keep c _ ih =>
    intro x hx
    rcases List.mem_cons.1 hx with rfl | hx
    · exact h _ (List.mem_cons_self ..)
    · exact ih (fun y hy => h y (List.mem_cons_of_mem _ hy)) x hx
  | skip c hc _ ih => exact ih (fun y hy => h y (List.mem_cons_of_mem _ hy))
theorem Lft.first {d : Dag} {l left : List Cert} (k : Lft d l left) : ∀ {i : Nat} {c : Cert}, l[i]? = some c → putE d c = 0 → (∀ (j : Nat) y, j < i → l[j]? = some y → putE d y ≠ 0) →
    ∃ m, left[m]? = some c ∧ (∀ (j : Nat) y, j < m → left[j]? = some y → putE d y ≠ 0) ∧ Lft (insC d c) l (left.take m ++ left.drop (m + 1)) := by
  have hup : ∀ (c : Cert), ∀ y ∈ d.certs, y ∈ (insC d c).certs := fun c y hy => mem_insC.2 (.inr hy)
  induction k with
  | nil => intro i c h; simp at h
  | keep x k ih =>
    intro i c h hp hno
    cases i with
    | zero =>
      simp at h
      subst h
      exact ⟨0, by simp, fun j y hj => absurd hj (by omega), by simpa using Lft.skip x (mem_insC.2 (.inl rfl)) (k.mono (hup x))⟩
    | succ i =>
      obtain ⟨m, h1, h2, h3⟩ := ih (by simpa using h) hp (fun j y hj hy => hno (j + 1) y (by omega) (by simpa using hy))
      refine ⟨m + 1, by simpa using h1, fun j y hj hy => ?_, by simpa using Lft.keep x h3⟩
      cases j with
      | zero => exact hno 0 y (by omega) (by simpa using hy)
      | succ j => exact h2 j y (by omega) (by simpa using hy)
  | skip x hx k ih =>
    intro i c h hp hno
    cases i with
    | zero =>
      simp at h
      subst h
      exact absurd hp (mem_putE hx)
    | succ i =>
      obtain ⟨m, h1, h2, h3⟩ := ih (by simpa using h) hp (fun j y hj hy => hno (j + 1) y (by omega) (by simpa using hy))
      exact ⟨m, h1, h2, .skip x (hup c x hx) h3⟩
structure rdInv (n : Int) (fin : Dag) (l : List Cert) (d : Dag) (left : List Cert) : Prop where
  inv : bdInv n fin (d, left)
  lft : Lft d l left
  len : d.certs.length + left.length ≤ l.length
def rdSt (l : List Cert) : Bool × Dag → AF × List AB
  | (b, d) => ([(1, .d (.sl 6 (certsD l))), (4, .ptr 0 0), (5, .ptr 1 0), (6, .d (.bool b))], [.cells [.d (.int .i64 0), .d (.int .i64 0), .d .nils], .cells [.d (.int .i64 d.nodes), .d (.int .i64 d.low), .d (cDn d.certs)]])
def rdIn (l : List Cert) : Nat × Bool × Dag → AF × List AB
  | (i, b, d) => ([(1, .d (.sl 6 (certsD l))), (4, .ptr 0 0), (5, .ptr 1 0), (6, .d (.bool b)), (7, .d (.int .i64 i))], [.cells [.d (.int .i64 0), .d (.int .i64 0), .d .nils], .cells [.d (.int .i64 d.nodes), .d (.int .i64 d.low), .d (cDn d.certs)]])
structure rdGood (n : Int) (fin : Dag) (l : List Cert) (s : Bool × Dag) : Prop where
  inv : ∃ left, rdInv n fin l s.2 left
  fin : s.1 = false → fin = s.2
structure rdGoodI (n : Int) (fin : Dag) (l : List Cert) (d : Dag) (s : Nat × Bool × Dag) : Prop where
  le : s.1 ≤ l.length
  no : s.2.1 = false → s.2.2 = d ∧ ∀ (j : Nat) y, j < s.1 → l[j]? = some y → putE d y ≠ 0
  yes : s.2.1 = true → (∃ left, rdInv n fin l s.2.2 left) ∧ s.2.2.certs.length = d.certs.length + 1
theorem add_dn (d : Dag) (h : Valid d) (c : Cert) (hct : c.tiny) (hfl : fewL c) (hok : okCert d.nodes c) :
    ACalls Tryz.prog 59 [.agg [.d (.int .i64 d.nodes), .d (.int .i64 d.low), .d (cDn d.certs)], c.av] [] (fun av L => av = .tup [(putD d c).av, .d (.int .i64 (putE d c))] ∧ L = []) :=
  acalls_args (cDn_args d.certs) (rAdd_ok d h c hct hfl hok)
set_option maxHeartbeats 8000000 in
theorem rDag_row (n : Int) (hn : isN n = true) (l : List Cert) (hl : l.length ≤ 60000) (hok : ∀ c ∈ l, okCert n c ∧ c.tiny ∧ fewL c) (fin : Dag) (hfin : fin = buildF l.length ⟨n, 0, []⟩ l) :
    ACalls Tryz.prog 24 [.d (.int .i64 n), .d (.sl 6 (certsD l))] [] (bdPost fin) := by
  have hcl := certsD_length l
  have hnn := of_decide_eq_true hn
  refine acalls_go ttOk zOk foOk Tryz.func24 rfl Tryz.ntmps24 rfl false rfl ?_
  conv => whnf
  refine loop_go ttOk zOk foOk (σ := Bool × Dag) (rdSt l) (rdGood n fin l) (fun s => l.length - s.2.certs.length + (if s.1 then 1 else 0)) [1, 4, 5, 6] ?_ ?_
  · conv => whnf
    exact ⟨(true, ⟨n, 0, []⟩), rfl, rfl, ⟨l, ⟨zero_valid hn, rfl, fun c hc => ⟨(hok c hc).1, (hok c hc).2.1⟩, by simpa using hl, hfin.symm⟩, Lft.all _ _, by simp⟩, fun h => by cases h⟩
  · rintro ⟨b, d⟩ hg0
    have hg : rdGood n fin l (b, d) := hg0
    clear hg0
    cases b with
    | false =>
      conv => whnf
      repeat' (first | ((with_reducible apply rd_intro); (focus (intro K hK; (conv => whnf); first | exact hK | (intro z hz; rw [wrapI (by omega)] at hz; subst hz; exact hK))); (conv => whnf)) | ((with_reducible apply gd_and); (focus ((conv => whnf) <;> first | rfl | (intro K hK; (conv => whnf); first | exact hK | (intro z hz; rw [wrapI (by omega)] at hz; subst hz; exact hK)))); (conv => whnf)) | ((with_reducible apply z_wrap); (focus omega); (conv => whnf)) | ((with_reducible first | apply mt_dec | apply mt_eq | apply mt_ne | apply mt_not | apply mt_any) <;> (intro _; conv => whnf)))
      obtain rfl : fin = d := hg.fin rfl
      exact ⟨rfl, rfl⟩
    | true =>
      obtain ⟨left, hinv⟩ := hg.inv
      have hil : d.certs.length + left.length ≤ l.length := hinv.len
      conv => whnf
      repeat' (first | ((with_reducible apply rd_intro); (focus (intro K hK; (conv => whnf); first | exact hK | (intro z hz; rw [wrapI (by omega)] at hz; subst hz; exact hK))); (conv => whnf)) | ((with_reducible apply gd_and); (focus ((conv => whnf) <;> first | rfl | (intro K hK; (conv => whnf); first | exact hK | (intro z hz; rw [wrapI (by omega)] at hz; subst hz; exact hK)))); (conv => whnf)) | ((with_reducible apply z_wrap); (focus omega); (conv => whnf)) | ((with_reducible first | apply mt_dec | apply mt_eq | apply mt_ne | apply mt_not | apply mt_any) <;> (intro _; conv => whnf)))
      have hll : l.length - d.certs.length + 1 ≥ 1 := by omega
      refine loop_go ttOk zOk foOk (σ := Nat × Bool × Dag) (rdIn l) (rdGoodI n fin l d) (fun s => l.length - s.1) [1, 4, 5, 6, 7] ?_ ?_
      · conv => whnf
        exact ⟨(0, false, d), rfl, rfl, ⟨Nat.zero_le _, fun _ => ⟨rfl, fun j y h => absurd h (by omega)⟩, fun h => by cases h⟩⟩
      · rintro ⟨i, b2, d2⟩ hin0
        have hin : rdGoodI n fin l d (i, b2, d2) := hin0
        clear hin0
        have hi : i ≤ l.length := hin.le
        cases b2 with
        | true =>
          obtain ⟨hex, hlen2⟩ := hin.yes rfl
          have hlen3 : d2.certs.length = d.certs.length + 1 := hlen2
          conv => whnf
          rw [hcl]
          repeat' (first | ((with_reducible apply rd_intro); (focus (intro K hK; (conv => whnf); first | exact hK | (intro z hz; rw [wrapI (by omega)] at hz; subst hz; exact hK))); (conv => whnf)) | ((with_reducible apply gd_and); (focus ((conv => whnf) <;> first | rfl | (intro K hK; (conv => whnf); first | exact hK | (intro z hz; rw [wrapI (by omega)] at hz; subst hz; exact hK)))); (conv => whnf)) | ((with_reducible apply z_wrap); (focus omega); (conv => whnf)) | ((with_reducible first | apply mt_dec | apply mt_eq | apply mt_ne | apply mt_not | apply mt_any) <;> (intro _; conv => whnf)))
          all_goals exact ⟨(true, d2), rfl, rfl, ⟨hex, fun h => by cases h⟩, by show l.length - d2.certs.length + 1 < l.length - d.certs.length + 1; obtain ⟨lf, hlf⟩ := hex; have : d2.certs.length + lf.length ≤ l.length := hlf.len; omega⟩
        | false =>
          obtain ⟨he, hno⟩ := hin.no rfl
          obtain rfl : d2 = d := he
          conv => whnf
          rw [hcl]
          repeat' (first | ((with_reducible apply rd_intro); (focus (intro K hK; (conv => whnf); first | exact hK | (intro z hz; rw [wrapI (by omega)] at hz; subst hz; exact hK))); (conv => whnf)) | ((with_reducible apply gd_and); (focus ((conv => whnf) <;> first | rfl | (intro K hK; (conv => whnf); first | exact hK | (intro z hz; rw [wrapI (by omega)] at hz; subst hz; exact hK)))); (conv => whnf)) | ((with_reducible apply z_wrap); (focus omega); (conv => whnf)) | ((with_reducible first | apply mt_dec | apply mt_eq | apply mt_ne | apply mt_not | apply mt_any) <;> (intro _; conv => whnf)))
          · rename_i hil2
            replace hil2 : (i : Int) < l.length := hil2
            refine Exists.elim (⟨_, List.getElem?_eq_getElem (by omega)⟩ : ∃ c, l[i]? = some c) fun c hc => ?_
            have hcm := hok c (List.mem_of_getElem? hc)
            have hadd := add_dn d2 hinv.inv.val c hcm.2.1 hcm.2.2 (by rw [show d2.nodes = n from hinv.inv.nodes]; exact hcm.1)
            ((with_reducible refine draw_pl ttOk zOk foOk mixedOk pl24x8 ?_ ?_); (focus kernel_rfl); (conv => whnf))
            repeat' (first | ((with_reducible apply rd_intro); (focus (intro K hK; (conv => whnf); first | exact hK | (intro z hz; rw [wrapI (by omega)] at hz; subst hz; exact hK))); (conv => whnf)) | ((with_reducible apply gd_and); (focus ((conv => whnf) <;> first | rfl | (intro K hK; (conv => whnf); first | exact hK | (intro z hz; rw [wrapI (by omega)] at hz; subst hz; exact hK)))); (conv => whnf)) | ((with_reducible apply z_wrap); (focus omega); (conv => whnf)) | ((with_reducible first | apply mt_dec | apply mt_eq | apply mt_ne | apply mt_not | apply mt_any) <;> (intro _; conv => whnf)))
            ((with_reducible apply rd_intro); (focus (intro K hK; (conv => whnf); exact ⟨by omega, c.cs, certsD_at hc, hK⟩)); (conv => whnf))
            repeat' (first | ((with_reducible apply rd_intro); (focus (intro K hK; (conv => whnf); first | exact hK | (intro z hz; rw [wrapI (by omega)] at hz; subst hz; exact hK))); (conv => whnf)) | ((with_reducible apply gd_and); (focus ((conv => whnf) <;> first | rfl | (intro K hK; (conv => whnf); first | exact hK | (intro z hz; rw [wrapI (by omega)] at hz; subst hz; exact hK)))); (conv => whnf)) | ((with_reducible apply z_wrap); (focus omega); (conv => whnf)) | ((with_reducible first | apply mt_dec | apply mt_eq | apply mt_ne | apply mt_not | apply mt_any) <;> (intro _; conv => whnf)))
            by_cases hp : putE d2 c = 0
            · rw [hp, putD, if_pos hp] at hadd
              obtain ⟨m, hm1, hm2, hm3⟩ := hinv.lft.first hc hp hno
              have hnx := hinv.inv.next hm1 hp hm2
              have hln := insC_len d2 c
              have hlf : (insC d2 c).certs.length + (left.take m ++ left.drop (m + 1)).length ≤ l.length := by
                have : (left.take m ++ left.drop (m + 1)).length < left.length := hnx.2
                omega
              have hcd := cDn_ins d2 c
              obtain ⟨x, hx⟩ : ∃ x, insC d2 c = x := ⟨_, rfl⟩
              rw [hx] at hnx hcd hm3 hln hlf hadd
              ((with_reducible apply rd_intro); (focus (intro K hK; (conv => whnf); refine (hadd).mono ?_; rintro _ _ ⟨rfl, rfl⟩; (conv => whnf); exact hK)); (conv => whnf))
              repeat' (first | ((with_reducible apply rd_intro); (focus (intro K hK; (conv => whnf); first | exact hK | (intro z hz; rw [wrapI (by omega)] at hz; subst hz; exact hK))); (conv => whnf)) | ((with_reducible apply gd_and); (focus ((conv => whnf) <;> first | rfl | (intro K hK; (conv => whnf); first | exact hK | (intro z hz; rw [wrapI (by omega)] at hz; subst hz; exact hK)))); (conv => whnf)) | ((with_reducible apply z_wrap); (focus omega); (conv => whnf)) | ((with_reducible first | apply mt_dec | apply mt_eq | apply mt_ne | apply mt_not | apply mt_any) <;> (intro _; conv => whnf)))
              ((with_reducible apply gd_and); (focus ((conv => whnf); intro K hK; (conv => whnf); refine (hadd).mono ?_; rintro _ _ ⟨rfl, rfl⟩; (conv => whnf); exact hK)); (conv => whnf))
              repeat' (first | ((with_reducible apply rd_intro); (focus (intro K hK; (conv => whnf); first | exact hK | (intro z hz; rw [wrapI (by omega)] at hz; subst hz; exact hK))); (conv => whnf)) | ((with_reducible apply gd_and); (focus ((conv => whnf) <;> first | rfl | (intro K hK; (conv => whnf); first | exact hK | (intro z hz; rw [wrapI (by omega)] at hz; subst hz; exact hK)))); (conv => whnf)) | ((with_reducible apply z_wrap); (focus omega); (conv => whnf)) | ((with_reducible first | apply mt_dec | apply mt_eq | apply mt_ne | apply mt_not | apply mt_any) <;> (intro _; conv => whnf)))
              ((with_reducible apply gd_and); (focus ((conv => whnf); intro K hK; (conv => whnf); exact ⟨by omega, c.cs, certsD_at hc, hK⟩)); (conv => whnf))
              repeat' (first | ((with_reducible apply rd_intro); (focus (intro K hK; (conv => whnf); first | exact hK | (intro z hz; rw [wrapI (by omega)] at hz; subst hz; exact hK))); (conv => whnf)) | ((with_reducible apply gd_and); (focus ((conv => whnf) <;> first | rfl | (intro K hK; (conv => whnf); first | exact hK | (intro z hz; rw [wrapI (by omega)] at hz; subst hz; exact hK)))); (conv => whnf)) | ((with_reducible apply z_wrap); (focus omega); (conv => whnf)) | ((with_reducible first | apply mt_dec | apply mt_eq | apply mt_ne | apply mt_not | apply mt_any) <;> (intro _; conv => whnf)))
              refine ⟨(i + 1, true, x), rfl, ?_, ⟨by show i + 1 ≤ l.length; omega, fun h => (by cases h), fun _ => ⟨⟨_, hnx.1, hm3, hlf⟩, hln⟩⟩, by show l.length - (i + 1) < l.length - i; omega⟩
              rw [rdIn, hcd]
            · obtain ⟨pe, hpe⟩ : ∃ pe, putE d2 c = pe := ⟨_, rfl⟩
              rw [hpe] at hp hadd
              rw [putD, hpe, if_neg hp] at hadd
              ((with_reducible apply rd_intro); (focus (intro K hK; (conv => whnf); refine (hadd).mono ?_; rintro _ _ ⟨rfl, rfl⟩; (conv => whnf); exact hK)); (conv => whnf))
              repeat' (first | ((with_reducible apply rd_intro); (focus (intro K hK; (conv => whnf); first | exact hK | (intro z hz; rw [wrapI (by omega)] at hz; subst hz; exact hK))); (conv => whnf)) | ((with_reducible apply gd_and); (focus ((conv => whnf) <;> first | rfl | (intro K hK; (conv => whnf); first | exact hK | (intro z hz; rw [wrapI (by omega)] at hz; subst hz; exact hK)))); (conv => whnf)) | ((with_reducible apply z_wrap); (focus omega); (conv => whnf)) | ((with_reducible first | apply mt_dec | apply mt_eq | apply mt_ne | apply mt_not | apply mt_any) <;> (intro _; conv => whnf)))
              ((with_reducible apply gd_and); (focus ((conv => whnf); intro K hK; (conv => whnf); refine (hadd).mono ?_; rintro _ _ ⟨rfl, rfl⟩; (conv => whnf); exact hK)); (conv => whnf))
              repeat' (first | ((with_reducible apply rd_intro); (focus (intro K hK; (conv => whnf); first | exact hK | (intro z hz; rw [wrapI (by omega)] at hz; subst hz; exact hK))); (conv => whnf)) | ((with_reducible apply gd_and); (focus ((conv => whnf) <;> first | rfl | (intro K hK; (conv => whnf); first | exact hK | (intro z hz; rw [wrapI (by omega)] at hz; subst hz; exact hK)))); (conv => whnf)) | ((with_reducible apply z_wrap); (focus omega); (conv => whnf)) | ((with_reducible first | apply mt_dec | apply mt_eq | apply mt_ne | apply mt_not | apply mt_any) <;> (intro _; conv => whnf)))
              ((with_reducible apply gd_and); (focus ((conv => whnf); intro K hK; (conv => whnf); exact ⟨by omega, c.cs, certsD_at hc, hK⟩)); (conv => whnf))
              repeat' (first | ((with_reducible apply rd_intro); (focus (intro K hK; (conv => whnf); first | exact hK | (intro z hz; rw [wrapI (by omega)] at hz; subst hz; exact hK))); (conv => whnf)) | ((with_reducible apply gd_and); (focus ((conv => whnf) <;> first | rfl | (intro K hK; (conv => whnf); first | exact hK | (intro z hz; rw [wrapI (by omega)] at hz; subst hz; exact hK)))); (conv => whnf)) | ((with_reducible apply z_wrap); (focus omega); (conv => whnf)) | ((with_reducible first | apply mt_dec | apply mt_eq | apply mt_ne | apply mt_not | apply mt_any) <;> (intro _; conv => whnf)))
              · rename_i h0
                exact absurd h0 hp
              · refine ⟨(i + 1, false, d2), rfl, rfl, ⟨by show i + 1 ≤ l.length; omega, fun _ => ⟨rfl, fun j y hj hy => ?_⟩, fun h => by cases h⟩, by show l.length - (i + 1) < l.length - i; omega⟩
                replace hj : j < i + 1 := hj
                rcases Nat.lt_or_ge j i with h4 | h4
                · exact hno j y h4 hy
                · obtain rfl : j = i := by omega
                  rw [hc] at hy; cases hy; rw [hpe]; exact hp
          · rename_i hil2
            replace hil2 : ¬ (i : Int) < l.length := hil2
            refine ⟨(false, d2), rfl, rfl, ⟨⟨left, hinv⟩, fun _ => hinv.inv.stop fun j c hj hc => ?_⟩, by show l.length - d2.certs.length + 0 < l.length - d2.certs.length + 1; omega⟩
            exact hinv.lft.none (fun y hy => by
              obtain ⟨k, hk⟩ := List.getElem?_of_mem hy
              exact hno k y (by show k < i; have := (List.getElem?_eq_some_iff.1 hk).1; omega) hk) c (List.mem_of_getElem? hc)
theorem rDag_ok (n : Int) (hn : isN n = true) (l : List Cert) (hl : l.length ≤ 60000) (hok : ∀ c ∈ l, okCert n c ∧ c.tiny ∧ fewL c) :
    ACalls Tryz.prog 24 [.d (.int .i64 n), .d (.sl 6 (certsD l))] [] (fun av L => av = (buildD n l).av ∧ L = []) := by
  refine acalls_post3 (rDag_row n hn l hl hok (buildD n l) rfl) ?_
  rintro _ _ ⟨rfl, rfl⟩
  exact ⟨_, ⟨rfl, rfl⟩, cDn_post _⟩
end Go.Proofs.YtoeppembokpjkaaGreat

namespace Go.Proofs.YtoeppembokpjkaaGreat
open Go.Ab Go.RowKit Go.MapKept
attribute [local irreducible] ACalls AW ADraw Into fltB fnear
set_option maxRecDepth 100000
/-! ## weights -/
def Cert.light (c : Cert) : Prop := c.bats.length ≤ 3000 ∧ c.pars.length ≤ 3000 ∧ c.sigs.length ≤ 3000
theorem certsW3_ok (l : List Cert) (hl : few l) (h : ∀ c ∈ l, c.ok) : ACalls Tryz.prog 58 [.d (.sl 6 (certsD l))] [] (fun av L => (∃ n : Int, av = .d (.int .i64 n) ∧ (n ≤ 3000 → ∀ c ∈ l, c.light)) ∧ L = []) := by
  have hcl := certsD_length l
  unfold few at hl
  refine acalls_go ttOk zOk foOk Tryz.func58 rfl Tryz.ntmps58 rfl false rfl ?_
  conv => whnf
  refine loop_go2 ttOk zOk foOk (σ := Int) (ρ := Nat) (fun w j => ([(0, .d (.sl 6 (certsD l))), (3, .d (.int .i64 w)), (4, .d (.int .i64 j))], [])) (fun w j => j ≤ l.length ∧ (0 ≤ w ∧ w ≤ 1000000000000000) ∧ (w ≤ 3000 → ∀ c ∈ l.take j, c.light)) (fun _ j => l.length - j) [0, 3, 4] ?_ ?_
  · conv => whnf
    exact ⟨l.length, 0, by rw [hcl]; rfl, rfl, by omega, ⟨by omega, by omega⟩, by simp⟩
  · rintro w j ⟨hj, ⟨hw0, hw1⟩, hall⟩
    conv => whnf
    rw [hcl]
    repeat' (first | ((with_reducible apply z_wrap); (focus omega); (conv => whnf)) | ((with_reducible first | apply mt_dec | apply mt_eq | apply mt_ne | apply mt_not | apply mt_any) <;> (intro _; conv => whnf)))
    · rename_i hjl hwl
      refine Exists.elim (⟨_, List.getElem?_eq_getElem (by omega)⟩ : ∃ c, l[j]? = some c) fun c hc => ?_
      have hk := h c (List.mem_of_getElem? hc)
      have h1 := hk.bats.1
      have h2 := hk.pars.1
      have h3 := hk.sigs.1
      unfold few at h1 h2 h3
      refine ⟨by omega, c.cs, certsD_at hc, ?_⟩
      conv => whnf
      refine (certW_ok c hk).mono ?_
      rintro _ _ ⟨rfl, rfl⟩
      conv => whnf
      repeat' (first | ((with_reducible apply z_wrap); (focus omega); (conv => whnf)) | ((with_reducible first | apply mt_dec | apply mt_eq | apply mt_ne | apply mt_not | apply mt_any) <;> (intro _; conv => whnf)))
      refine ⟨_, j + 1, rfl, rfl, ⟨by omega, ⟨by omega, by omega⟩, fun hw y hy => ?_⟩, by omega⟩
      rw [take_snoc' hc] at hy
      rcases List.mem_append.1 hy with hy | hy
      · exact hall (by omega) y hy
      · simp at hy; rw [hy]; exact ⟨by omega, by omega, by omega⟩
    · exact ⟨⟨_, rfl, fun hw => by omega⟩, rfl⟩
    · rw [List.take_of_length_le (by omega)] at hall
      exact ⟨⟨_, rfl, hall⟩, rfl⟩
end Go.Proofs.YtoeppembokpjkaaGreat

namespace Go.Proofs.YtoeppembokpjkaaGreat
open Go.Ab Go.RowKit Go.MapKept
attribute [local irreducible] ACalls AW ADraw Into fltB fnear
set_option maxRecDepth 100000
/-! ## the page's May, Order, Follows -/
theorem rMay25_ok (n : Int) (l : List Cert) (hl : l.length ≤ 60000) (hf : ∀ c ∈ l, fewL c) : ACalls Tryz.prog 35 [.d (.int .i64 n), .d (.sl 6 (certsD l))] [] (fun av L => av = .d (.bool (okAll n l)) ∧ L = []) := by
  have hcl := certsD_length l
  refine acalls_go ttOk zOk foOk Tryz.func35 rfl Tryz.ntmps35 rfl false rfl ?_
  conv => whnf
  refine (rMay_ok n).mono ?_
  rintro _ _ ⟨rfl, rfl⟩
  cases hn : isN n with
  | false =>
    conv => whnf
    repeat' (first | ((with_reducible apply z_wrap); (focus omega); (conv => whnf)) | ((with_reducible first | apply mt_dec | apply mt_eq | apply mt_ne | apply mt_not | apply mt_any) <;> (intro _; conv => whnf)))
    exact ⟨by rw [okAll, hn]; rfl, rfl⟩
  | true =>
    conv => whnf
    repeat' (first | ((with_reducible apply z_wrap); (focus omega); (conv => whnf)) | ((with_reducible first | apply mt_dec | apply mt_eq | apply mt_ne | apply mt_not | apply mt_any) <;> (intro _; conv => whnf)))
    refine loop_go ttOk zOk foOk (σ := Nat) (fun i => ([(0, .d (.int .i64 n)), (1, .d (.sl 6 (certsD l))), (5, .d (.int .i64 i))], [])) (fun i => i ≤ l.length ∧ ∀ c ∈ l.take i, okC n c = true) (fun i => l.length - i) [0, 1, 5] ?_ ?_
    · conv => whnf
      exact ⟨0, rfl, rfl, Nat.zero_le _, by simp⟩
    · rintro i ⟨hi, hall⟩
      conv => whnf
      rw [hcl]
      repeat' (first | ((with_reducible apply z_wrap); (focus omega); (conv => whnf)) | ((with_reducible first | apply mt_dec | apply mt_eq | apply mt_ne | apply mt_not | apply mt_any) <;> (intro _; conv => whnf)))
      · rename_i hil
        refine Exists.elim (⟨_, List.getElem?_eq_getElem (by omega)⟩ : ∃ c, l[i]? = some c) fun c hc => ?_
        refine ⟨by omega, c.cs, certsD_at hc, ?_⟩
        conv => whnf
        repeat' (first | ((with_reducible apply z_wrap); (focus omega); (conv => whnf)) | ((with_reducible first | apply mt_dec | apply mt_eq | apply mt_ne | apply mt_not | apply mt_any) <;> (intro _; conv => whnf)))
        refine (rCert_ok c (hf c (List.mem_of_getElem? hc)) n).mono ?_
        rintro _ _ ⟨rfl, rfl⟩
        rw [show (@decide (okCert n c) (Classical.propDecidable _)) = okC n c from rfl]
        cases hb : okC n c with
        | true =>
          conv => whnf
          repeat' (first | ((with_reducible apply z_wrap); (focus omega); (conv => whnf)) | ((with_reducible first | apply mt_dec | apply mt_eq | apply mt_ne | apply mt_not | apply mt_any) <;> (intro _; conv => whnf)))
          refine ⟨i + 1, rfl, rfl, ⟨by omega, fun y hy => ?_⟩, by omega⟩
          rw [List.take_add_one, hc] at hy
          rcases List.mem_append.1 hy with h | h
          · exact hall y h
          · simp at h; rw [h]; exact hb
        | false =>
          conv => whnf
          repeat' (first | ((with_reducible apply z_wrap); (focus omega); (conv => whnf)) | ((with_reducible first | apply mt_dec | apply mt_eq | apply mt_ne | apply mt_not | apply mt_any) <;> (intro _; conv => whnf)))
          refine ⟨?_, rfl⟩
          have : okAll n l = false := by
            rw [okAll, hn]
            simp only [Bool.true_and, List.all_eq_false]
            exact ⟨c, List.mem_of_getElem? hc, by simp [hb]⟩
          rw [this]; rfl
      · rename_i hil
        have : okAll n l = true := by
          rw [okAll, hn, List.take_of_length_le (by omega)] at *
          simp only [Bool.true_and, List.all_eq_true]
          exact hall
        rw [this]
        exact ⟨rfl, rfl⟩
theorem nil_cur {x a b : AV} {r : List AV} : ∀ (R : RC) (vs : List Value), VRt R (x :: .agg [a, .d .nils, b] :: r) vs → VRt R (x :: .agg [a, .d (.sl 1 []), b] :: r) vs := by
  intro R vs h
  simp only [VRt, VR, VRs] at h ⊢
  obtain ⟨u, us', rfl, h0, w, ws, rfl, ⟨us, rfl, u1, r1, e1, h1, h2, u2, r2, rfl, h3, h4, u3, r3, rfl, h5, h6, rfl⟩, h7⟩ := h
  exact ⟨_, _, rfl, h0, _, _, rfl, ⟨us, rfl, u1, _, e1, h1, h2, u2, _, rfl, h3, nil_sl (by decide) h4, u3, [], rfl, h5, h6, rfl⟩, h7⟩
theorem stepZ_ok (d : Dag) (h : Valid d) (h0 : d.low = 0) : ACalls Tryz.prog 12 [d.av, zCurAV] [] (fun av L => av = (finW d cz).out ∧ L = []) := by
  have hs := rStep_ok d h cz cz_may
  have hno : ¬ old d cz := fun ho => by have := ho.1; omega
  rw [show stepAV d cz = (finW d cz).out by unfold stepAV; rw [if_neg hno]] at hs
  exact acalls_args nil_cur hs
theorem rOrder25_ok (n : Int) (l : List Cert) (hl : l.length ≤ 60000) (hf : ∀ c ∈ l, fewL c ∧ c.tiny) (hok : okAll n l = true) : ACalls Tryz.prog 31 [.d (.int .i64 n), .d (.sl 6 (certsD l))] [] (fun av L => av = .d (.sl 1 (nums (outsD (buildD n l)))) ∧ L = []) := by
  obtain ⟨h1, h2⟩ := okAll_iff.1 hok
  obtain ⟨hval, _, hlow, _⟩ := buildD_valid h1 hl h2
  have hdag := rDag_ok n h1 l hl fun c hc => ⟨h2 c hc, (hf c hc).2, (hf c hc).1⟩
  obtain ⟨d, hd⟩ : ∃ d, buildD n l = d := ⟨_, rfl⟩
  rw [hd] at hval hdag hlow ⊢
  refine acalls_go ttOk zOk foOk Tryz.func31 rfl Tryz.ntmps31 rfl false rfl ?_
  conv => whnf
  refine hdag.mono ?_
  rintro _ _ ⟨rfl, rfl⟩
  conv => whnf
  refine (stepZ_ok d hval hlow).mono ?_
  rintro _ _ ⟨rfl, rfl⟩
  rw [outsD, Wk.out]
  obtain ⟨fw, hfw⟩ : ∃ fw, finW d cz = fw := ⟨_, rfl⟩
  rw [hfw]
  conv => whnf
  repeat' (first | ((with_reducible apply z_wrap); (focus omega); (conv => whnf)) | ((with_reducible first | apply mt_dec | apply mt_eq | apply mt_ne | apply mt_not | apply mt_any) <;> (intro _; conv => whnf)))
  exact ⟨rfl, rfl⟩
theorem rFollows25_ok (n : Int) (l : List Cert) (hl : l.length ≤ 60000) (hf : ∀ c ∈ l, fewL c ∧ c.tiny) (hok : okAll n l = true) (xs : List Int) (hx : few xs) : ACalls Tryz.prog 32 [.d (.int .i64 n), .d (.sl 6 (certsD l)), .d (.sl 1 (nums xs))] [] (fun av L => av = .d (.bool (begins xs (outsD (buildD n l)))) ∧ L = []) := by
  have hord := rOrder25_ok n l hl hf hok
  have hxl := nums_length xs
  unfold few at hx
  obtain ⟨ys, hys⟩ : ∃ ys, outsD (buildD n l) = ys := ⟨_, rfl⟩
  rw [hys] at hord ⊢
  have hyl := nums_length ys
  refine acalls_go ttOk zOk foOk Tryz.func32 rfl Tryz.ntmps32 rfl false rfl ?_
  conv => whnf
  refine hord.mono ?_
  rintro _ _ ⟨rfl, rfl⟩
  conv => whnf
  repeat' (first | ((with_reducible apply z_wrap); (focus omega); (conv => whnf)) | ((with_reducible first | apply mt_dec | apply mt_eq | apply mt_ne | apply mt_not | apply mt_any) <;> (intro _; conv => whnf)))
  · rename_i h
    rw [hxl, hyl] at h
    have hle : xs.length ≤ ys.length := by omega
    refine ⟨by omega, by omega, by rw [hxl, hyl]; omega, ?_⟩
    conv => whnf
    rw [show List.drop (Int.toNat 0) (List.take ((nums xs).length : Int).toNat (nums ys)) = nums (ys.take xs.length) by
      rw [hxl, show (Int.toNat 0) = 0 from rfl, List.drop_zero, Int.toNat_natCast, begins_take hle]]
    refine (eqNumbers_ok xs (ys.take xs.length) (by unfold few; omega)).mono ?_
    rintro _ _ ⟨rfl, rfl⟩
    conv => whnf
    refine ⟨?_, rfl⟩
    rw [begins]
    by_cases h2 : xs = ys.take xs.length
    · rw [decide_eq_true h2, decide_eq_true ⟨hle, h2⟩]
    · rw [decide_eq_false h2, decide_eq_false (fun h3 => h2 h3.2)]
  · rename_i h
    rw [hxl, hyl] at h
    refine ⟨?_, rfl⟩
    rw [begins, decide_eq_false (fun h3 => h (by omega))]
    rfl
/-! ## what is asked -/
structure AskA where
  n : Int
  l : List Cert
  outs : List Int
def AskA.cells (p : AskA) : List AV := [.d (.int .i64 p.n), .d (.sl 6 (certsD p.l)), .d (.sl 1 (nums p.outs))]
def AskA.av (p : AskA) : AV := .agg p.cells
structure AskA.ok (p : AskA) : Prop where
  n : i64 p.n
  l : few p.l ∧ ∀ c ∈ p.l, c.ok
  outs : few p.outs ∧ ∀ x ∈ p.outs, i64 x
structure AskA.light (p : AskA) : Prop where
  len : p.l.length ≤ 60
  light : ∀ c ∈ p.l, c.light
  outs : p.outs.length ≤ 200
theorem heavy25_ok (p : AskA) (h : p.ok) : ACalls Tryz.prog 22 [p.av] [] (fun av L => (∃ b, av = .d (.bool b) ∧ (b = false → p.light)) ∧ L = []) := by
  have hcl := certsD_length p.l
  have hol := nums_length p.outs
  refine acalls_go ttOk zOk foOk Tryz.func22 rfl Tryz.ntmps22 rfl false rfl ?_
  conv => whnf
  rw [hcl]
  repeat' (first | ((with_reducible apply z_wrap); (focus omega); (conv => whnf)) | ((with_reducible first | apply mt_dec | apply mt_eq | apply mt_ne | apply mt_not | apply mt_any) <;> (intro _; conv => whnf)))
  · exact ⟨⟨_, rfl, fun e => by cases e⟩, rfl⟩
  · rename_i h1
    refine (certsW3_ok p.l h.l.1 h.l.2).mono ?_
    rintro _ _ ⟨⟨w, rfl, hw⟩, rfl⟩
    conv => whnf
    repeat' (first | ((with_reducible apply z_wrap); (focus omega); (conv => whnf)) | ((with_reducible first | apply mt_dec | apply mt_eq | apply mt_ne | apply mt_not | apply mt_any) <;> (intro _; conv => whnf)))
    · exact ⟨⟨_, rfl, fun e => by cases e⟩, rfl⟩
    · rename_i h2
      refine ⟨⟨_, rfl, fun e => ⟨by omega, hw (by omega), ?_⟩⟩, rfl⟩
      have := of_decide_eq_false e
      omega
theorem Cert.light.all {c : Cert} (h : c.light) : fewL c ∧ c.tiny := by
  obtain ⟨h1, h2, h3⟩ := h
  exact ⟨⟨by unfold few; omega, by unfold few; omega, by unfold few; omega⟩, ⟨by show c.bats.length ≤ _; omega, by show c.pars.length ≤ _; omega, by show c.sigs.length ≤ _; omega⟩⟩
theorem AskA.light.all {p : AskA} (h : p.light) : ∀ c ∈ p.l, fewL c ∧ c.tiny := fun c hc => (h.light c hc).all
theorem form25_ok (p : AskA) (h : p.light) : ACalls Tryz.prog 23 [p.av] [] (fun av L => av = .d (.int .i64 (ordE p.n p.l)) ∧ L = []) := by
  have hlen := h.len
  have hm := rMay25_ok p.n p.l (by omega) fun c hc => (h.all c hc).1
  rw [ordE]
  refine acalls_go ttOk zOk foOk Tryz.func23 rfl Tryz.ntmps23 rfl false rfl ?_
  conv => whnf
  refine hm.mono ?_
  rintro _ _ ⟨rfl, rfl⟩
  cases okAll p.n p.l with
  | true =>
    conv => whnf
    exact ⟨rfl, rfl⟩
  | false =>
    conv => whnf
    exact ⟨rfl, rfl⟩
theorem num25_ok (n : Int) : ACalls Tryz.prog 27 [.d (.int .i64 n)] [] (fun av L => av = .d (.int .i64 n) ∧ L = []) := by
  refine acalls_go ttOk zOk foOk Tryz.func27 rfl Tryz.ntmps27 rfl false rfl ?_
  conv => whnf
  exact ⟨rfl, rfl⟩
/-! ## audit.Dag, as data -/
theorem ownCerts_row (l : List Cert) (hl : tiny l) (h : ∀ c ∈ l, c.tiny) : ACalls Tryz.prog 90 [.d (.sl 6 (certsD l))] [] (fun av L => av = .arr 0 ∧ L = [.row 68 6 (certsD l) false]) := by
  have hx := certsD_length l
  unfold tiny at hl
  refine acalls_go ttOk zOk foOk Tryz.func90 rfl Tryz.ntmps90 rfl true rfl ?_
  conv => whnf
  refine loop_go ttOk zOk foOk (σ := Nat) (fun k => ([(5, .d (.sl 6 (certsD l))), (6, .d (.int .i64 l.length)), (7, .d (.int .i64 k)), (2, .arr 0)], [.row 68 6 (certsD (l.take k)) false])) (fun k => k ≤ l.length) (fun k => l.length - k) [5, 6, 7, 2] ?_ ?_
  · conv => whnf
    exact ⟨0, by rw [hx]; rfl, rfl, by omega⟩
  · intro k hk
    conv => whnf
    repeat' (first | ((with_reducible apply z_wrap); (focus omega); (conv => whnf)) | ((with_reducible first | apply mt_dec | apply mt_eq | apply mt_ne | apply mt_not | apply mt_any) <;> (intro _; conv => whnf)))
    · rename_i h2
      refine Exists.elim (⟨_, List.getElem?_eq_getElem (by omega)⟩ : ∃ a, l[k]? = some a) fun a ha => ?_
      have hkn := certsD_length (l.take k)
      refine ⟨by omega, a.cs, certsD_at ha, ?_⟩
      conv => whnf
      repeat' (first | ((with_reducible apply z_wrap); (focus omega); (conv => whnf)) | ((with_reducible first | apply mt_dec | apply mt_eq | apply mt_ne | apply mt_not | apply mt_any) <;> (intro _; conv => whnf)))
      refine (ownCert_ok a (h a (List.mem_of_getElem? ha))).mono ?_
      rintro _ _ ⟨rfl, rfl⟩
      conv => whnf
      repeat' (first | ((with_reducible apply z_wrap); (focus omega); (conv => whnf)) | ((with_reducible first | apply mt_dec | apply mt_eq | apply mt_ne | apply mt_not | apply mt_any) <;> (intro _; conv => whnf)))
      refine ⟨by simp [hkn]; omega, ?_⟩
      conv => whnf
      repeat' (first | ((with_reducible apply z_wrap); (focus omega); (conv => whnf)) | ((with_reducible first | apply mt_dec | apply mt_eq | apply mt_ne | apply mt_not | apply mt_any) <;> (intro _; conv => whnf)))
      refine ⟨k + 1, rfl, ?_, by omega, by omega⟩
      rw [List.take_add_one, ha]
      simp [certsD, Cert.cs]
    · rename_i h2
      rw [List.take_of_length_le (by omega)]
      exact ⟨rfl, rfl⟩
theorem dagOwn_row (d : Dag) (hl : tiny d.certs) (h : ∀ c ∈ d.certs, c.tiny) : ACalls Tryz.prog 62 [d.av] [] (fun av L => av = .agg [.d (.int .i64 d.nodes), .d (.int .i64 d.low), .arr 0] ∧ L = [.row 68 6 (certsD d.certs) false]) := by
  have h1 := ownCerts_row d.certs hl h
  refine acalls_go ttOk zOk foOk Tryz.func62 rfl Tryz.ntmps62 rfl true rfl ?_
  conv => whnf
  refine h1.mono ?_
  rintro _ _ ⟨rfl, rfl⟩
  conv => whnf
  repeat' (first | ((with_reducible apply z_wrap); (focus omega); (conv => whnf)) | ((with_reducible first | apply mt_dec | apply mt_eq | apply mt_ne | apply mt_not | apply mt_any) <;> (intro _; conv => whnf)))
  exact ⟨rfl, rfl⟩
theorem dagOwn_ok (d : Dag) (hl : tiny d.certs) (h : ∀ c ∈ d.certs, c.tiny) : ACalls Tryz.prog 62 [d.av] [] (fun av L => av = d.av ∧ L = []) := by
  refine acalls_data (dagOwn_row d hl h) ?_
  rintro _ _ ⟨rfl, rfl⟩
  conv => whnf
  exact ⟨rfl, rfl⟩
noncomputable def adagAV (n : Int) (l : List Cert) : AV := if okAll n l = true then .tup [(buildD n l).av, .d (.int .i64 0)] else .tup [.agg [.d (.int .i64 0), .d (.int .i64 0), .d .nils], .d (.int .i64 1)]
theorem auditDag_ok (n : Int) (l : List Cert) (hl : l.length ≤ 60000) (hf : ∀ c ∈ l, fewL c ∧ c.tiny) : ACalls Tryz.prog 26 [.d (.int .i64 n), .d (.sl 6 (certsD l))] [] (fun av L => av = adagAV n l ∧ L = []) := by
  have hmay := auditMay_ok n l (by unfold few; omega) (fun c hc => (hf c hc).1)
  rw [show (isN n && l.all fun c => okC n c) = okAll n l from rfl] at hmay
  refine acalls_go ttOk zOk foOk Tryz.func26 rfl Tryz.ntmps26 rfl false rfl ?_
  conv => whnf
  refine hmay.mono ?_
  rintro _ _ ⟨rfl, rfl⟩
  rw [adagAV]
  cases hb : okAll n l with
  | false =>
    conv => whnf
    repeat' (first | ((with_reducible apply z_wrap); (focus omega); (conv => whnf)) | ((with_reducible first | apply mt_dec | apply mt_eq | apply mt_ne | apply mt_not | apply mt_any) <;> (intro _; conv => whnf)))
    exact ⟨rfl, rfl⟩
  | true =>
    obtain ⟨h1, h2⟩ := okAll_iff.1 hb
    have hval := (buildD_valid h1 hl h2).1
    have hto := dagOwn_ok (buildD n l) hval.tiny.1 hval.tiny.2
    conv => whnf
    repeat' (first | ((with_reducible apply z_wrap); (focus omega); (conv => whnf)) | ((with_reducible first | apply mt_dec | apply mt_eq | apply mt_ne | apply mt_not | apply mt_any) <;> (intro _; conv => whnf)))
    refine (build_ok n h1 l hl fun c hc => ⟨h2 c hc, (hf c hc).2⟩).mono ?_
    rintro _ _ ⟨rfl, rfl⟩
    obtain ⟨d, hd⟩ : ∃ d, buildD n l = d := ⟨_, rfl⟩
    rw [hd] at hto ⊢
    conv => whnf
    refine hto.mono ?_
    rintro _ _ ⟨rfl, rfl⟩
    conv => whnf
    repeat' (first | ((with_reducible apply z_wrap); (focus omega); (conv => whnf)) | ((with_reducible first | apply mt_dec | apply mt_eq | apply mt_ne | apply mt_not | apply mt_any) <;> (intro _; conv => whnf)))
    exact ⟨rfl, rfl⟩
/-! ## wakes -/
def cw : Cert := ⟨1, 1, [], [], 3, [1]⟩
theorem cw_ok : okCert 1 cw := by
  refine ⟨⟨by decide, by decide, by decide, ⟨by decide, List.Pairwise.nil, by simp [cw]⟩, ⟨by decide, List.Pairwise.nil, by simp [cw]⟩, fun _ => rfl, fun h => absurd rfl h⟩, by decide, ⟨List.pairwise_singleton _ _, by simp [cw]⟩, by decide⟩
theorem cw_all : okAll 1 [cw] = true := okAll_iff.2 ⟨by decide, fun c hc => by rw [List.mem_singleton.1 hc]; exact cw_ok⟩
theorem cw_build : buildD 1 [cw] = ⟨1, 0, [cw]⟩ := by rfl
theorem few_nil {α : Type} : few ([] : List α) := Nat.zero_le _
theorem cw_few : fewL cw ∧ cw.tiny := ⟨⟨few_nil, few_nil, by show 1 ≤ _; decide⟩, ⟨Nat.zero_le _, Nat.zero_le _, by show 1 ≤ _; decide⟩⟩
theorem wakes25_ok : ACalls Tryz.prog 30 [] [] (fun av L => av = .d (.bool true) ∧ L = []) := by
  have h1 := follows_audit 4 [] (by decide) (by simp) [] few_nil
  rw [show folB 4 [] [] = true by simp [folB, okAll, begins, isN], show ordE 4 [] = 0 by simp [ordE, okAll, isN]] at h1
  have h2 := auditDag_ok 1 [cw] (by decide) (fun c hc => by rw [List.mem_singleton.1 hc]; exact cw_few)
  rw [adagAV, if_pos cw_all, cw_build] at h2
  refine acalls_go ttOk zOk foOk Tryz.func30 rfl Tryz.ntmps30 rfl false rfl ?_
  conv => whnf
  refine h1.mono ?_
  rintro _ _ ⟨rfl, rfl⟩
  conv => whnf
  repeat' (first | ((with_reducible apply z_wrap); (focus omega); (conv => whnf)) | ((with_reducible first | apply mt_dec | apply mt_eq | apply mt_ne | apply mt_not | apply mt_any) <;> (intro _; conv => whnf)))
  (refine Or.inl ?_; (conv => whnf))
  refine h2.mono ?_
  rintro _ _ ⟨rfl, rfl⟩
  conv => whnf
  repeat' (first | ((with_reducible apply z_wrap); (focus omega); (conv => whnf)) | ((with_reducible first | apply mt_dec | apply mt_eq | apply mt_ne | apply mt_not | apply mt_any) <;> (intro _; conv => whnf)))
  refine (num25_ok 0).mono ?_
  rintro _ _ ⟨rfl, rfl⟩
  conv => whnf
  repeat' (first | ((with_reducible apply z_wrap); (focus omega); (conv => whnf)) | ((with_reducible first | apply mt_dec | apply mt_eq | apply mt_ne | apply mt_not | apply mt_any) <;> (intro _; conv => whnf)))
  refine (num25_ok 0).mono ?_
  rintro _ _ ⟨rfl, rfl⟩
  conv => whnf
  repeat' (first | ((with_reducible apply z_wrap); (focus omega); (conv => whnf)) | ((with_reducible first | apply mt_dec | apply mt_eq | apply mt_ne | apply mt_not | apply mt_any) <;> (intro _; conv => whnf)))
  exact ⟨rfl, rfl⟩
end Go.Proofs.YtoeppembokpjkaaGreat

namespace Go.Proofs.YtoeppembokpjkaaGreat
open Go.Ab Go.RowKit
theorem askA_nums {xs : List (List DV)} (h : ∀ x ∈ xs, ∃ n, x = [DV.int .i64 n] ∧ (Lit.int .i64 n).wf = true) : ∃ l : List Int, xs = nums l ∧ ∀ n ∈ l, i64 n :=
  map_of (f := fun n : Int => [.int .i64 n]) fun x hx => by
    obtain ⟨n, h1, h2⟩ := h x hx
    have hb : -9223372036854775808 ≤ n ∧ n ≤ 9223372036854775807 := by simpa [Lit.wf, IntKind.min, IntKind.max, IntKind.signed, IntKind.bits] using h2
    exact ⟨n, h1, hb.1, by omega⟩
theorem askA_i64 {n : Int} (h2 : (Lit.int .i64 n).wf = true) : i64 n := by
  have hb : -9223372036854775808 ≤ n ∧ n ≤ 9223372036854775807 := by simpa [Lit.wf, IntKind.min, IntKind.max, IntKind.signed, IntKind.bits] using h2
  exact ⟨hb.1, by omega⟩
theorem askA_row {a : List DV} (h : ∃ xs, a = [DV.sl 1 xs] ∧ xs.length * 8 ≤ 140737488355328 ∧ ∀ x ∈ xs, ∃ n, x = [DV.int .i64 n] ∧ (Lit.int .i64 n).wf = true) : ∃ l : List Int, a = [.sl 1 (nums l)] ∧ few l ∧ ∀ n ∈ l, i64 n := by
  obtain ⟨xs, rfl, h1, h2⟩ := h
  obtain ⟨l, rfl, hl⟩ := askA_nums h2
  rw [nums_length] at h1
  exact ⟨l, rfl, by unfold few; omega, hl⟩
theorem askA_cert {ds : List DV} (h : DTy tt 4 68 ds) : ∃ c : Cert, ds = c.cs ∧ c.ok := by
  replace h : DTyF (DTy tt 3) [66, 3, 26] ds := h
  obtain ⟨a1, b1, rfl, h1, a2, b2, rfl, h2, a3, b3, rfl, h3, rfl⟩ := h
  replace h1 : DTyF (DTy tt 2) [3, 3, 26, 26] a1 := h1
  obtain ⟨a4, b4, rfl, h4, a5, b5, rfl, h5, a6, b6, rfl, h6, a7, b7, rfl, h7, rfl⟩ := h1
  replace h4 : ∃ x, a4 = [.int .i64 x] ∧ (Lit.int .i64 x).wf = true := h4
  replace h5 : ∃ x, a5 = [.int .i64 x] ∧ (Lit.int .i64 x).wf = true := h5
  replace h2 : ∃ x, a2 = [.int .i64 x] ∧ (Lit.int .i64 x).wf = true := h2
  obtain ⟨l6, rfl, f6, e6⟩ := askA_row h6
  obtain ⟨l7, rfl, f7, e7⟩ := askA_row h7
  obtain ⟨l3, rfl, f3, e3⟩ := askA_row h3
  obtain ⟨x4, rfl, w4⟩ := h4
  obtain ⟨x5, rfl, w5⟩ := h5
  obtain ⟨x2, rfl, w2⟩ := h2
  exact ⟨⟨x4, x5, l6, l7, x2, l3⟩, rfl, askA_i64 w4, askA_i64 w5, ⟨f6, e6⟩, ⟨f7, e7⟩, askA_i64 w2, ⟨f3, e3⟩⟩
theorem askA_of {ds : List DV} (h : DTy tt 6 49 ds) : ∃ p : AskA, argS ds = p.av ∧ p.ok := by
  replace h : DTyF (DTy tt 5) [3, 22, 26] ds := h
  obtain ⟨a1, b1, rfl, h1, a2, b2, rfl, h2, a3, b3, rfl, h3, rfl⟩ := h
  replace h1 : ∃ x, a1 = [.int .i64 x] ∧ (Lit.int .i64 x).wf = true := h1
  replace h2 : ∃ xs, a2 = [.sl 6 xs] ∧ xs.length * 96 ≤ 140737488355328 ∧ ∀ x ∈ xs, DTy tt 4 68 x := h2
  obtain ⟨x1, rfl, w1⟩ := h1
  obtain ⟨x2, rfl, w2, e2⟩ := h2
  obtain ⟨l, rfl, hl⟩ := map_of (f := Cert.cs) fun x hx => askA_cert (e2 x hx)
  obtain ⟨l3, rfl, f3, e3⟩ := askA_row h3
  simp only [List.length_map] at w2
  exact ⟨⟨x1, l, l3⟩, rfl, askA_i64 w1, ⟨by show l.length ≤ _; omega, hl⟩, ⟨f3, e3⟩⟩
end Go.Proofs.YtoeppembokpjkaaGreat

namespace Go.Proofs.YtoeppembokpjkaaGreat
open Go.Ab Go.RowKit Go.MapKept
attribute [local irreducible] ACalls AW ADraw Into fltB fnear
set_option maxRecDepth 100000
/-! ## AuditOrders -/
theorem few_outs {d : Dag} (h : Valid d) : (outsD d).length ≤ 4294967296 := fin_len h
theorem begins_self (ys : List Int) (k : Nat) (h : k ≤ ys.length) : begins (ys.take k) ys = true := by
  have : (ys.take k).length = k := by rw [List.length_take]; omega
  rw [begins, this]
  simp [h]
def aoSt (p : AskA) (ys : List Int) (k : Nat) : AF × List AB := ([(1, .ptr 0 0), (3, .d (.int .i64 0)), (4, .d (.sl 1 (nums ys))), (10, .d (.int .i64 k))], [.cells p.cells])
set_option maxHeartbeats 4000000 in
theorem auditOrders_ok (p : AskA) (hp : p.ok) : ACalls Tryz.prog 5 [p.av] [] (fun av L => av = .d (.bool true) ∧ L = []) := by
  refine acalls_go ttOk zOk foOk Tryz.func5 rfl Tryz.ntmps5 rfl false rfl ?_
  conv => whnf
  refine (heavy25_ok p hp).mono ?_
  rintro _ _ ⟨⟨b, rfl, hb⟩, rfl⟩
  cases b with
  | true =>
    conv => whnf
    exact ⟨rfl, rfl⟩
  | false =>
    have hl := hb rfl
    have hlen := hl.len
    have hf := hl.all
    have hform := form25_ok p hl
    have hord := order_audit p.n p.l (by omega) hf
    have hfol := follows_audit p.n p.l (by omega) hf p.outs hp.outs.1
    conv => whnf
    refine hform.mono ?_
    rintro _ _ ⟨rfl, rfl⟩
    cases hok : okAll p.n p.l with
    | false =>
      rw [folB, hok, ordE, if_neg (by rw [hok]; decide)] at hfol
      rw [ordE, ordL, if_neg (by rw [hok]; decide), if_neg (by rw [hok]; decide)] at hord
      rw [ordE, if_neg (by rw [hok]; decide)]
      conv => whnf
      repeat' (first | ((with_reducible apply rd_intro); (focus (intro K hK; (conv => whnf); first | exact hK | (intro z hz; rw [wrapI (by omega)] at hz; subst hz; exact hK))); (conv => whnf)) | ((with_reducible apply gd_and); (focus ((conv => whnf) <;> first | rfl | (intro K hK; (conv => whnf); first | exact hK | (intro z hz; rw [wrapI (by omega)] at hz; subst hz; exact hK)))); (conv => whnf)) | ((with_reducible apply z_wrap); (focus omega); (conv => whnf)) | ((with_reducible first | apply mt_dec | apply mt_eq | apply mt_ne | apply mt_not | apply mt_any) <;> (intro _; conv => whnf)))
      refine hord.mono ?_
      rintro _ _ ⟨rfl, rfl⟩
      conv => whnf
      repeat' (first | ((with_reducible apply rd_intro); (focus (intro K hK; (conv => whnf); first | exact hK | (intro z hz; rw [wrapI (by omega)] at hz; subst hz; exact hK))); (conv => whnf)) | ((with_reducible apply gd_and); (focus ((conv => whnf) <;> first | rfl | (intro K hK; (conv => whnf); first | exact hK | (intro z hz; rw [wrapI (by omega)] at hz; subst hz; exact hK)))); (conv => whnf)) | ((with_reducible apply z_wrap); (focus omega); (conv => whnf)) | ((with_reducible first | apply mt_dec | apply mt_eq | apply mt_ne | apply mt_not | apply mt_any) <;> (intro _; conv => whnf)))
      refine hfol.mono ?_
      rintro _ _ ⟨rfl, rfl⟩
      conv => whnf
      repeat' (first | ((with_reducible apply rd_intro); (focus (intro K hK; (conv => whnf); first | exact hK | (intro z hz; rw [wrapI (by omega)] at hz; subst hz; exact hK))); (conv => whnf)) | ((with_reducible apply gd_and); (focus ((conv => whnf) <;> first | rfl | (intro K hK; (conv => whnf); first | exact hK | (intro z hz; rw [wrapI (by omega)] at hz; subst hz; exact hK)))); (conv => whnf)) | ((with_reducible apply z_wrap); (focus omega); (conv => whnf)) | ((with_reducible first | apply mt_dec | apply mt_eq | apply mt_ne | apply mt_not | apply mt_any) <;> (intro _; conv => whnf)))
      refine (num25_ok 1).mono ?_
      rintro _ _ ⟨rfl, rfl⟩
      conv => whnf
      repeat' (first | ((with_reducible apply rd_intro); (focus (intro K hK; (conv => whnf); first | exact hK | (intro z hz; rw [wrapI (by omega)] at hz; subst hz; exact hK))); (conv => whnf)) | ((with_reducible apply gd_and); (focus ((conv => whnf) <;> first | rfl | (intro K hK; (conv => whnf); first | exact hK | (intro z hz; rw [wrapI (by omega)] at hz; subst hz; exact hK)))); (conv => whnf)) | ((with_reducible apply z_wrap); (focus omega); (conv => whnf)) | ((with_reducible first | apply mt_dec | apply mt_eq | apply mt_ne | apply mt_not | apply mt_any) <;> (intro _; conv => whnf)))
      (refine Or.inl ?_; (conv => whnf))
      refine (eqNumbers_ok [] [] few_nil).mono ?_
      rintro _ _ ⟨rfl, rfl⟩
      conv => whnf
      repeat' (first | ((with_reducible apply rd_intro); (focus (intro K hK; (conv => whnf); first | exact hK | (intro z hz; rw [wrapI (by omega)] at hz; subst hz; exact hK))); (conv => whnf)) | ((with_reducible apply gd_and); (focus ((conv => whnf) <;> first | rfl | (intro K hK; (conv => whnf); first | exact hK | (intro z hz; rw [wrapI (by omega)] at hz; subst hz; exact hK)))); (conv => whnf)) | ((with_reducible apply z_wrap); (focus omega); (conv => whnf)) | ((with_reducible first | apply mt_dec | apply mt_eq | apply mt_ne | apply mt_not | apply mt_any) <;> (intro _; conv => whnf)))
      refine (num25_ok 1).mono ?_
      rintro _ _ ⟨rfl, rfl⟩
      conv => whnf
      repeat' (first | ((with_reducible apply rd_intro); (focus (intro K hK; (conv => whnf); first | exact hK | (intro z hz; rw [wrapI (by omega)] at hz; subst hz; exact hK))); (conv => whnf)) | ((with_reducible apply gd_and); (focus ((conv => whnf) <;> first | rfl | (intro K hK; (conv => whnf); first | exact hK | (intro z hz; rw [wrapI (by omega)] at hz; subst hz; exact hK)))); (conv => whnf)) | ((with_reducible apply z_wrap); (focus omega); (conv => whnf)) | ((with_reducible first | apply mt_dec | apply mt_eq | apply mt_ne | apply mt_not | apply mt_any) <;> (intro _; conv => whnf)))
      refine loop_go ttOk zOk foOk (σ := Unit) (fun _ => ([(3, .d (.int .i64 1)), (4, .arr 0), (10, .d (.int .i64 0))], [.row 3 1 [] true])) (fun _ => True) (fun _ => 0) [3, 4, 10] ?_ ?_
      · conv => whnf
        exact ⟨(), rfl, rfl, trivial⟩
      · intro _ _
        conv => whnf
        repeat' (first | ((with_reducible apply rd_intro); (focus (intro K hK; (conv => whnf); first | exact hK | (intro z hz; rw [wrapI (by omega)] at hz; subst hz; exact hK))); (conv => whnf)) | ((with_reducible apply gd_and); (focus ((conv => whnf) <;> first | rfl | (intro K hK; (conv => whnf); first | exact hK | (intro z hz; rw [wrapI (by omega)] at hz; subst hz; exact hK)))); (conv => whnf)) | ((with_reducible apply z_wrap); (focus omega); (conv => whnf)) | ((with_reducible first | apply mt_dec | apply mt_eq | apply mt_ne | apply mt_not | apply mt_any) <;> (intro _; conv => whnf)))
        refine wakes25_ok.mono ?_
        rintro _ _ ⟨rfl, rfl⟩
        conv => whnf
        exact ⟨rfl, rfl⟩
    | true =>
      have hro := rOrder25_ok p.n p.l (by omega) hf hok
      have hrf := rFollows25_ok p.n p.l (by omega) hf hok p.outs hp.outs.1
      obtain ⟨ys, hys⟩ : ∃ ys, outsD (buildD p.n p.l) = ys := ⟨_, rfl⟩
      have hol : ordL p.n p.l = ys := by rw [ordL, if_pos hok, hys]
      have hyl := nums_length ys
      rw [folB, hok, hol, ordE, if_pos hok, Bool.true_and] at hfol
      rw [hol, ordE, if_pos hok] at hord
      rw [hys] at hro hrf
      rw [ordE, if_pos hok]
      obtain ⟨fb, hfb⟩ : ∃ fb, begins p.outs ys = fb := ⟨_, rfl⟩
      rw [hfb] at hfol hrf
      conv => whnf
      repeat' (first | ((with_reducible apply rd_intro); (focus (intro K hK; (conv => whnf); first | exact hK | (intro z hz; rw [wrapI (by omega)] at hz; subst hz; exact hK))); (conv => whnf)) | ((with_reducible apply gd_and); (focus ((conv => whnf) <;> first | rfl | (intro K hK; (conv => whnf); first | exact hK | (intro z hz; rw [wrapI (by omega)] at hz; subst hz; exact hK)))); (conv => whnf)) | ((with_reducible apply z_wrap); (focus omega); (conv => whnf)) | ((with_reducible first | apply mt_dec | apply mt_eq | apply mt_ne | apply mt_not | apply mt_any) <;> (intro _; conv => whnf)))
      refine hro.mono ?_
      rintro _ _ ⟨rfl, rfl⟩
      conv => whnf
      repeat' (first | ((with_reducible apply rd_intro); (focus (intro K hK; (conv => whnf); first | exact hK | (intro z hz; rw [wrapI (by omega)] at hz; subst hz; exact hK))); (conv => whnf)) | ((with_reducible apply gd_and); (focus ((conv => whnf) <;> first | rfl | (intro K hK; (conv => whnf); first | exact hK | (intro z hz; rw [wrapI (by omega)] at hz; subst hz; exact hK)))); (conv => whnf)) | ((with_reducible apply z_wrap); (focus omega); (conv => whnf)) | ((with_reducible first | apply mt_dec | apply mt_eq | apply mt_ne | apply mt_not | apply mt_any) <;> (intro _; conv => whnf)))
      refine hrf.mono ?_
      rintro _ _ ⟨rfl, rfl⟩
      conv => whnf
      repeat' (first | ((with_reducible apply rd_intro); (focus (intro K hK; (conv => whnf); first | exact hK | (intro z hz; rw [wrapI (by omega)] at hz; subst hz; exact hK))); (conv => whnf)) | ((with_reducible apply gd_and); (focus ((conv => whnf) <;> first | rfl | (intro K hK; (conv => whnf); first | exact hK | (intro z hz; rw [wrapI (by omega)] at hz; subst hz; exact hK)))); (conv => whnf)) | ((with_reducible apply z_wrap); (focus omega); (conv => whnf)) | ((with_reducible first | apply mt_dec | apply mt_eq | apply mt_ne | apply mt_not | apply mt_any) <;> (intro _; conv => whnf)))
      refine hord.mono ?_
      rintro _ _ ⟨rfl, rfl⟩
      conv => whnf
      repeat' (first | ((with_reducible apply rd_intro); (focus (intro K hK; (conv => whnf); first | exact hK | (intro z hz; rw [wrapI (by omega)] at hz; subst hz; exact hK))); (conv => whnf)) | ((with_reducible apply gd_and); (focus ((conv => whnf) <;> first | rfl | (intro K hK; (conv => whnf); first | exact hK | (intro z hz; rw [wrapI (by omega)] at hz; subst hz; exact hK)))); (conv => whnf)) | ((with_reducible apply z_wrap); (focus omega); (conv => whnf)) | ((with_reducible first | apply mt_dec | apply mt_eq | apply mt_ne | apply mt_not | apply mt_any) <;> (intro _; conv => whnf)))
      refine hfol.mono ?_
      rintro _ _ ⟨rfl, rfl⟩
      conv => whnf
      repeat' (first | ((with_reducible apply rd_intro); (focus (intro K hK; (conv => whnf); first | exact hK | (intro z hz; rw [wrapI (by omega)] at hz; subst hz; exact hK))); (conv => whnf)) | ((with_reducible apply gd_and); (focus ((conv => whnf) <;> first | rfl | (intro K hK; (conv => whnf); first | exact hK | (intro z hz; rw [wrapI (by omega)] at hz; subst hz; exact hK)))); (conv => whnf)) | ((with_reducible apply z_wrap); (focus omega); (conv => whnf)) | ((with_reducible first | apply mt_dec | apply mt_eq | apply mt_ne | apply mt_not | apply mt_any) <;> (intro _; conv => whnf)))
      refine (num25_ok 0).mono ?_
      rintro _ _ ⟨rfl, rfl⟩
      conv => whnf
      repeat' (first | ((with_reducible apply rd_intro); (focus (intro K hK; (conv => whnf); first | exact hK | (intro z hz; rw [wrapI (by omega)] at hz; subst hz; exact hK))); (conv => whnf)) | ((with_reducible apply gd_and); (focus ((conv => whnf) <;> first | rfl | (intro K hK; (conv => whnf); first | exact hK | (intro z hz; rw [wrapI (by omega)] at hz; subst hz; exact hK)))); (conv => whnf)) | ((with_reducible apply z_wrap); (focus omega); (conv => whnf)) | ((with_reducible first | apply mt_dec | apply mt_eq | apply mt_ne | apply mt_not | apply mt_any) <;> (intro _; conv => whnf)))
      have hval := (buildD_valid (okAll_iff.1 hok).1 (by omega) (okAll_iff.1 hok).2).1
      have hyf : ys.length ≤ 4294967296 := by rw [← hys]; exact few_outs hval
      have hfy : few ys := by unfold few; omega
      refine (eqNumbers_ok ys ys hfy).mono ?_
      rintro _ _ ⟨rfl, rfl⟩
      rw [decide_eq_true rfl]
      conv => whnf
      repeat' (first | ((with_reducible apply rd_intro); (focus (intro K hK; (conv => whnf); first | exact hK | (intro z hz; rw [wrapI (by omega)] at hz; subst hz; exact hK))); (conv => whnf)) | ((with_reducible apply gd_and); (focus ((conv => whnf) <;> first | rfl | (intro K hK; (conv => whnf); first | exact hK | (intro z hz; rw [wrapI (by omega)] at hz; subst hz; exact hK)))); (conv => whnf)) | ((with_reducible apply z_wrap); (focus omega); (conv => whnf)) | ((with_reducible first | apply mt_dec | apply mt_eq | apply mt_ne | apply mt_not | apply mt_any) <;> (intro _; conv => whnf)))
      refine (num25_ok 0).mono ?_
      rintro _ _ ⟨rfl, rfl⟩
      conv => whnf
      repeat' (first | ((with_reducible apply rd_intro); (focus (intro K hK; (conv => whnf); first | exact hK | (intro z hz; rw [wrapI (by omega)] at hz; subst hz; exact hK))); (conv => whnf)) | ((with_reducible apply gd_and); (focus ((conv => whnf) <;> first | rfl | (intro K hK; (conv => whnf); first | exact hK | (intro z hz; rw [wrapI (by omega)] at hz; subst hz; exact hK)))); (conv => whnf)) | ((with_reducible apply z_wrap); (focus omega); (conv => whnf)) | ((with_reducible first | apply mt_dec | apply mt_eq | apply mt_ne | apply mt_not | apply mt_any) <;> (intro _; conv => whnf)))
      · rename_i h; cases fb <;> cases h
      refine loop_go ttOk zOk foOk (σ := Nat) (aoSt p ys) (fun k => k ≤ 2 * ys.length + 1) (fun k => 2 * ys.length + 2 - k) [1, 3, 4, 10] ?_ ?_
      · conv => whnf
        exact ⟨0, rfl, rfl, Nat.zero_le _⟩
      · intro k hk
        conv => whnf
        rw [hyl]
        repeat' (first | ((with_reducible apply rd_intro); (focus (intro K hK; (conv => whnf); first | exact hK | (intro z hz; rw [wrapI (by omega)] at hz; subst hz; exact hK))); (conv => whnf)) | ((with_reducible apply gd_and); (focus ((conv => whnf) <;> first | rfl | (intro K hK; (conv => whnf); first | exact hK | (intro z hz; rw [wrapI (by omega)] at hz; subst hz; exact hK)))); (conv => whnf)) | ((with_reducible apply z_wrap); (focus omega); (conv => whnf)) | ((with_reducible first | apply mt_dec | apply mt_eq | apply mt_ne | apply mt_not | apply mt_any) <;> (intro _; conv => whnf)))
        · rename_i hky
          have hf2 := follows_audit p.n p.l (by omega) hf (ys.take k) (by unfold few; exact Nat.le_trans (List.length_take_le' ..) (by omega))
          rw [folB, hok, hol, ordE, if_pos hok, Bool.true_and, begins_self ys k (by omega)] at hf2
          ((with_reducible refine draw_pl ttOk zOk foOk mixedOk pl5x14 ?_ ?_); (focus kernel_rfl); (conv => whnf))
          repeat' (first | ((with_reducible apply rd_intro); (focus (intro K hK; (conv => whnf); first | exact hK | (intro z hz; rw [wrapI (by omega)] at hz; subst hz; exact hK))); (conv => whnf)) | ((with_reducible apply gd_and); (focus ((conv => whnf) <;> first | rfl | (intro K hK; (conv => whnf); first | exact hK | (intro z hz; rw [wrapI (by omega)] at hz; subst hz; exact hK)))); (conv => whnf)) | ((with_reducible apply z_wrap); (focus omega); (conv => whnf)) | ((with_reducible first | apply mt_dec | apply mt_eq | apply mt_ne | apply mt_not | apply mt_any) <;> (intro _; conv => whnf)))
          have htk : List.drop (Int.toNat 0) (List.take ((k : Int)).toNat (nums ys)) = nums (ys.take k) := by
            rw [show (Int.toNat 0) = 0 from rfl, List.drop_zero, show ((k : Int)).toNat = k from rfl]
            simp [nums]
          ((with_reducible apply rd_intro); (focus (intro K hK; (conv => whnf); exact ⟨by omega, by omega, by rw [hyl]; omega, hK⟩)); (conv => whnf))
          repeat' (first | ((with_reducible apply rd_intro); (focus (intro K hK; (conv => whnf); first | exact hK | (intro z hz; rw [wrapI (by omega)] at hz; subst hz; exact hK))); (conv => whnf)) | ((with_reducible apply gd_and); (focus ((conv => whnf) <;> first | rfl | (intro K hK; (conv => whnf); first | exact hK | (intro z hz; rw [wrapI (by omega)] at hz; subst hz; exact hK)))); (conv => whnf)) | ((with_reducible apply z_wrap); (focus omega); (conv => whnf)) | ((with_reducible first | apply mt_dec | apply mt_eq | apply mt_ne | apply mt_not | apply mt_any) <;> (intro _; conv => whnf)))
          rw [htk]
          refine hf2.mono ?_
          rintro _ _ ⟨rfl, rfl⟩
          conv => whnf
          repeat' (first | ((with_reducible apply rd_intro); (focus (intro K hK; (conv => whnf); first | exact hK | (intro z hz; rw [wrapI (by omega)] at hz; subst hz; exact hK))); (conv => whnf)) | ((with_reducible apply gd_and); (focus ((conv => whnf) <;> first | rfl | (intro K hK; (conv => whnf); first | exact hK | (intro z hz; rw [wrapI (by omega)] at hz; subst hz; exact hK)))); (conv => whnf)) | ((with_reducible apply z_wrap); (focus omega); (conv => whnf)) | ((with_reducible first | apply mt_dec | apply mt_eq | apply mt_ne | apply mt_not | apply mt_any) <;> (intro _; conv => whnf)))
          refine (num25_ok 0).mono ?_
          rintro _ _ ⟨rfl, rfl⟩
          conv => whnf
          repeat' (first | ((with_reducible apply rd_intro); (focus (intro K hK; (conv => whnf); first | exact hK | (intro z hz; rw [wrapI (by omega)] at hz; subst hz; exact hK))); (conv => whnf)) | ((with_reducible apply gd_and); (focus ((conv => whnf) <;> first | rfl | (intro K hK; (conv => whnf); first | exact hK | (intro z hz; rw [wrapI (by omega)] at hz; subst hz; exact hK)))); (conv => whnf)) | ((with_reducible apply z_wrap); (focus omega); (conv => whnf)) | ((with_reducible first | apply mt_dec | apply mt_eq | apply mt_ne | apply mt_not | apply mt_any) <;> (intro _; conv => whnf)))
          refine ⟨by decide, ?_⟩
          rw [hyl]
          intro z hz
          have hz2 : z = (ys.length : Int) / 5 := by rw [hz, Int.tdiv_eq_ediv_of_nonneg (by omega), wrapI (by omega)]
          clear hz
          subst hz2
          conv => whnf
          ((with_reducible apply z_wrap); (focus omega); (conv => whnf))
          obtain ⟨m, hm⟩ : ∃ m : Nat, (ys.length : Int) / 5 = m := ⟨ys.length / 5, by omega⟩
          rw [hm]
          refine ⟨k + 1 + m, rfl, ?_, by omega, by omega⟩
          rfl
        · refine wakes25_ok.mono ?_
          rintro _ _ ⟨rfl, rfl⟩
          conv => whnf
          exact ⟨rfl, rfl⟩
end Go.Proofs.YtoeppembokpjkaaGreat

/- AuditOrders: for every argument the law returns true, and its argument reads behind the call as it read before. No condition of ours. -/
namespace Go.Proofs.YtoeppembokpjkaaGreat
open Go.Ab Go.RowKit Go.ChangeShapes Go.WideShapes Go.ChangeAt
theorem own : ownKnob Tryz.prog.godebug = none := by kernel_rfl
theorem laidOut : laidOutB Tryz.prog = true := by kernel_rfl
set_option maxRecDepth 100000 in
theorem auditOrders_lifted (os : Os) (started : os.Started) (H : Type) (enc : TypeId × Value → H) :
    ReturnsInHanded {} Tryz.checked os 5 .any (Rows.auditOrdersSpec.pre6 enc Tryz.prog Tryz.f5 Rows.auditOrdersRow.domain false) (Rows.auditOrdersSpec.post enc Tryz.prog Tryz.f5 false true false false) := by
  refine returnsInHanded_of_change_sized (C := Tryz.checked) own started (by kernel_rfl) Tryz.func5
    (ChangeSpec.witness6 (enc := enc) (C := Tryz.checked) false ⟨#[], #[.agg #[.int .i64 0, .slice none 0 0, .slice none 0 0]], []⟩ 8 (by kernel_rfl) (by kernel_rfl) (by kernel_rfl) (by kernel_rfl)) ?_
  intro W base args ds gs before hval hW _ hsz _
  exact law_contract ttOk (f := Tryz.f5) (tb := 4) (t := 49) rfl rfl Tryz.underlying4 rfl (fun _ _ => rfl) laidOut (by kernel_rfl) (of_decide_eq_true (by kernel_rfl)) 6 (by kernel_rfl) argS
    (fun W base v ds h1 h2 => argS_ok Tryz.underlying49 h1 h2)
    (fun ds hd => by
      obtain ⟨p, hp, hok⟩ := askA_of hd
      rw [hp]
      exact auditOrders_ok p hok) hval hW hsz
theorem auditOrders_holds : Rows.AuditOrdersSaid :=
  OpenClaim.holds_of_wide 5 Tryz.f5 rfl rfl rfl rfl rfl rfl rfl ⟨rfl, rfl, rfl, rfl, rfl⟩ rfl rfl rfl rfl rfl (by kernel_rfl) Tryz.func5 (by kernel_rfl)
    (of_decide_eq_true (by kernel_rfl)) (by unfold Func.isWrapper; first | (rw [if_pos (by decide +kernel)]; kernel_rfl) | (rw [if_neg (by decide +kernel)]; exact ⟨rfl, rfl⟩))
    (fun os started H enc _ => auditOrders_lifted os started H enc)
#print axioms auditOrders_holds
end Go.Proofs.YtoeppembokpjkaaGreat
