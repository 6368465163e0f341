/- Part of the proof of CursorExact: the contracts of the functions. -/
import Derived.Test.YtoeppembokpjkaaGreatCursorExactCodD

set_option linter.unusedVariables false
set_option linter.unusedSimpArgs false
namespace Go.Proofs.YtoeppembokpjkaaGreat
open Go.Ab Go.RowKit Go.MapKept
attribute [local irreducible] ACalls AW ADraw Into fltB fnear
set_option maxRecDepth 100000
def mkSt (d : Dag) : Int × List Int → AF × List AB
  | (k, ks) => ([(2, .ptr 0 0), (5, .arr 1), (6, .d (.int .i64 k))], [.cells d.cells, .row 4 1 (bools (marksB d ks)) false])
def mkSp (d : Dag) (k : Int) (c : Cert) (ks : List Int) (j : Nat) : AF × List AB :=
  ([(2, .ptr 0 0), (5, .arr 1), (6, .d (.int .i64 k)), (7, .ptr 2 0), (8, .d (.int .i64 j))], [.cells d.cells, .row 4 1 (bools (marksB d ks)) false, .cells c.hcells])
theorem Valid.few' {d : Dag} (h : Valid d) : few d.certs := by have := h.len; unfold few; omega
theorem Valid.pars' {d : Dag} (h : Valid d) {c : Cert} (hc : c ∈ d.certs) : few c.pars := (h.fewL hc).pars
theorem take_snoc' {α : Type} {l : List α} {j : Nat} {c : α} (hc : l[j]? = some c) : l.take (j + 1) = l.take j ++ [c] := by rw [List.take_add_one, hc]; rfl
set_option maxHeartbeats 1000000 in
theorem marks_ok (d : Dag) (h : Valid d) (i : Nat) {c0 : Cert} (hi : d.certs[i]? = some c0) : ACalls Tryz.prog 100 [d.av, .d (.int .i64 i)] [] (fun av L => av = .d (.sl 1 (bools (marksB d (markS d c0)))) ∧ L = []) := by
  have hcl := certsD_length d.certs
  have hlen := h.len
  have hlow := h.low
  have hil : i < d.certs.length := (List.getElem?_eq_some_iff.1 hi).1
  have hml : ∀ ks, (bools (marksB d ks)).length = d.certs.length := fun ks => by rw [bools_length]; simp [marksB]
  rw [marks_start h hi]
  have hgi : getC d.certs c0.digest = some i := getC_here hi rfl fun c hc e => by
    obtain ⟨m, hm, rfl⟩ := List.mem_take_iff_getElem.1 hc
    have h4 : (d.certs.map (·.digest))[m]? = (d.certs.map (·.digest))[i]? := by
      rw [List.getElem?_map, List.getElem?_map, hi, List.getElem?_eq_getElem (by omega)]
      show some d.certs[m].digest = some c0.digest
      rw [e]
    have := (List.getElem?_inj (by simp; omega) h.dig).1 h4
    omega
  have h0 : List.replicate (((certsD d.certs).length : Int)).toNat [DV.bool false] = bools (marksB d []) := by
    rw [hcl]
    simp only [marksB, List.not_mem_nil, decide_false, bools, List.map_map]
    rw [show ((d.certs.length : Int)).toNat = d.certs.length from rfl, ← List.map_const']
    rfl
  have h1 : (bools (marksB d [])).set i [.bool true] = bools (marksB d [c0.digest]) := by
    rw [bools_set, marks_set h hgi]; rfl
  refine acalls_go ttOk zOk foOk Tryz.func100 rfl Tryz.ntmps100 rfl false rfl ?_
  conv => whnf
  refine ⟨rfl, by omega, by show _ * 1 ≤ _; omega, by omega, ?_⟩
  conv => whnf
  rw [h0]
  refine ⟨by omega, by rw [hml]; omega, ?_⟩
  conv => whnf
  refine Exists.elim (⟨_, List.getElem?_eq_getElem (by simp [marksB]; omega)⟩ : ∃ b, (marksB d [])[i]? = some b) fun b0 hb0 => ?_
  refine ⟨_, bools_at hb0, ?_⟩
  conv => whnf
  repeat' (first | ((with_reducible apply rd_intro); (focus (intro K hK; (conv => whnf); first | exact hK | (intro z hz; rw [wrapI (by omega)] at hz; subst hz; exact hK))); (conv => whnf)) | ((with_reducible apply gd_and); (focus ((conv => whnf) <;> first | rfl | (intro K hK; (conv => whnf); first | exact hK | (intro z hz; rw [wrapI (by omega)] at hz; subst hz; exact hK)))); (conv => whnf)) | ((with_reducible apply z_wrap); (focus omega); (conv => whnf)) | ((with_reducible first | apply mt_dec | apply mt_eq | apply mt_ne | apply mt_not | apply mt_any) <;> (intro _; conv => whnf)))
  refine loop_go ttOk zOk foOk (σ := Int × List Int) (mkSt d) (fun s => -1 ≤ s.1 ∧ s.1 < d.certs.length ∧ seenL d.low (d.certs.take (i + 1)).reverse [c0.digest] = seenL d.low (d.certs.take (s.1 + 1).toNat).reverse s.2) (fun s => (s.1 + 1).toNat) [2, 5, 6] ?_ ?_
  · conv => whnf
    exact ⟨((i : Int), [c0.digest]), rfl, by simp only [mkSt, ← h1]; rfl, by show -1 ≤ (i : Int); omega, by show (i : Int) < _; omega, rfl⟩
  · rintro ⟨k, ks⟩ ⟨hk1, hk2, hk3⟩
    replace hk1 : -1 ≤ k := hk1
    replace hk2 : k < d.certs.length := hk2
    replace hk3 : seenL d.low (d.certs.take (i + 1)).reverse [c0.digest] = seenL d.low (d.certs.take (k + 1).toNat).reverse ks := hk3
    conv => whnf
    repeat' (first | ((with_reducible apply rd_intro); (focus (intro K hK; (conv => whnf); first | exact hK | (intro z hz; rw [wrapI (by omega)] at hz; subst hz; exact hK))); (conv => whnf)) | ((with_reducible apply gd_and); (focus ((conv => whnf) <;> first | rfl | (intro K hK; (conv => whnf); first | exact hK | (intro z hz; rw [wrapI (by omega)] at hz; subst hz; exact hK)))); (conv => whnf)) | ((with_reducible apply z_wrap); (focus omega); (conv => whnf)) | ((with_reducible first | apply mt_dec | apply mt_eq | apply mt_ne | apply mt_not | apply mt_any) <;> (intro _; conv => whnf)))
    · rename_i hk0
      obtain ⟨m, hm⟩ : ∃ m : Nat, k = m := ⟨k.toNat, by omega⟩
      subst hm
      refine Exists.elim (⟨_, List.getElem?_eq_getElem (by omega)⟩ : ∃ c, d.certs[m]? = some c) fun c hc => ?_
      have hcm := List.mem_of_getElem? hc
      have hfp := h.pars' hcm
      have hrb := (h.certs c hcm).head.round
      have hpl := nums_length c.pars
      unfold few at hfp
      rw [show ((m : Int) + 1).toNat = m + 1 by omega, take_rev hc, seenL] at hk3
      have hmb : (marksB d ks)[m]? = some (decide (c.digest ∈ ks)) := by simp [marksB, hc]
      refine ⟨by omega, by rw [hml]; omega, ?_⟩
      conv => whnf
      refine ⟨_, bools_at hmb, ?_⟩
      conv => whnf
      by_cases hin : c.digest ∈ ks
      · rw [if_pos hin] at hk3
        rw [decide_eq_true hin]
        conv => whnf
        repeat' (first | ((with_reducible apply rd_intro); (focus (intro K hK; (conv => whnf); first | exact hK | (intro z hz; rw [wrapI (by omega)] at hz; subst hz; exact hK))); (conv => whnf)) | ((with_reducible apply gd_and); (focus ((conv => whnf) <;> first | rfl | (intro K hK; (conv => whnf); first | exact hK | (intro z hz; rw [wrapI (by omega)] at hz; subst hz; exact hK)))); (conv => whnf)) | ((with_reducible apply z_wrap); (focus omega); (conv => whnf)) | ((with_reducible first | apply mt_dec | apply mt_eq | apply mt_ne | apply mt_not | apply mt_any) <;> (intro _; conv => whnf)))
        refine ⟨by omega, c.cs, certsD_at hc, ?_⟩
        conv => whnf
        repeat' (first | ((with_reducible apply rd_intro); (focus (intro K hK; (conv => whnf); first | exact hK | (intro z hz; rw [wrapI (by omega)] at hz; subst hz; exact hK))); (conv => whnf)) | ((with_reducible apply gd_and); (focus ((conv => whnf) <;> first | rfl | (intro K hK; (conv => whnf); first | exact hK | (intro z hz; rw [wrapI (by omega)] at hz; subst hz; exact hK)))); (conv => whnf)) | ((with_reducible apply z_wrap); (focus omega); (conv => whnf)) | ((with_reducible first | apply mt_dec | apply mt_eq | apply mt_ne | apply mt_not | apply mt_any) <;> (intro _; conv => whnf)))
        by_cases hg : c.round > d.low + 1
        · rw [if_pos hg] at hk3
          refine loop_go ttOk zOk foOk (σ := Nat) (fun j => mkSp d m c (addS ks (c.pars.take j)) j) (fun j => j ≤ c.pars.length) (fun j => c.pars.length - j) [2, 5, 6, 7, 8] ?_ ?_
          · conv => whnf
            exact ⟨0, rfl, rfl, Nat.zero_le _⟩
          · intro j hj1
            conv => whnf
            repeat' (first | ((with_reducible apply rd_intro); (focus (intro K hK; (conv => whnf); first | exact hK | (intro z hz; rw [wrapI (by omega)] at hz; subst hz; exact hK))); (conv => whnf)) | ((with_reducible apply gd_and); (focus ((conv => whnf) <;> first | rfl | (intro K hK; (conv => whnf); first | exact hK | (intro z hz; rw [wrapI (by omega)] at hz; subst hz; exact hK)))); (conv => whnf)) | ((with_reducible apply z_wrap); (focus omega); (conv => whnf)) | ((with_reducible first | apply mt_dec | apply mt_eq | apply mt_ne | apply mt_not | apply mt_any) <;> (intro _; conv => whnf)))
            · rename_i hjl hg2
              refine Exists.elim (⟨_, List.getElem?_eq_getElem (by omega)⟩ : ∃ x, c.pars[j]? = some x) fun x hx => ?_
              have hsn : insS (addS ks (c.pars.take j)) x = addS ks (c.pars.take (j + 1)) := by
                rw [take_snoc' hx, addS, addS, List.foldl_append]; rfl
              ((with_reducible refine draw_pl ttOk zOk foOk mixedOk pl100x11 ?_ ?_); (focus kernel_rfl); (conv => whnf))
              repeat' (first | ((with_reducible apply rd_intro); (focus (intro K hK; (conv => whnf); first | exact hK | (intro z hz; rw [wrapI (by omega)] at hz; subst hz; exact hK))); (conv => whnf)) | ((with_reducible apply gd_and); (focus ((conv => whnf) <;> first | rfl | (intro K hK; (conv => whnf); first | exact hK | (intro z hz; rw [wrapI (by omega)] at hz; subst hz; exact hK)))); (conv => whnf)) | ((with_reducible apply z_wrap); (focus omega); (conv => whnf)) | ((with_reducible first | apply mt_dec | apply mt_eq | apply mt_ne | apply mt_not | apply mt_any) <;> (intro _; conv => whnf)))
              ((with_reducible apply rd_intro); (focus (intro K hK; (conv => whnf); exact ⟨by omega, [.int .i64 x], nums_at hx, hK⟩)); (conv => whnf))
              repeat' (first | ((with_reducible apply rd_intro); (focus (intro K hK; (conv => whnf); first | exact hK | (intro z hz; rw [wrapI (by omega)] at hz; subst hz; exact hK))); (conv => whnf)) | ((with_reducible apply gd_and); (focus ((conv => whnf) <;> first | rfl | (intro K hK; (conv => whnf); first | exact hK | (intro z hz; rw [wrapI (by omega)] at hz; subst hz; exact hK)))); (conv => whnf)) | ((with_reducible apply z_wrap); (focus omega); (conv => whnf)) | ((with_reducible first | apply mt_dec | apply mt_eq | apply mt_ne | apply mt_not | apply mt_any) <;> (intro _; conv => whnf)))
              refine (rFind_ok d h.few' x).mono ?_
              rintro _ _ ⟨rfl, rfl⟩
              conv => whnf
              repeat' (first | ((with_reducible apply rd_intro); (focus (intro K hK; (conv => whnf); first | exact hK | (intro z hz; rw [wrapI (by omega)] at hz; subst hz; exact hK))); (conv => whnf)) | ((with_reducible apply gd_and); (focus ((conv => whnf) <;> first | rfl | (intro K hK; (conv => whnf); first | exact hK | (intro z hz; rw [wrapI (by omega)] at hz; subst hz; exact hK)))); (conv => whnf)) | ((with_reducible apply z_wrap); (focus omega); (conv => whnf)) | ((with_reducible first | apply mt_dec | apply mt_eq | apply mt_ne | apply mt_not | apply mt_any) <;> (intro _; conv => whnf)))
              · rename_i h0
                cases hgx : getC d.certs x with
                | none => rw [getI, hgx] at h0; exact absurd h0 (by decide)
                | some k =>
                  have hgi : getI d.certs x = k := by rw [getI, hgx]; rfl
                  have hkl : k < d.certs.length := (List.findIdx?_eq_some_iff_getElem.1 hgx).1
                  rw [hgi]
                  refine ⟨by omega, by rw [hml]; omega, ?_⟩
                  conv => whnf
                  refine Exists.elim (⟨_, List.getElem?_eq_getElem (by simp [marksB]; omega)⟩ : ∃ b, (marksB d (addS ks (c.pars.take j)))[k]? = some b) fun b0 hb0 => ?_
                  refine ⟨_, bools_at hb0, ?_⟩
                  conv => whnf
                  repeat' (first | ((with_reducible apply rd_intro); (focus (intro K hK; (conv => whnf); first | exact hK | (intro z hz; rw [wrapI (by omega)] at hz; subst hz; exact hK))); (conv => whnf)) | ((with_reducible apply gd_and); (focus ((conv => whnf) <;> first | rfl | (intro K hK; (conv => whnf); first | exact hK | (intro z hz; rw [wrapI (by omega)] at hz; subst hz; exact hK)))); (conv => whnf)) | ((with_reducible apply z_wrap); (focus omega); (conv => whnf)) | ((with_reducible first | apply mt_dec | apply mt_eq | apply mt_ne | apply mt_not | apply mt_any) <;> (intro _; conv => whnf)))
                  refine ⟨j + 1, rfl, ?_, by omega, by omega⟩
                  simp only [mkSp, ← hsn, ← marks_set h hgx, ← bools_set]
                  rfl
              · rename_i h0
                cases hgx : getC d.certs x with
                | none =>
                  refine ⟨j + 1, rfl, ?_, by omega, by omega⟩
                  simp only [mkSp, ← hsn, marks_none hgx]
                  rfl
                | some k => rw [getI, hgx] at h0; exact absurd (show (k : Int) ≥ 0 by omega) h0
            · rename_i hjl hg2
              exact absurd hg2 (by omega)
            · rename_i hjl
              rw [List.take_of_length_le (by omega)]
              exact ⟨((m : Int) - 1, _), rfl, rfl, ⟨by show -1 ≤ (m : Int) - 1; omega, by show (m : Int) - 1 < _; omega, by rw [hk3, show ((m : Int) - 1 + 1).toNat = m by omega]⟩, by show ((m : Int) - 1 + 1).toNat < ((m : Int) + 1).toNat; omega⟩
        · rw [if_neg hg] at hk3
          refine loop_go ttOk zOk foOk (σ := Unit) (fun _ => mkSp d m c ks 0) (fun _ => True) (fun _ => 0) [2, 5, 6, 7, 8] ?_ ?_
          · conv => whnf
            exact ⟨(), rfl, rfl, trivial⟩
          · intro _ _
            conv => whnf
            repeat' (first | ((with_reducible apply rd_intro); (focus (intro K hK; (conv => whnf); first | exact hK | (intro z hz; rw [wrapI (by omega)] at hz; subst hz; exact hK))); (conv => whnf)) | ((with_reducible apply gd_and); (focus ((conv => whnf) <;> first | rfl | (intro K hK; (conv => whnf); first | exact hK | (intro z hz; rw [wrapI (by omega)] at hz; subst hz; exact hK)))); (conv => whnf)) | ((with_reducible apply z_wrap); (focus omega); (conv => whnf)) | ((with_reducible first | apply mt_dec | apply mt_eq | apply mt_ne | apply mt_not | apply mt_any) <;> (intro _; conv => whnf)))
            · rename_i hjl hg2
              exact absurd hg2 (by omega)
            · exact ⟨((m : Int) - 1, ks), rfl, rfl, ⟨by show -1 ≤ (m : Int) - 1; omega, by show (m : Int) - 1 < _; omega, by rw [hk3, show ((m : Int) - 1 + 1).toNat = m by omega]⟩, by show ((m : Int) - 1 + 1).toNat < ((m : Int) + 1).toNat; omega⟩
            · exact ⟨((m : Int) - 1, ks), rfl, rfl, ⟨by show -1 ≤ (m : Int) - 1; omega, by show (m : Int) - 1 < _; omega, by rw [hk3, show ((m : Int) - 1 + 1).toNat = m by omega]⟩, by show ((m : Int) - 1 + 1).toNat < ((m : Int) + 1).toNat; omega⟩
      · rw [if_neg hin] at hk3
        rw [decide_eq_false hin]
        conv => whnf
        repeat' (first | ((with_reducible apply rd_intro); (focus (intro K hK; (conv => whnf); first | exact hK | (intro z hz; rw [wrapI (by omega)] at hz; subst hz; exact hK))); (conv => whnf)) | ((with_reducible apply gd_and); (focus ((conv => whnf) <;> first | rfl | (intro K hK; (conv => whnf); first | exact hK | (intro z hz; rw [wrapI (by omega)] at hz; subst hz; exact hK)))); (conv => whnf)) | ((with_reducible apply z_wrap); (focus omega); (conv => whnf)) | ((with_reducible first | apply mt_dec | apply mt_eq | apply mt_ne | apply mt_not | apply mt_any) <;> (intro _; conv => whnf)))
        exact ⟨((m : Int) - 1, ks), rfl, rfl, ⟨by show -1 ≤ (m : Int) - 1; omega, by show (m : Int) - 1 < _; omega, by rw [hk3, show ((m : Int) - 1 + 1).toNat = m by omega]⟩, by show ((m : Int) - 1 + 1).toNat < ((m : Int) + 1).toNat; omega⟩
    · rename_i hk0
      rw [hk3, show (k + 1).toNat = 0 by omega]
      exact ⟨rfl, rfl⟩
end Go.Proofs.YtoeppembokpjkaaGreat

namespace Go.Proofs.YtoeppembokpjkaaGreat
open Go.Ab Go.RowKit Go.MapKept
attribute [local irreducible] ACalls AW ADraw Into fltB fnear
set_option maxRecDepth 100000
/-! ## reaching, what is below, the order -/
theorem get_at {d : Dag} (h : Valid d) {i : Nat} {c : Cert} (hi : d.certs[i]? = some c) : getC d.certs c.digest = some i := getC_here hi rfl fun c' hc e => by
  have hil : i < d.certs.length := (List.getElem?_eq_some_iff.1 hi).1
  obtain ⟨m, hm, rfl⟩ := List.mem_take_iff_getElem.1 hc
  have h4 : (d.certs.map (·.digest))[m]? = (d.certs.map (·.digest))[i]? := by
    rw [List.getElem?_map, List.getElem?_map, hi, List.getElem?_eq_getElem (by omega)]
    show some d.certs[m].digest = some c.digest
    rw [e]
  have := (List.getElem?_inj (by simp; omega) h.dig).1 h4
  omega
theorem geti_at {d : Dag} (h : Valid d) {i : Nat} {c : Cert} (hi : d.certs[i]? = some c) : getI d.certs c.digest = i := by rw [getI, get_at h hi]; rfl
theorem marksB_at {d : Dag} {ks : List Int} {i : Nat} {c : Cert} (hi : d.certs[i]? = some c) : (marksB d ks)[i]? = some (decide (c.digest ∈ ks)) := by simp [marksB, hi]
theorem rReach_ok (d : Dag) (h : Valid d) {i k : Nat} {a b : Cert} (hi : d.certs[i]? = some a) (hk : d.certs[k]? = some b) : ACalls Tryz.prog 75 [d.av, .d (.int .i64 a.digest), .d (.int .i64 b.digest)] [] (fun av L => av = .d (.bool (reachJ d i k)) ∧ L = []) := by
  have hf1 := rFind_ok d h.few' a.digest
  have hf2 := rFind_ok d h.few' b.digest
  rw [geti_at h hi] at hf1
  rw [geti_at h hk] at hf2
  have hml : (bools (marksB d (markS d a))).length = d.certs.length := by rw [bools_length]; simp [marksB]
  have hkl : k < d.certs.length := (List.getElem?_eq_some_iff.1 hk).1
  have hlen := h.len
  have hmk := marks_ok d h i hi
  rw [reach_marks h hi hk]
  refine acalls_go ttOk zOk foOk Tryz.func75 rfl Tryz.ntmps75 rfl false rfl ?_
  conv => whnf
  ((with_reducible refine draw_pl ttOk zOk foOk mixedOk pl75x1 ?_ ?_); (focus kernel_rfl); (conv => whnf))
  repeat' (first | ((with_reducible apply rd_intro); (focus (intro K hK; (conv => whnf); first | exact hK | (intro z hz; rw [wrapI (by omega)] at hz; subst hz; exact hK))); (conv => whnf)) | ((with_reducible apply gd_and); (focus ((conv => whnf) <;> first | rfl | (intro K hK; (conv => whnf); first | exact hK | (intro z hz; rw [wrapI (by omega)] at hz; subst hz; exact hK)))); (conv => whnf)) | ((with_reducible apply z_wrap); (focus omega); (conv => whnf)) | ((with_reducible first | apply mt_dec | apply mt_eq | apply mt_ne | apply mt_not | apply mt_any) <;> (intro _; conv => whnf)))
  refine hf1.mono ?_
  rintro _ _ ⟨rfl, rfl⟩
  conv => whnf
  repeat' (first | ((with_reducible apply rd_intro); (focus (intro K hK; (conv => whnf); first | exact hK | (intro z hz; rw [wrapI (by omega)] at hz; subst hz; exact hK))); (conv => whnf)) | ((with_reducible apply gd_and); (focus ((conv => whnf) <;> first | rfl | (intro K hK; (conv => whnf); first | exact hK | (intro z hz; rw [wrapI (by omega)] at hz; subst hz; exact hK)))); (conv => whnf)) | ((with_reducible apply z_wrap); (focus omega); (conv => whnf)) | ((with_reducible first | apply mt_dec | apply mt_eq | apply mt_ne | apply mt_not | apply mt_any) <;> (intro _; conv => whnf)))
  refine hmk.mono ?_
  rintro _ _ ⟨rfl, rfl⟩
  conv => whnf
  repeat' (first | ((with_reducible apply rd_intro); (focus (intro K hK; (conv => whnf); first | exact hK | (intro z hz; rw [wrapI (by omega)] at hz; subst hz; exact hK))); (conv => whnf)) | ((with_reducible apply gd_and); (focus ((conv => whnf) <;> first | rfl | (intro K hK; (conv => whnf); first | exact hK | (intro z hz; rw [wrapI (by omega)] at hz; subst hz; exact hK)))); (conv => whnf)) | ((with_reducible apply z_wrap); (focus omega); (conv => whnf)) | ((with_reducible first | apply mt_dec | apply mt_eq | apply mt_ne | apply mt_not | apply mt_any) <;> (intro _; conv => whnf)))
  refine hf2.mono ?_
  rintro _ _ ⟨rfl, rfl⟩
  conv => whnf
  repeat' (first | ((with_reducible apply rd_intro); (focus (intro K hK; (conv => whnf); first | exact hK | (intro z hz; rw [wrapI (by omega)] at hz; subst hz; exact hK))); (conv => whnf)) | ((with_reducible apply gd_and); (focus ((conv => whnf) <;> first | rfl | (intro K hK; (conv => whnf); first | exact hK | (intro z hz; rw [wrapI (by omega)] at hz; subst hz; exact hK)))); (conv => whnf)) | ((with_reducible apply z_wrap); (focus omega); (conv => whnf)) | ((with_reducible first | apply mt_dec | apply mt_eq | apply mt_ne | apply mt_not | apply mt_any) <;> (intro _; conv => whnf)))
  ((with_reducible apply rd_intro); (focus (intro K hK; (conv => whnf); exact ⟨by omega, _, bools_at (marksB_at hk), hK⟩)); (conv => whnf))
  repeat' (first | ((with_reducible apply rd_intro); (focus (intro K hK; (conv => whnf); first | exact hK | (intro z hz; rw [wrapI (by omega)] at hz; subst hz; exact hK))); (conv => whnf)) | ((with_reducible apply gd_and); (focus ((conv => whnf) <;> first | rfl | (intro K hK; (conv => whnf); first | exact hK | (intro z hz; rw [wrapI (by omega)] at hz; subst hz; exact hK)))); (conv => whnf)) | ((with_reducible apply z_wrap); (focus omega); (conv => whnf)) | ((with_reducible first | apply mt_dec | apply mt_eq | apply mt_ne | apply mt_not | apply mt_any) <;> (intro _; conv => whnf)))
  exact ⟨rfl, rfl⟩
def belowL (d : Dag) (ks : List Int) (low : Int) (j : Nat) : List Int := ((d.certs.take j).filter fun y => decide (y.digest ∈ ks) && decide (low < y.round)).map (·.digest)
theorem belowL_len (d : Dag) (ks : List Int) (low : Int) (j : Nat) : (belowL d ks low j).length ≤ j := by
  have h1 := List.length_filter_le (fun y : Cert => decide (y.digest ∈ ks) && decide (low < y.round)) (d.certs.take j)
  rw [List.length_take] at h1
  rw [belowL, List.length_map]
  omega
theorem belowL_yes {d : Dag} {ks : List Int} {low : Int} {j : Nat} {c : Cert} (hc : d.certs[j]? = some c) (h1 : c.digest ∈ ks) (h2 : low < c.round) : belowL d ks low (j + 1) = belowL d ks low j ++ [c.digest] := by
  rw [belowL, take_snoc' hc, List.filter_append, List.map_append, List.filter_cons, if_pos (by simp [h1, h2])]; rfl
theorem belowL_no {d : Dag} {ks : List Int} {low : Int} {j : Nat} {c : Cert} (hc : d.certs[j]? = some c) (h : ¬ (c.digest ∈ ks ∧ low < c.round)) : belowL d ks low (j + 1) = belowL d ks low j := by
  rw [belowL, take_snoc' hc, List.filter_append, List.map_append, List.filter_cons, if_neg (by simpa using h)]; simp [belowL]
set_option maxHeartbeats 1000000 in
theorem rBelow_ok (d : Dag) (h : Valid d) {i : Nat} {a : Cert} (hi : d.certs[i]? = some a) (low : Int) : ACalls Tryz.prog 76 [d.av, .d (.int .i64 a.digest), .d (.int .i64 low)] [] (fun av L => av = .d (.sl 1 (nums (riseI d i low))) ∧ L = []) := by
  have hf1 := rFind_ok d h.few' a.digest
  rw [geti_at h hi] at hf1
  have hcl := certsD_length d.certs
  have hlen := h.len
  have hmk := marks_ok d h i hi
  rw [rise_marks h hi]
  obtain ⟨ks, hks⟩ : ∃ ks, markS d a = ks := ⟨_, rfl⟩
  rw [hks] at hmk ⊢
  have hml : (bools (marksB d ks)).length = d.certs.length := by rw [bools_length]; simp [marksB]
  refine acalls_go ttOk zOk foOk Tryz.func76 rfl Tryz.ntmps76 rfl false rfl ?_
  conv => whnf
  ((with_reducible refine draw_pl ttOk zOk foOk mixedOk pl76x1 ?_ ?_); (focus kernel_rfl); (conv => whnf))
  repeat' (first | ((with_reducible apply rd_intro); (focus (intro K hK; (conv => whnf); first | exact hK | (intro z hz; rw [wrapI (by omega)] at hz; subst hz; exact hK))); (conv => whnf)) | ((with_reducible apply gd_and); (focus ((conv => whnf) <;> first | rfl | (intro K hK; (conv => whnf); first | exact hK | (intro z hz; rw [wrapI (by omega)] at hz; subst hz; exact hK)))); (conv => whnf)) | ((with_reducible apply z_wrap); (focus omega); (conv => whnf)) | ((with_reducible first | apply mt_dec | apply mt_eq | apply mt_ne | apply mt_not | apply mt_any) <;> (intro _; conv => whnf)))
  refine hf1.mono ?_
  rintro _ _ ⟨rfl, rfl⟩
  conv => whnf
  repeat' (first | ((with_reducible apply rd_intro); (focus (intro K hK; (conv => whnf); first | exact hK | (intro z hz; rw [wrapI (by omega)] at hz; subst hz; exact hK))); (conv => whnf)) | ((with_reducible apply gd_and); (focus ((conv => whnf) <;> first | rfl | (intro K hK; (conv => whnf); first | exact hK | (intro z hz; rw [wrapI (by omega)] at hz; subst hz; exact hK)))); (conv => whnf)) | ((with_reducible apply z_wrap); (focus omega); (conv => whnf)) | ((with_reducible first | apply mt_dec | apply mt_eq | apply mt_ne | apply mt_not | apply mt_any) <;> (intro _; conv => whnf)))
  refine hmk.mono ?_
  rintro _ _ ⟨rfl, rfl⟩
  conv => whnf
  repeat' (first | ((with_reducible apply rd_intro); (focus (intro K hK; (conv => whnf); first | exact hK | (intro z hz; rw [wrapI (by omega)] at hz; subst hz; exact hK))); (conv => whnf)) | ((with_reducible apply gd_and); (focus ((conv => whnf) <;> first | rfl | (intro K hK; (conv => whnf); first | exact hK | (intro z hz; rw [wrapI (by omega)] at hz; subst hz; exact hK)))); (conv => whnf)) | ((with_reducible apply z_wrap); (focus omega); (conv => whnf)) | ((with_reducible first | apply mt_dec | apply mt_eq | apply mt_ne | apply mt_not | apply mt_any) <;> (intro _; conv => whnf)))
  refine loop_go ttOk zOk foOk (σ := Nat) (fun j => ([(2, .d (.int .i64 low)), (3, .ptr 0 0), (7, .d (.sl 1 (bools (marksB d ks)))), (8, .arr 1), (9, .d (.int .i64 j))], [.cells d.cells, .row 3 1 (nums (belowL d ks low j)) false])) (fun j => j ≤ d.certs.length) (fun j => d.certs.length - j) [2, 3, 7, 8, 9] ?_ ?_
  · conv => whnf
    exact ⟨0, rfl, rfl, Nat.zero_le _⟩
  · intro j hj
    have hbl := belowL_len d ks low j
    conv => whnf
    repeat' (first | ((with_reducible apply rd_intro); (focus (intro K hK; (conv => whnf); first | exact hK | (intro z hz; rw [wrapI (by omega)] at hz; subst hz; exact hK))); (conv => whnf)) | ((with_reducible apply gd_and); (focus ((conv => whnf) <;> first | rfl | (intro K hK; (conv => whnf); first | exact hK | (intro z hz; rw [wrapI (by omega)] at hz; subst hz; exact hK)))); (conv => whnf)) | ((with_reducible apply z_wrap); (focus omega); (conv => whnf)) | ((with_reducible first | apply mt_dec | apply mt_eq | apply mt_ne | apply mt_not | apply mt_any) <;> (intro _; conv => whnf)))
    · rename_i hjl
      refine Exists.elim (⟨_, List.getElem?_eq_getElem (by omega)⟩ : ∃ c, d.certs[j]? = some c) fun c hc => ?_
      refine ⟨by omega, _, bools_at (marksB_at hc), ?_⟩
      by_cases h1 : c.digest ∈ ks
      · rw [decide_eq_true h1]
        conv => whnf
        repeat' (first | ((with_reducible apply rd_intro); (focus (intro K hK; (conv => whnf); first | exact hK | (intro z hz; rw [wrapI (by omega)] at hz; subst hz; exact hK))); (conv => whnf)) | ((with_reducible apply gd_and); (focus ((conv => whnf) <;> first | rfl | (intro K hK; (conv => whnf); first | exact hK | (intro z hz; rw [wrapI (by omega)] at hz; subst hz; exact hK)))); (conv => whnf)) | ((with_reducible apply z_wrap); (focus omega); (conv => whnf)) | ((with_reducible first | apply mt_dec | apply mt_eq | apply mt_ne | apply mt_not | apply mt_any) <;> (intro _; conv => whnf)))
        refine ⟨by omega, c.cs, certsD_at hc, ?_⟩
        conv => whnf
        repeat' (first | ((with_reducible apply rd_intro); (focus (intro K hK; (conv => whnf); first | exact hK | (intro z hz; rw [wrapI (by omega)] at hz; subst hz; exact hK))); (conv => whnf)) | ((with_reducible apply gd_and); (focus ((conv => whnf) <;> first | rfl | (intro K hK; (conv => whnf); first | exact hK | (intro z hz; rw [wrapI (by omega)] at hz; subst hz; exact hK)))); (conv => whnf)) | ((with_reducible apply z_wrap); (focus omega); (conv => whnf)) | ((with_reducible first | apply mt_dec | apply mt_eq | apply mt_ne | apply mt_not | apply mt_any) <;> (intro _; conv => whnf)))
        · rename_i h2
          refine ⟨by omega, c.cs, certsD_at hc, ?_⟩
          conv => whnf
          refine ⟨by rw [nums_length, List.length_singleton]; show (_ + 1) * 8 ≤ _; omega, ?_⟩
          conv => whnf
          repeat' (first | ((with_reducible apply rd_intro); (focus (intro K hK; (conv => whnf); first | exact hK | (intro z hz; rw [wrapI (by omega)] at hz; subst hz; exact hK))); (conv => whnf)) | ((with_reducible apply gd_and); (focus ((conv => whnf) <;> first | rfl | (intro K hK; (conv => whnf); first | exact hK | (intro z hz; rw [wrapI (by omega)] at hz; subst hz; exact hK)))); (conv => whnf)) | ((with_reducible apply z_wrap); (focus omega); (conv => whnf)) | ((with_reducible first | apply mt_dec | apply mt_eq | apply mt_ne | apply mt_not | apply mt_any) <;> (intro _; conv => whnf)))
          refine ⟨j + 1, rfl, ?_, by omega, by omega⟩
          simp only [belowL_yes hc h1 (show low < c.round from h2), ← nums_apps]
          rfl
        · rename_i h2
          refine ⟨j + 1, rfl, ?_, by omega, by omega⟩
          simp only [belowL_no hc (fun h => h2 h.2)]
          rfl
      · rw [decide_eq_false h1]
        conv => whnf
        repeat' (first | ((with_reducible apply rd_intro); (focus (intro K hK; (conv => whnf); first | exact hK | (intro z hz; rw [wrapI (by omega)] at hz; subst hz; exact hK))); (conv => whnf)) | ((with_reducible apply gd_and); (focus ((conv => whnf) <;> first | rfl | (intro K hK; (conv => whnf); first | exact hK | (intro z hz; rw [wrapI (by omega)] at hz; subst hz; exact hK)))); (conv => whnf)) | ((with_reducible apply z_wrap); (focus omega); (conv => whnf)) | ((with_reducible first | apply mt_dec | apply mt_eq | apply mt_ne | apply mt_not | apply mt_any) <;> (intro _; conv => whnf)))
        refine ⟨j + 1, rfl, ?_, by omega, by omega⟩
        simp only [belowL_no hc (fun h => h1 h.1)]
        rfl
    · rename_i hjl
      rw [belowL, List.take_of_length_le (by omega)]
      exact ⟨rfl, rfl⟩
theorem rise_zero {d : Dag} (h : Valid d) {i : Nat} {a : Cert} (hi : d.certs[i]? = some a) {low : Int} (hl : low < 0) : riseI d i 0 = riseI d i low := by
  rw [rise_marks h hi, rise_marks h hi]
  congr 1
  refine List.filter_congr fun c hc => ?_
  have := (h.certs c hc).head.round
  rw [decide_eq_true (show (0 : Int) < c.round by omega), decide_eq_true (show low < c.round by omega)]
set_option maxHeartbeats 1000000 in
theorem rOrder_ok (d : Dag) (h : Valid d) {i : Nat} {a : Cert} (hi : d.certs[i]? = some a) (done : List Int) (hdn : few done) (hlow : d.low = 0 ∨ d.low ≤ a.round - 8) : ACalls Tryz.prog 51 [d.av, .d (.int .i64 a.digest), .d (.sl 1 (nums done))] [] (fun av L => av = .tup [.d (.sl 1 (nums (behindI d i a.round done))), .d (.int .i64 0)] ∧ L = []) := by
  have hf1 := rFind_ok d h.few' a.digest
  rw [geti_at h hi] at hf1
  have hil : i < d.certs.length := (List.getElem?_eq_some_iff.1 hi).1
  have hcl := certsD_length d.certs
  have hlen := h.len
  have hdl := h.low
  have har := (h.certs a (List.mem_of_getElem? hi)).head.round
  have hbe := rBelow_ok d h hi (a.round - 8)
  have hbe0 := rBelow_ok d h hi 0
  have hrl := rise_len d i (a.round - 8)
  unfold behindI
  obtain ⟨l, hl⟩ : ∃ l, riseI d i (a.round - 8) = l := ⟨_, rfl⟩
  rw [hl] at hbe hrl ⊢
  have hll := nums_length l
  refine acalls_go ttOk zOk foOk Tryz.func51 rfl Tryz.ntmps51 rfl false rfl ?_
  conv => whnf
  refine hf1.mono ?_
  rintro _ _ ⟨rfl, rfl⟩
  conv => whnf
  repeat' (first | ((with_reducible apply rd_intro); (focus (intro K hK; (conv => whnf); first | exact hK | (intro z hz; rw [wrapI (by omega)] at hz; subst hz; exact hK))); (conv => whnf)) | ((with_reducible apply gd_and); (focus ((conv => whnf) <;> first | rfl | (intro K hK; (conv => whnf); first | exact hK | (intro z hz; rw [wrapI (by omega)] at hz; subst hz; exact hK)))); (conv => whnf)) | ((with_reducible apply z_wrap); (focus omega); (conv => whnf)) | ((with_reducible first | apply mt_dec | apply mt_eq | apply mt_ne | apply mt_not | apply mt_any) <;> (intro _; conv => whnf)))
  refine ⟨by omega, a.cs, certsD_at hi, ?_⟩
  conv => whnf
  repeat' (first | ((with_reducible apply rd_intro); (focus (intro K hK; (conv => whnf); first | exact hK | (intro z hz; rw [wrapI (by omega)] at hz; subst hz; exact hK))); (conv => whnf)) | ((with_reducible apply gd_and); (focus ((conv => whnf) <;> first | rfl | (intro K hK; (conv => whnf); first | exact hK | (intro z hz; rw [wrapI (by omega)] at hz; subst hz; exact hK)))); (conv => whnf)) | ((with_reducible apply z_wrap); (focus omega); (conv => whnf)) | ((with_reducible first | apply mt_dec | apply mt_eq | apply mt_ne | apply mt_not | apply mt_any) <;> (intro _; conv => whnf)))
  · rename_i h1 h2
    rcases hlow with h3 | h3 <;> omega
  · rename_i h1 h2
    have e0 : riseI d i 0 = l := by rw [rise_zero h hi (show a.round - 8 < 0 by omega), hl]
    rw [e0] at hbe0
    refine hbe0.mono ?_
    rintro _ _ ⟨rfl, rfl⟩
    conv => whnf
    refine loop_go ttOk zOk foOk (σ := Nat) (fun j => ([(2, .d (.sl 1 (nums done))), (3, .ptr 0 0), (10, .d (.sl 1 (nums l))), (11, .arr 1), (12, .d (.int .i64 j))], [.cells d.cells, .row 3 1 (nums ((l.take j).filter fun x => !decide (x ∈ done))) false])) (fun j => j ≤ l.length) (fun j => l.length - j) [2, 3, 10, 11, 12] ?_ ?_
    · conv => whnf
      exact ⟨0, rfl, rfl, Nat.zero_le _⟩
    · intro j hj
      have hfl : ((l.take j).filter fun x => !decide (x ∈ done)).length ≤ j := by
        have h1 := List.length_filter_le (fun x => !decide (x ∈ done)) (l.take j)
        rw [List.length_take] at h1
        omega
      conv => whnf
      repeat' (first | ((with_reducible apply rd_intro); (focus (intro K hK; (conv => whnf); first | exact hK | (intro z hz; rw [wrapI (by omega)] at hz; subst hz; exact hK))); (conv => whnf)) | ((with_reducible apply gd_and); (focus ((conv => whnf) <;> first | rfl | (intro K hK; (conv => whnf); first | exact hK | (intro z hz; rw [wrapI (by omega)] at hz; subst hz; exact hK)))); (conv => whnf)) | ((with_reducible apply z_wrap); (focus omega); (conv => whnf)) | ((with_reducible first | apply mt_dec | apply mt_eq | apply mt_ne | apply mt_not | apply mt_any) <;> (intro _; conv => whnf)))
      · rename_i hjl
        refine Exists.elim (⟨_, List.getElem?_eq_getElem (by omega)⟩ : ∃ x, l[j]? = some x) fun x hx => ?_
        refine ⟨by omega, [.int .i64 x], nums_at hx, ?_⟩
        conv => whnf
        repeat' (first | ((with_reducible apply rd_intro); (focus (intro K hK; (conv => whnf); first | exact hK | (intro z hz; rw [wrapI (by omega)] at hz; subst hz; exact hK))); (conv => whnf)) | ((with_reducible apply gd_and); (focus ((conv => whnf) <;> first | rfl | (intro K hK; (conv => whnf); first | exact hK | (intro z hz; rw [wrapI (by omega)] at hz; subst hz; exact hK)))); (conv => whnf)) | ((with_reducible apply z_wrap); (focus omega); (conv => whnf)) | ((with_reducible first | apply mt_dec | apply mt_eq | apply mt_ne | apply mt_not | apply mt_any) <;> (intro _; conv => whnf)))
        refine (in_ok done hdn x).mono ?_
        rintro _ _ ⟨rfl, rfl⟩
        conv => whnf
        repeat' (first | ((with_reducible apply rd_intro); (focus (intro K hK; (conv => whnf); first | exact hK | (intro z hz; rw [wrapI (by omega)] at hz; subst hz; exact hK))); (conv => whnf)) | ((with_reducible apply gd_and); (focus ((conv => whnf) <;> first | rfl | (intro K hK; (conv => whnf); first | exact hK | (intro z hz; rw [wrapI (by omega)] at hz; subst hz; exact hK)))); (conv => whnf)) | ((with_reducible apply z_wrap); (focus omega); (conv => whnf)) | ((with_reducible first | apply mt_dec | apply mt_eq | apply mt_ne | apply mt_not | apply mt_any) <;> (intro _; conv => whnf)))
        · rename_i hin
          have hin' : x ∉ done := fun h => by have := inI_iff.2 h; omega
          refine ⟨by omega, [.int .i64 x], nums_at hx, ?_⟩
          conv => whnf
          refine ⟨by rw [nums_length, List.length_singleton]; show (_ + 1) * 8 ≤ _; omega, ?_⟩
          conv => whnf
          repeat' (first | ((with_reducible apply rd_intro); (focus (intro K hK; (conv => whnf); first | exact hK | (intro z hz; rw [wrapI (by omega)] at hz; subst hz; exact hK))); (conv => whnf)) | ((with_reducible apply gd_and); (focus ((conv => whnf) <;> first | rfl | (intro K hK; (conv => whnf); first | exact hK | (intro z hz; rw [wrapI (by omega)] at hz; subst hz; exact hK)))); (conv => whnf)) | ((with_reducible apply z_wrap); (focus omega); (conv => whnf)) | ((with_reducible first | apply mt_dec | apply mt_eq | apply mt_ne | apply mt_not | apply mt_any) <;> (intro _; conv => whnf)))
          refine ⟨j + 1, rfl, ?_, by omega, by omega⟩
          rw [take_snoc' hx, List.filter_append, ← nums_apps, List.filter_cons, if_pos (by simp [hin'])]
          rfl
        · rename_i hin
          have hin' : x ∈ done := inI_iff.1 (by omega)
          refine ⟨j + 1, rfl, ?_, by omega, by omega⟩
          rw [take_snoc' hx, List.filter_append, List.filter_cons, if_neg (by simp [hin']), List.filter_nil, List.append_nil]
          rfl
      · rename_i hjl
        rw [List.take_of_length_le (by omega)]
        exact ⟨rfl, rfl⟩
  · refine hbe.mono ?_
    rintro _ _ ⟨rfl, rfl⟩
    conv => whnf
    refine loop_go ttOk zOk foOk (σ := Nat) (fun j => ([(2, .d (.sl 1 (nums done))), (3, .ptr 0 0), (10, .d (.sl 1 (nums l))), (11, .arr 1), (12, .d (.int .i64 j))], [.cells d.cells, .row 3 1 (nums ((l.take j).filter fun x => !decide (x ∈ done))) false])) (fun j => j ≤ l.length) (fun j => l.length - j) [2, 3, 10, 11, 12] ?_ ?_
    · conv => whnf
      exact ⟨0, rfl, rfl, Nat.zero_le _⟩
    · intro j hj
      have hfl : ((l.take j).filter fun x => !decide (x ∈ done)).length ≤ j := by
        have h1 := List.length_filter_le (fun x => !decide (x ∈ done)) (l.take j)
        rw [List.length_take] at h1
        omega
      conv => whnf
      repeat' (first | ((with_reducible apply rd_intro); (focus (intro K hK; (conv => whnf); first | exact hK | (intro z hz; rw [wrapI (by omega)] at hz; subst hz; exact hK))); (conv => whnf)) | ((with_reducible apply gd_and); (focus ((conv => whnf) <;> first | rfl | (intro K hK; (conv => whnf); first | exact hK | (intro z hz; rw [wrapI (by omega)] at hz; subst hz; exact hK)))); (conv => whnf)) | ((with_reducible apply z_wrap); (focus omega); (conv => whnf)) | ((with_reducible first | apply mt_dec | apply mt_eq | apply mt_ne | apply mt_not | apply mt_any) <;> (intro _; conv => whnf)))
      · rename_i hjl
        refine Exists.elim (⟨_, List.getElem?_eq_getElem (by omega)⟩ : ∃ x, l[j]? = some x) fun x hx => ?_
        refine ⟨by omega, [.int .i64 x], nums_at hx, ?_⟩
        conv => whnf
        repeat' (first | ((with_reducible apply rd_intro); (focus (intro K hK; (conv => whnf); first | exact hK | (intro z hz; rw [wrapI (by omega)] at hz; subst hz; exact hK))); (conv => whnf)) | ((with_reducible apply gd_and); (focus ((conv => whnf) <;> first | rfl | (intro K hK; (conv => whnf); first | exact hK | (intro z hz; rw [wrapI (by omega)] at hz; subst hz; exact hK)))); (conv => whnf)) | ((with_reducible apply z_wrap); (focus omega); (conv => whnf)) | ((with_reducible first | apply mt_dec | apply mt_eq | apply mt_ne | apply mt_not | apply mt_any) <;> (intro _; conv => whnf)))
        refine (in_ok done hdn x).mono ?_
        rintro _ _ ⟨rfl, rfl⟩
        conv => whnf
        repeat' (first | ((with_reducible apply rd_intro); (focus (intro K hK; (conv => whnf); first | exact hK | (intro z hz; rw [wrapI (by omega)] at hz; subst hz; exact hK))); (conv => whnf)) | ((with_reducible apply gd_and); (focus ((conv => whnf) <;> first | rfl | (intro K hK; (conv => whnf); first | exact hK | (intro z hz; rw [wrapI (by omega)] at hz; subst hz; exact hK)))); (conv => whnf)) | ((with_reducible apply z_wrap); (focus omega); (conv => whnf)) | ((with_reducible first | apply mt_dec | apply mt_eq | apply mt_ne | apply mt_not | apply mt_any) <;> (intro _; conv => whnf)))
        · rename_i hin
          have hin' : x ∉ done := fun h => by have := inI_iff.2 h; omega
          refine ⟨by omega, [.int .i64 x], nums_at hx, ?_⟩
          conv => whnf
          refine ⟨by rw [nums_length, List.length_singleton]; show (_ + 1) * 8 ≤ _; omega, ?_⟩
          conv => whnf
          repeat' (first | ((with_reducible apply rd_intro); (focus (intro K hK; (conv => whnf); first | exact hK | (intro z hz; rw [wrapI (by omega)] at hz; subst hz; exact hK))); (conv => whnf)) | ((with_reducible apply gd_and); (focus ((conv => whnf) <;> first | rfl | (intro K hK; (conv => whnf); first | exact hK | (intro z hz; rw [wrapI (by omega)] at hz; subst hz; exact hK)))); (conv => whnf)) | ((with_reducible apply z_wrap); (focus omega); (conv => whnf)) | ((with_reducible first | apply mt_dec | apply mt_eq | apply mt_ne | apply mt_not | apply mt_any) <;> (intro _; conv => whnf)))
          refine ⟨j + 1, rfl, ?_, by omega, by omega⟩
          rw [take_snoc' hx, List.filter_append, ← nums_apps, List.filter_cons, if_pos (by simp [hin'])]
          rfl
        · rename_i hin
          have hin' : x ∈ done := inI_iff.1 (by omega)
          refine ⟨j + 1, rfl, ?_, by omega, by omega⟩
          rw [take_snoc' hx, List.filter_append, List.filter_cons, if_neg (by simp [hin']), List.filter_nil, List.append_nil]
          rfl
      · rename_i hjl
        rw [List.take_of_length_le (by omega)]
        exact ⟨rfl, rfl⟩
end Go.Proofs.YtoeppembokpjkaaGreat

namespace Go.Proofs.YtoeppembokpjkaaGreat
open Go.Ab Go.RowKit Go.MapKept
attribute [local irreducible] ACalls AW ADraw Into fltB fnear
set_option maxRecDepth 100000
/-! ## the next round that is settled; chains -/
theorem settled_cert {d : Dag} (h : Valid d) {r : Int} (hs : settled d r = true) : ∃ c ∈ d.certs, c.round = r := by
  have hn := of_decide_eq_true h.nodes
  obtain ⟨c, h1, h2, _⟩ := (anchor_at h).1 (settled_anchor (show 0 < d.nodes by omega) hs)
  exact ⟨c, h1, h2⟩
theorem next_least {d : Dag} (h : Valid d) {after r : Int} (ha : 0 ≤ after) (ha2 : after % 2 = 0) (hr : after < r) (hr2 : r % 2 = 0) (hs : settled d r = true) (hq : ∀ q, after < q → q < r → q % 2 = 0 → settled d q = false) : nextC d after = r := by
  obtain ⟨c, hc, hcr⟩ := settled_cert h hs
  have h1 := h.above c hc
  have h0 := h.low
  unfold nextC
  obtain ⟨m, hm⟩ : ∃ m, max after (d.low - d.low % 2) + 2 = m := ⟨_, rfl⟩
  rw [hm]
  have hm2 : m % 2 = r % 2 ∧ 0 < m ∧ m ≤ r ∧ after < m := by omega
  obtain ⟨h3, h4⟩ := nextR_le h hs m hm2.2.1 hm2.2.2.1 hm2.1
  rcases nextR_spec d m with h5 | ⟨h5, _, h6, h7⟩
  · omega
  · by_cases h8 : nextR d m = r
    · exact h8
    · have := hq (nextR d m) (by omega) (by omega) (by omega)
      rw [h6] at this; cases this
theorem next_none {d : Dag} (h : Valid d) {after : Int} (ha : 0 ≤ after) (ha2 : after % 2 = 0) (hq : ∀ q, after < q → q % 2 = 0 → settled d q = false) : nextC d after = 0 := by
  have h0 := h.low
  unfold nextC
  obtain ⟨m, hm⟩ : ∃ m, max after (d.low - d.low % 2) + 2 = m := ⟨_, rfl⟩
  rw [hm]
  rcases nextR_spec d m with h5 | ⟨h5, _, h6, h7⟩
  · exact h5
  · have := hq (nextR d m) (by omega) (by omega)
    rw [h6] at this; cases this
theorem round_ahead {d : Dag} (h : Valid d) {i : Nat} {c c' : Cert} (hi : d.certs[i]? = some c) (hc : c' ∈ d.certs) (hr : c'.round < c.round) : c' ∈ d.certs.take i := by
  obtain ⟨k, hk, rfl⟩ := List.mem_iff_getElem.1 hc
  obtain ⟨hil, rfl⟩ := List.getElem?_eq_some_iff.1 hi
  rcases Nat.lt_or_ge k i with h1 | h1
  · exact List.mem_take_iff_getElem.2 ⟨k, by omega, rfl⟩
  · exfalso
    rcases Nat.lt_or_ge i k with h2 | h2
    · have := before_iff.1 (List.pairwise_iff_getElem.1 h.sorted i k hil hk h2)
      omega
    · have : i = k := by omega
      subst this
      omega
set_option maxHeartbeats 1000000 in
theorem rNext_ok (d : Dag) (h : Valid d) (after : Int) (ha : 0 ≤ after ∧ after ≤ 1099511627776) (ha2 : after % 2 = 0) : ACalls Tryz.prog 49 [d.av, .d (.int .i64 after)] [] (fun av L => av = .d (.int .i64 (nextC d after)) ∧ L = []) := by
  have hcl := certsD_length d.certs
  have hlen := h.len
  have hnn := of_decide_eq_true h.nodes
  have hw := h.well
  refine acalls_go ttOk zOk foOk Tryz.func49 rfl Tryz.ntmps49 rfl false rfl ?_
  conv => whnf
  refine loop_go ttOk zOk foOk (σ := Int × Nat) (fun s => ([(1, .d (.int .i64 after)), (2, .ptr 0 0), (5, .d (.int .i64 s.1)), (6, .d (.int .i64 s.2))], [.cells d.cells])) (fun s => s.2 ≤ d.certs.length ∧ (s.1 = 0 ∨ settled d s.1 = false) ∧ ∀ c ∈ d.certs.take s.2, after < c.round → c.round % 2 = 0 → settled d c.round = false) (fun s => d.certs.length - s.2) [1, 2, 5, 6] ?_ ?_
  · conv => whnf
    exact ⟨(0, 0), rfl, rfl, Nat.zero_le _, .inl rfl, by simp⟩
  · rintro ⟨last, i⟩ ⟨hi, hla, hall⟩
    replace hi : i ≤ d.certs.length := hi
    replace hla : last = 0 ∨ settled d last = false := hla
    replace hall : ∀ c ∈ d.certs.take i, after < c.round → c.round % 2 = 0 → settled d c.round = false := hall
    conv => whnf
    repeat' (first | ((with_reducible apply z_wrap); (focus omega); (conv => whnf)) | ((with_reducible first | apply mt_dec | apply mt_eq | apply mt_ne | apply mt_not | apply mt_any) <;> (intro _; conv => whnf)))
    · rename_i hil
      refine Exists.elim (⟨_, List.getElem?_eq_getElem (by omega)⟩ : ∃ c, d.certs[i]? = some c) fun c hc => ?_
      have hcm := List.mem_of_getElem? hc
      have hrb := (h.certs c hcm).head.round
      have hon : (after < c.round → c.round % 2 = 0 → settled d c.round = false) → ∀ y ∈ d.certs.take (i + 1), after < y.round → y.round % 2 = 0 → settled d y.round = false := by
        intro hn y hy
        rw [take_snoc' hc] at hy
        rcases List.mem_append.1 hy with hy | hy
        · exact hall y hy
        · simp at hy; rw [hy]; exact hn
      refine ⟨by omega, c.cs, certsD_at hc, ?_⟩
      conv => whnf
      repeat' (first | ((with_reducible apply z_wrap); (focus omega); (conv => whnf)) | ((with_reducible first | apply mt_dec | apply mt_eq | apply mt_ne | apply mt_not | apply mt_any) <;> (intro _; conv => whnf)))
      · rename_i hra
        refine ⟨by decide, ?_⟩
        intro z hz
        replace hz : z = c.round % 2 := tmod_pos (by omega) hz
        conv => whnf
        repeat' (first | ((with_reducible apply z_wrap); (focus omega); (conv => whnf)) | ((with_reducible first | apply mt_dec | apply mt_eq | apply mt_ne | apply mt_not | apply mt_any) <;> (intro _; conv => whnf)))
        · rename_i h2 h3
          refine (rDirect_ok d h.few' hw.nodes (by omega) hw.pars c.round ⟨by omega, by omega⟩).mono ?_
          rintro _ _ ⟨rfl, rfl⟩
          cases hs : settled d c.round with
          | true =>
            conv => whnf
            repeat' (first | ((with_reducible apply z_wrap); (focus omega); (conv => whnf)) | ((with_reducible first | apply mt_dec | apply mt_eq | apply mt_ne | apply mt_not | apply mt_any) <;> (intro _; conv => whnf)))
            refine ⟨?_, rfl⟩
            rw [next_least h ha.1 ha2 (show after < c.round from hra) (by omega) hs fun q h4 h5 h6 => ?_]
            cases hq : settled d q with
            | false => rfl
            | true =>
              obtain ⟨c', k1, k2⟩ := settled_cert h hq
              have k3 := hall c' (round_ahead h hc k1 (by omega)) (by omega) (by omega)
              rw [k2, hq] at k3; cases k3
          | false =>
            conv => whnf
            repeat' (first | ((with_reducible apply z_wrap); (focus omega); (conv => whnf)) | ((with_reducible first | apply mt_dec | apply mt_eq | apply mt_ne | apply mt_not | apply mt_any) <;> (intro _; conv => whnf)))
            exact ⟨(c.round, i + 1), rfl, rfl, ⟨by show i + 1 ≤ _; omega, .inr hs, hon fun _ _ => hs⟩, by show _ - (i + 1) < _ - i; omega⟩
        · rename_i h2 h3
          refine ⟨(last, i + 1), rfl, rfl, ⟨by show i + 1 ≤ _; omega, hla, hon fun _ _ => ?_⟩, by show _ - (i + 1) < _ - i; omega⟩
          rw [h3]
          rcases hla with h4 | h4
          · omega
          · exact h4
        · rename_i h2
          exact ⟨(last, i + 1), rfl, rfl, ⟨by show i + 1 ≤ _; omega, hla, hon fun _ h3 => absurd (by rw [hz]; exact h3) h2⟩, by show _ - (i + 1) < _ - i; omega⟩
      · rename_i hra
        exact ⟨(last, i + 1), rfl, rfl, ⟨by show i + 1 ≤ _; omega, hla, hon fun h3 => absurd h3 hra⟩, by show _ - (i + 1) < _ - i; omega⟩
    · rename_i hil
      rw [List.take_of_length_le (by omega)] at hall
      refine ⟨?_, rfl⟩
      have hno : ∀ q, after < q → q % 2 = 0 → settled d q = false := ?_
      · rw [next_none h ha.1 ha2 hno]; rfl
      intro q h4 h6
      cases hq : settled d q with
      | false => rfl
      | true =>
        obtain ⟨c', k1, k2⟩ := settled_cert h hq
        have k3 := hall c' k1 (by omega) (by omega)
        rw [k2, hq] at k3; cases k3
theorem backR_low {d : Dag} (h : Valid d) (after : Int) : ∀ (n : Nat) (q : Int) (i : Nat), (q - after).toNat ≤ n → (∀ c ∈ d.certs, q < c.round) → backR d after (q + 2) i = []
  | n, q, i, hn, hq => by
    by_cases h1 : q ≤ after ∨ q ≤ d.low
    · exact back_end (by rw [Int.add_sub_cancel]; exact h1)
    · have h2 : anchorI d q = 0 := by
        by_cases h3 : anchorI d q = 0
        · exact h3
        · obtain ⟨c, h4, h5, _⟩ := (anchor_at h).1 h3
          have := hq c h4
          omega
      cases n with
      | zero => omega
      | succ n =>
        rw [back_no (by rw [Int.add_sub_cancel]; exact h1) (by rw [Int.add_sub_cancel]; exact h2), show q + 2 - 2 = (q - 2) + 2 by omega]
        exact backR_low h after n (q - 2) i (by omega) fun c hc => by have := hq c hc; omega
def chSt (d : Dag) (after r0 lowest : Int) : Int × Nat × Cert × List Int → AF × List AB
  | (q, _, c, l) => ([(1, .d (.int .i64 after)), (3, .ptr 0 0), (7, .d (.int .i64 c.digest)), (8, .arr 1), (9, .d (.int .i64 lowest)), (10, .d (.int .i64 q))], [.cells d.cells, .row 3 1 (nums l) false])
def chInv (d : Dag) (after r0 : Int) : Int × Nat × Cert × List Int → Prop
  | (q, i, c, l) => d.certs[i]? = some c ∧ q % 2 = 0 ∧ -2 ≤ q ∧ q < r0 ∧ (l.length : Int) ≤ r0 - q ∧ backI d after r0 = (backR d after (q + 2) i).reverse ++ l
set_option maxHeartbeats 1000000 in
theorem rChain_ok (d : Dag) (h : Valid d) (after r0 : Int) (ha : 0 ≤ after) (hr : after < r0) (hr2 : r0 % 2 = 0) (hr3 : 2 ≤ r0 ∧ r0 ≤ 1099511627776) (h0 : anchorI d r0 ≠ 0) :
    ACalls Tryz.prog 50 [d.av, .d (.int .i64 after), .d (.int .i64 r0)] [] (fun av L => av = .d (.sl 1 (nums (backI d after r0))) ∧ L = []) := by
  have hcl := certsD_length d.certs
  have hlen := h.len
  have hlow := h.low
  have hw := h.well
  have han := fun q (hq : 2 ≤ q ∧ q ≤ 1099511627777) => rAnchor_ok d h.few' hw.nodes q hq
  have han0 := han r0 ⟨hr3.1, by omega⟩
  obtain ⟨i0, a0, hg0, hi0, hd0, hil0⟩ := anchor_get h0
  rw [← hd0] at han0
  refine Exists.elim (⟨_, List.getElem?_eq_getElem (by omega)⟩ : ∃ c, d.certs[0]? = some c) fun c1 hc1 => ?_
  have hc1b := (h.certs c1 (List.mem_of_getElem? hc1)).head.round
  have hc1a := h.above c1 (List.mem_of_getElem? hc1)
  have hlowest : ∀ c ∈ d.certs, c1.round ≤ c.round := by
    intro c hc
    by_cases h1 : c1.round ≤ c.round
    · exact h1
    · have := round_ahead h hc1 hc (by omega)
      simp at this
  refine acalls_go ttOk zOk foOk Tryz.func50 rfl Tryz.ntmps50 rfl false rfl ?_
  conv => whnf
  refine han0.mono ?_
  rintro _ _ ⟨rfl, rfl⟩
  conv => whnf
  repeat' (first | ((with_reducible apply z_wrap); (focus omega); (conv => whnf)) | ((with_reducible first | apply mt_dec | apply mt_eq | apply mt_ne | apply mt_not | apply mt_any) <;> (intro _; conv => whnf)))
  · refine ⟨by omega, c1.cs, certsD_at hc1, ?_⟩
    conv => whnf
    repeat' (first | ((with_reducible apply z_wrap); (focus omega); (conv => whnf)) | ((with_reducible first | apply mt_dec | apply mt_eq | apply mt_ne | apply mt_not | apply mt_any) <;> (intro _; conv => whnf)))
    refine loop_go ttOk zOk foOk (σ := Int × Nat × Cert × List Int) (chSt d after r0 c1.round) (chInv d after r0) (fun s => (s.1 + 2).toNat) [1, 3, 7, 8, 9, 10] ?_ ?_
    · conv => whnf
      refine ⟨(r0 - 2, i0, a0, [a0.digest]), rfl, rfl, hi0, by omega, by omega, by omega, by show (1 : Int) ≤ _; omega, ?_⟩
      rw [backI, hg0, Option.getD_some, Int.sub_add_cancel, List.reverse_cons, ← hd0]
    · rintro ⟨q, i, c, l⟩ ⟨hi, hq2, hq3, hq4, hl, hb⟩
      conv => whnf
      repeat' (first | ((with_reducible apply z_wrap); (focus omega); (conv => whnf)) | ((with_reducible first | apply mt_dec | apply mt_eq | apply mt_ne | apply mt_not | apply mt_any) <;> (intro _; conv => whnf)))
      · rename_i hqa hql
        refine (han q ⟨by omega, by omega⟩).mono ?_
        rintro _ _ ⟨rfl, rfl⟩
        conv => whnf
        repeat' (first | ((with_reducible apply z_wrap); (focus omega); (conv => whnf)) | ((with_reducible first | apply mt_dec | apply mt_eq | apply mt_ne | apply mt_not | apply mt_any) <;> (intro _; conv => whnf)))
        · rename_i hap
          have hne : anchorI d q ≠ 0 := by omega
          obtain ⟨j, c', hgj, hj, hdj, hjl⟩ := anchor_get hne
          have hre := rReach_ok d h hi hj
          rw [hdj] at hre
          rw [back_yes (by rw [Int.add_sub_cancel]; omega) (by rw [Int.add_sub_cancel]; exact hne) (by rw [Int.add_sub_cancel]; exact hgj), Int.add_sub_cancel] at hb
          refine hre.mono ?_
          rintro _ _ ⟨rfl, rfl⟩
          cases hrj : reachJ d i j with
          | true =>
            rw [hrj, if_pos rfl, List.reverse_cons, List.append_assoc] at hb
            conv => whnf
            repeat' (first | ((with_reducible apply z_wrap); (focus omega); (conv => whnf)) | ((with_reducible first | apply mt_dec | apply mt_eq | apply mt_ne | apply mt_not | apply mt_any) <;> (intro _; conv => whnf)))
            refine ⟨by rw [nums_length, List.length_singleton]; show (1 + _) * 8 ≤ _; omega, ?_⟩
            conv => whnf
            repeat' (first | ((with_reducible apply z_wrap); (focus omega); (conv => whnf)) | ((with_reducible first | apply mt_dec | apply mt_eq | apply mt_ne | apply mt_not | apply mt_any) <;> (intro _; conv => whnf)))
            refine ⟨(q - 2, j, c', anchorI d q :: l), ?_, rfl, ⟨hj, by omega, by omega, by omega, by rw [List.length_cons]; omega, by rw [Int.sub_add_cancel]; exact hb⟩, by show (q - 2 + 2).toNat < (q + 2).toNat; omega⟩
            simp only [chSt, hdj]
          | false =>
            rw [hrj, if_neg (by simp)] at hb
            conv => whnf
            repeat' (first | ((with_reducible apply z_wrap); (focus omega); (conv => whnf)) | ((with_reducible first | apply mt_dec | apply mt_eq | apply mt_ne | apply mt_not | apply mt_any) <;> (intro _; conv => whnf)))
            refine ⟨(q - 2, i, c, l), rfl, rfl, ⟨hi, by omega, by omega, by omega, by omega, by rw [Int.sub_add_cancel]; exact hb⟩, by show (q - 2 + 2).toNat < (q + 2).toNat; omega⟩
        · rename_i hap
          have hz : anchorI d q = 0 := by
            by_cases h1 : anchorI d q = 0
            · exact h1
            · obtain ⟨j, c', hgj, hj, hdj, hjl⟩ := anchor_get h1
              have := hw.pos c' (List.mem_of_getElem? hj)
              omega
          rw [back_no (by rw [Int.add_sub_cancel]; omega) (by rw [Int.add_sub_cancel]; exact hz), Int.add_sub_cancel] at hb
          refine ⟨(q - 2, i, c, l), rfl, rfl, ⟨hi, by omega, by omega, by omega, by omega, by rw [Int.sub_add_cancel]; exact hb⟩, by show (q - 2 + 2).toNat < (q + 2).toNat; omega⟩
      · rename_i hqa hql
        rw [backR_low h after _ q i (Nat.le_refl _) fun c hc => by have := hlowest c hc; omega] at hb
        rw [hb]
        exact ⟨rfl, rfl⟩
      · rename_i hqa
        rw [back_end (.inl (by rw [Int.add_sub_cancel]; omega))] at hb
        rw [hb]
        exact ⟨rfl, rfl⟩
  · rename_i hx; exact absurd hx (by omega)
end Go.Proofs.YtoeppembokpjkaaGreat

namespace Go.Proofs.YtoeppembokpjkaaGreat
open Go.Ab Go.RowKit Go.MapKept
attribute [local irreducible] ACalls AW ADraw Into fltB fnear
set_option maxRecDepth 100000
/-! ## the page's With, of a number that is not there -/
theorem copyNumbers_row (xs : List Int) (hm : tiny xs) : ACalls Tryz.prog 38 [.d (.sl 1 (nums xs))] [] (fun av L => av = .arr 0 ∧ L = [.row 3 1 (nums xs) false]) := by
  have hx := nums_length xs
  unfold tiny at hm
  refine acalls_go ttOk zOk foOk Tryz.func38 rfl Tryz.ntmps38 rfl true rfl ?_
  conv => whnf
  refine loop_go ttOk zOk foOk (σ := Nat) (fun k => ([(0, .d (.sl 1 (nums xs))), (3, .arr 0), (4, .d (.int .i64 k))], [.row 3 1 (nums (xs.take k)) false])) (fun k => k ≤ xs.length) (fun k => xs.length - k) [0, 3, 4] ?_ ?_
  · conv => whnf
    exact ⟨0, rfl, rfl, by omega⟩
  · intro k hk
    conv => whnf
    rw [hx]
    repeat' (first | ((with_reducible apply z_wrap); (focus omega); (conv => whnf)) | ((with_reducible first | apply mt_dec | apply mt_eq | apply mt_ne | apply mt_not | apply mt_any) <;> (intro _; conv => whnf)))
    · rename_i h
      refine Exists.elim (⟨_, List.getElem?_eq_getElem (by omega)⟩ : ∃ a, xs[k]? = some a) fun a ha => ?_
      have hkn := nums_length (xs.take k)
      refine ⟨by omega, [.int .i64 a], nums_at ha, ?_⟩
      conv => whnf
      repeat' (first | ((with_reducible apply z_wrap); (focus omega); (conv => whnf)) | ((with_reducible first | apply mt_dec | apply mt_eq | apply mt_ne | apply mt_not | apply mt_any) <;> (intro _; conv => whnf)))
      refine ⟨by simp [hkn]; omega, ?_⟩
      conv => whnf
      repeat' (first | ((with_reducible apply z_wrap); (focus omega); (conv => whnf)) | ((with_reducible first | apply mt_dec | apply mt_eq | apply mt_ne | apply mt_not | apply mt_any) <;> (intro _; conv => whnf)))
      refine ⟨k + 1, rfl, ?_, by omega, by omega⟩
      rw [List.take_add_one, ha, ← nums_apps]
      rfl
    · rename_i h
      rw [List.take_of_length_le (by omega)]
      exact ⟨rfl, rfl⟩
theorem nums_take' (l : List Int) (n : Nat) : (nums l).take n = nums (l.take n) := by simp [nums]
theorem nums_drop' (l : List Int) (n : Nat) : (nums l).drop n = nums (l.drop n) := by simp [nums]
def insI (l : List Int) (n : Int) : List Int := l.filter (fun x => decide (x < n)) ++ n :: l.filter (fun x => !decide (x < n))
theorem insI_at {l : List Int} {n : Int} {i : Nat} (h1 : ∀ x ∈ l.take i, x < n) (h2 : ∀ x ∈ l.drop i, ¬ x < n) : insI l n = l.take i ++ n :: l.drop i := by
  have e : l = l.take i ++ l.drop i := (List.take_append_drop ..).symm
  unfold insI
  conv => lhs; rw [e]
  rw [List.filter_append, List.filter_append, List.filter_eq_self.2 (by simpa using h1), List.filter_eq_nil_iff.2 (by simpa using h2), List.filter_eq_nil_iff.2 (fun x hx => by simp [h1 x hx]), List.filter_eq_self.2 (fun x hx => by simp [h2 x hx]), List.append_nil, List.nil_append]
theorem insI_mem {l : List Int} {n x : Int} : x ∈ insI l n ↔ x ∈ l ∨ x = n := by
  unfold insI
  rw [List.mem_append, List.mem_cons, List.mem_filter, List.mem_filter]
  by_cases h : x < n <;> simp [h] <;> constructor <;> rintro (h1 | h1) <;> simp [h1]
theorem insI_rising {l : List Int} {n : Int} (h : risingI l) (hn : n ∉ l) : risingI (insI l n) := by
  unfold insI
  refine List.pairwise_append.2 ⟨h.sublist List.filter_sublist, List.pairwise_cons.2 ⟨fun y hy => ?_, h.sublist List.filter_sublist⟩, fun x hx y hy => ?_⟩
  · have h1 := List.mem_filter.1 hy
    have h2 : ¬ y < n := by simpa using h1.2
    have h3 : y ≠ n := fun e => hn (by rw [← e]; exact h1.1)
    omega
  · have h1 : x < n := by simpa using (List.mem_filter.1 hx).2
    rcases List.mem_cons.1 hy with rfl | hy
    · exact h1
    · have h2 : ¬ y < n := by simpa using (List.mem_filter.1 hy).2
      omega
theorem filt_len {α : Type} (p : α → Bool) : ∀ l : List α, (l.filter p).length + (l.filter fun x => !p x).length = l.length
  | [] => rfl
  | x :: l => by
    have ih := filt_len p l
    rw [List.filter_cons, List.filter_cons]
    cases hp : p x <;> simp <;> omega
theorem insI_len (l : List Int) (n : Int) : (insI l n).length = l.length + 1 := by
  unfold insI
  rw [List.length_append, List.length_cons]
  have := filt_len (fun x => decide (x < n)) l
  omega
theorem with_ok (l : List Int) (hl : tiny l) (hs : risingI l) (n : Int) (hn : n ∉ l) : ACalls Tryz.prog 53 [.d (.sl 1 (nums l)), .d (.int .i64 n)] [] (fun av L => av = .d (.sl 1 (nums (insI l n))) ∧ L = []) := by
  have hll := nums_length l
  have hin := in_ok l (by unfold few; unfold tiny at hl; omega) n
  rw [inI_not hn] at hin
  unfold tiny at hl
  refine acalls_go ttOk zOk foOk Tryz.func53 rfl Tryz.ntmps53 rfl false rfl ?_
  conv => whnf
  refine hin.mono ?_
  rintro _ _ ⟨rfl, rfl⟩
  conv => whnf
  repeat' (first | ((with_reducible apply z_wrap); (focus omega); (conv => whnf)) | ((with_reducible first | apply mt_dec | apply mt_eq | apply mt_ne | apply mt_not | apply mt_any) <;> (intro _; conv => whnf)))
  refine loop_go ttOk zOk foOk (σ := Nat) (fun i => ([(0, .d (.sl 1 (nums l))), (1, .d (.int .i64 n)), (5, .d (.int .i64 i))], [])) (fun i => i ≤ l.length ∧ ∀ x ∈ l.take i, x < n) (fun i => l.length - i) [0, 1, 5] ?_ ?_
  · conv => whnf
    exact ⟨0, rfl, rfl, Nat.zero_le _, by simp⟩
  · rintro i ⟨hi, hall⟩
    have hdj : List.drop (Int.toNat 0) (List.take ((i : Int)).toNat (nums l)) = nums (l.take i) := by
      rw [show ((i : Int)).toNat = i from rfl, show Int.toNat 0 = 0 from rfl, List.drop_zero, nums_take']
    have hdj2 : List.drop ((i : Int)).toNat (List.take (((nums l).length : Int)).toNat (nums l)) = nums (l.drop i) := by
      rw [show ((i : Int)).toNat = i from rfl, show (((nums l).length : Int)).toNat = (nums l).length from rfl, List.take_length, nums_drop']
    have hcp : ACalls Tryz.prog 38 [.d (.sl 1 (List.drop (Int.toNat 0) (List.take ((i : Int)).toNat (nums l))))] [] (fun av L => av = .arr 0 ∧ L = [.row 3 1 (nums (l.take i)) false]) := by
      rw [hdj]
      exact copyNumbers_row _ (by unfold tiny; have := List.length_take_le' i l; omega)
    have hlt := List.length_take_le' i l
    have hld : (l.drop i).length ≤ l.length := by rw [List.length_drop]; omega
    conv => whnf
    repeat' (first | ((with_reducible apply z_wrap); (focus omega); (conv => whnf)) | ((with_reducible first | apply mt_dec | apply mt_eq | apply mt_ne | apply mt_not | apply mt_any) <;> (intro _; conv => whnf)))
    · rename_i hil
      refine Exists.elim (⟨_, List.getElem?_eq_getElem (by omega)⟩ : ∃ y, l[i]? = some y) fun y hy => ?_
      refine ⟨by omega, [.int .i64 y], nums_at hy, ?_⟩
      conv => whnf
      repeat' (first | ((with_reducible apply z_wrap); (focus omega); (conv => whnf)) | ((with_reducible first | apply mt_dec | apply mt_eq | apply mt_ne | apply mt_not | apply mt_any) <;> (intro _; conv => whnf)))
      · rename_i hyn
        refine ⟨i + 1, rfl, rfl, ⟨by omega, fun x hx => ?_⟩, by omega⟩
        rw [List.take_add_one, hy] at hx
        rcases List.mem_append.1 hx with hx | hx
        · exact hall x hx
        · simp at hx; rw [hx]; exact hyn
      · rename_i hyn
        have hge : ∀ x ∈ l.drop i, ¬ x < n := by
          intro x hx
          obtain ⟨h1, rfl⟩ := List.getElem?_eq_some_iff.1 hy
          obtain ⟨j, hj, rfl⟩ := List.mem_drop_iff_getElem.1 hx
          rcases Nat.eq_zero_or_pos j with rfl | h2
          · simpa using hyn
          · have := List.pairwise_iff_getElem.1 hs i (i + j) h1 (by omega) (by omega)
            omega
        rw [insI_at hall hge]
        refine ⟨by omega, by omega, by omega, ?_⟩
        conv => whnf
        refine hcp.mono ?_
        rintro _ _ ⟨rfl, rfl⟩
        conv => whnf
        refine ⟨by rw [nums_length, List.length_singleton]; show (_ + 1) * 8 ≤ _; omega, ?_⟩
        conv => whnf
        rw [nums_app]
        refine ⟨by omega, by omega, by omega, ?_⟩
        conv => whnf
        refine ⟨by rw [hdj2, nums_length, nums_length, List.length_append, List.length_singleton]; show (_ + 1 + _) * 8 ≤ _; omega, ?_⟩
        conv => whnf
        refine ⟨?_, rfl⟩
        rw [hdj2, nums_apps, List.append_assoc]
        rfl
    · rename_i hil
      have hge : ∀ x ∈ l.drop i, ¬ x < n := by
        intro x hx
        rw [List.drop_of_length_le (by omega)] at hx
        cases hx
      rw [insI_at hall hge]
      refine ⟨by omega, by omega, by omega, ?_⟩
      conv => whnf
      refine hcp.mono ?_
      rintro _ _ ⟨rfl, rfl⟩
      conv => whnf
      refine ⟨by rw [nums_length, List.length_singleton]; show (_ + 1) * 8 ≤ _; omega, ?_⟩
      conv => whnf
      rw [nums_app]
      refine ⟨by omega, by omega, by omega, ?_⟩
      conv => whnf
      refine ⟨by rw [hdj2, nums_length, nums_length, List.length_append, List.length_singleton]; show (_ + 1 + _) * 8 ≤ _; omega, ?_⟩
      conv => whnf
      refine ⟨?_, rfl⟩
      rw [hdj2, nums_apps, List.append_assoc]
      rfl
end Go.Proofs.YtoeppembokpjkaaGreat

namespace Go.Proofs.YtoeppembokpjkaaGreat
open Go.Ab Go.RowKit Go.MapKept
attribute [local irreducible] ACalls AW ADraw Into fltB fnear
set_option maxRecDepth 100000
def mayS (d : Dag) (j : Nat) : AF × List AB :=
  ([(1, .ptr 0 0), (3, .map 1), (30, .d (.sl 6 (certsD d.certs))), (31, .d (.int .i64 d.certs.length)), (32, .d (.int .i64 j))], [.cells d.cells, .map (mapP (seenP (d.certs.take j)))])
def mayI (d : Dag) (j : Nat) (c : Cert) (m : Nat) : AF × List AB :=
  ([(1, .ptr 0 0), (3, .map 1), (5, .ptr 2 0), (30, .d (.sl 6 (certsD d.certs))), (31, .d (.int .i64 d.certs.length)), (32, .d (.int .i64 j)), (76, .d (.sl 1 (nums c.pars))), (77, .d (.int .i64 c.pars.length)), (78, .d (.int .i64 m))], [.cells d.cells, .map (mapP (seenP (d.certs.take j))), .cells c.cells])
set_option maxHeartbeats 2000000 in
theorem dagMay_ok (d : Dag) (h : Valid d) : ACalls Tryz.prog 54 [d.av] [] (fun av L => av = .d (.bool true) ∧ L = []) := by
  have hcl := certsD_length d.certs
  have hn := of_decide_eq_true h.nodes
  have hlow := h.low
  have hlen := h.len
  have hwell := h.well
  refine acalls_go ttOk zOk foOk Tryz.func54 rfl Tryz.ntmps54 rfl false rfl ?_
  conv => whnf
  refine (is_ok d.nodes).mono ?_
  rintro _ _ ⟨rfl, rfl⟩
  rw [h.nodes]
  conv => whnf
  repeat' (first | ((with_reducible apply rd_intro); (focus (intro K hK; (conv => whnf); first | exact hK | (intro z hz; rw [wrapI (by omega)] at hz; subst hz; exact hK))); (conv => whnf)) | ((with_reducible apply gd_and); (focus ((conv => whnf) <;> first | rfl | (intro K hK; (conv => whnf); first | exact hK | (intro z hz; rw [wrapI (by omega)] at hz; subst hz; exact hK)))); (conv => whnf)) | ((with_reducible apply z_wrap); (focus omega); (conv => whnf)) | ((with_reducible first | apply mt_dec | apply mt_eq | apply mt_ne | apply mt_not | apply mt_any) <;> (intro _; conv => whnf)))
  · rename_i h1; omega
  · rename_i h1 h2; omega
  · rename_i h1 h2 h3; omega
  · skip
    refine loop_go ttOk zOk foOk (σ := Nat) (mayS d) (fun j => j ≤ d.certs.length) (fun j => d.certs.length - j) [1, 3, 30, 31, 32] ?_ ?_
    · conv => whnf
      exact ⟨0, by rw [hcl]; rfl, rfl, Nat.zero_le _⟩
    · intro j hj
      conv => whnf
      repeat' (first | ((with_reducible apply rd_intro); (focus (intro K hK; (conv => whnf); first | exact hK | (intro z hz; rw [wrapI (by omega)] at hz; subst hz; exact hK))); (conv => whnf)) | ((with_reducible apply gd_and); (focus ((conv => whnf) <;> first | rfl | (intro K hK; (conv => whnf); first | exact hK | (intro z hz; rw [wrapI (by omega)] at hz; subst hz; exact hK)))); (conv => whnf)) | ((with_reducible apply z_wrap); (focus omega); (conv => whnf)) | ((with_reducible first | apply mt_dec | apply mt_eq | apply mt_ne | apply mt_not | apply mt_any) <;> (intro _; conv => whnf)))
      · rename_i hjl
        have hjn : j < d.certs.length := Int.ofNat_lt.1 hjl
        refine Exists.elim (⟨_, List.getElem?_eq_getElem hjn⟩ : ∃ c, d.certs[j]? = some c) fun c hc => ?_
        have hcm := List.mem_of_getElem? hc
        have hok := h.certs c hcm
        have hfl := h.fewL hcm
        have hab := h.above c hcm
        have hft := hwell.fit.fit c hcm
        have hrb := hok.head.round
        have hpl := nums_length c.pars
        refine ⟨by omega, c.cs, certsD_at hc, ?_⟩
        conv => whnf
        repeat' (first | ((with_reducible apply rd_intro); (focus (intro K hK; (conv => whnf); first | exact hK | (intro z hz; rw [wrapI (by omega)] at hz; subst hz; exact hK))); (conv => whnf)) | ((with_reducible apply gd_and); (focus ((conv => whnf) <;> first | rfl | (intro K hK; (conv => whnf); first | exact hK | (intro z hz; rw [wrapI (by omega)] at hz; subst hz; exact hK)))); (conv => whnf)) | ((with_reducible apply z_wrap); (focus omega); (conv => whnf)) | ((with_reducible first | apply mt_dec | apply mt_eq | apply mt_ne | apply mt_not | apply mt_any) <;> (intro _; conv => whnf)))
        ((with_reducible refine draw_pl ttOk zOk foOk mixedOk pl54x7 ?_ ?_); (focus kernel_rfl); (conv => whnf))
        repeat' (first | ((with_reducible apply rd_intro); (focus (intro K hK; (conv => whnf); first | exact hK | (intro z hz; rw [wrapI (by omega)] at hz; subst hz; exact hK))); (conv => whnf)) | ((with_reducible apply gd_and); (focus ((conv => whnf) <;> first | rfl | (intro K hK; (conv => whnf); first | exact hK | (intro z hz; rw [wrapI (by omega)] at hz; subst hz; exact hK)))); (conv => whnf)) | ((with_reducible apply z_wrap); (focus omega); (conv => whnf)) | ((with_reducible first | apply mt_dec | apply mt_eq | apply mt_ne | apply mt_not | apply mt_any) <;> (intro _; conv => whnf)))
        refine (mayCert_ok c hfl d.nodes).mono ?_
        rintro _ _ ⟨rfl, rfl⟩
        rw [@decide_eq_true _ (Classical.propDecidable _) hok]
        conv => whnf
        repeat' (first | ((with_reducible apply rd_intro); (focus (intro K hK; (conv => whnf); first | exact hK | (intro z hz; rw [wrapI (by omega)] at hz; subst hz; exact hK))); (conv => whnf)) | ((with_reducible apply gd_and); (focus ((conv => whnf) <;> first | rfl | (intro K hK; (conv => whnf); first | exact hK | (intro z hz; rw [wrapI (by omega)] at hz; subst hz; exact hK)))); (conv => whnf)) | ((with_reducible apply z_wrap); (focus omega); (conv => whnf)) | ((with_reducible first | apply mt_dec | apply mt_eq | apply mt_ne | apply mt_not | apply mt_any) <;> (intro _; conv => whnf)))
        · rename_i h1; exact absurd hab (by omega)
        · rename_i h1
          obtain ⟨q, hq, hq2⟩ := mapP_find c.digest (seenP (d.certs.take j)) 0
          have hqn : q = none := by
            rcases hq2 with ⟨v, i, hv, _⟩ | ⟨_, hv⟩
            · rw [h.fresh hc] at hv; cases hv
            · exact hv
          subst hqn
          ((with_reducible apply rd_intro); (focus (intro K hK; (conv => whnf); exact ⟨none, hq, hK⟩)); (conv => whnf))
          repeat' (first | ((with_reducible apply rd_intro); (focus (intro K hK; (conv => whnf); first | exact hK | (intro z hz; rw [wrapI (by omega)] at hz; subst hz; exact hK))); (conv => whnf)) | ((with_reducible apply gd_and); (focus ((conv => whnf) <;> first | rfl | (intro K hK; (conv => whnf); first | exact hK | (intro z hz; rw [wrapI (by omega)] at hz; subst hz; exact hK)))); (conv => whnf)) | ((with_reducible apply z_wrap); (focus omega); (conv => whnf)) | ((with_reducible first | apply mt_dec | apply mt_eq | apply mt_ne | apply mt_not | apply mt_any) <;> (intro _; conv => whnf)))
          · rename_i hj0
            refine Exists.elim (⟨_, List.getElem?_eq_getElem (show j - 1 < d.certs.length by omega)⟩ : ∃ c, d.certs[j - 1]? = some c) fun c0 hc0 => ?_
            have hft0 := hwell.fit.fit c0 (List.mem_of_getElem? hc0)
            have hbef : c0.before c.round c.author = true := by
              have := List.pairwise_iff_getElem.1 h.sorted (j - 1) j (by omega) hjn (by omega)
              rw [List.getElem?_eq_getElem hjn] at hc
              rw [List.getElem?_eq_getElem (by omega)] at hc0
              rw [← Option.some.inj hc, ← Option.some.inj hc0]
              exact this
            have hls : decide (c0.round < c.round ∨ c0.round = c.round ∧ c0.author < c.author) = true := hbef
            ((with_reducible apply rd_intro); (focus (intro K hK; (conv => whnf); exact ⟨by omega, c0.cs, (by rw [show ((j : Int) - 1).toNat = j - 1 by omega]; exact certsD_at hc0), hK⟩)); (conv => whnf))
            repeat' (first | ((with_reducible apply rd_intro); (focus (intro K hK; (conv => whnf); first | exact hK | (intro z hz; rw [wrapI (by omega)] at hz; subst hz; exact hK))); (conv => whnf)) | ((with_reducible apply gd_and); (focus ((conv => whnf) <;> first | rfl | (intro K hK; (conv => whnf); first | exact hK | (intro z hz; rw [wrapI (by omega)] at hz; subst hz; exact hK)))); (conv => whnf)) | ((with_reducible apply z_wrap); (focus omega); (conv => whnf)) | ((with_reducible first | apply mt_dec | apply mt_eq | apply mt_ne | apply mt_not | apply mt_any) <;> (intro _; conv => whnf)))
            refine (dagPlace_ok c0).mono ?_
            rintro _ _ ⟨rfl, rfl⟩
            conv => whnf
            repeat' (first | ((with_reducible apply rd_intro); (focus (intro K hK; (conv => whnf); first | exact hK | (intro z hz; rw [wrapI (by omega)] at hz; subst hz; exact hK))); (conv => whnf)) | ((with_reducible apply gd_and); (focus ((conv => whnf) <;> first | rfl | (intro K hK; (conv => whnf); first | exact hK | (intro z hz; rw [wrapI (by omega)] at hz; subst hz; exact hK)))); (conv => whnf)) | ((with_reducible apply z_wrap); (focus omega); (conv => whnf)) | ((with_reducible first | apply mt_dec | apply mt_eq | apply mt_ne | apply mt_not | apply mt_any) <;> (intro _; conv => whnf)))
            refine (dagPlace_ok c).mono ?_
            rintro _ _ ⟨rfl, rfl⟩
            conv => whnf
            repeat' (first | ((with_reducible apply rd_intro); (focus (intro K hK; (conv => whnf); first | exact hK | (intro z hz; rw [wrapI (by omega)] at hz; subst hz; exact hK))); (conv => whnf)) | ((with_reducible apply gd_and); (focus ((conv => whnf) <;> first | rfl | (intro K hK; (conv => whnf); first | exact hK | (intro z hz; rw [wrapI (by omega)] at hz; subst hz; exact hK)))); (conv => whnf)) | ((with_reducible apply z_wrap); (focus omega); (conv => whnf)) | ((with_reducible first | apply mt_dec | apply mt_eq | apply mt_ne | apply mt_not | apply mt_any) <;> (intro _; conv => whnf)))
            refine (placeLess_ok hft0.1 hft0.2 hft.1 hft.2).mono ?_
            rintro _ _ ⟨rfl, rfl⟩
            rw [hls]
            conv => whnf
            repeat' (first | ((with_reducible apply rd_intro); (focus (intro K hK; (conv => whnf); first | exact hK | (intro z hz; rw [wrapI (by omega)] at hz; subst hz; exact hK))); (conv => whnf)) | ((with_reducible apply gd_and); (focus ((conv => whnf) <;> first | rfl | (intro K hK; (conv => whnf); first | exact hK | (intro z hz; rw [wrapI (by omega)] at hz; subst hz; exact hK)))); (conv => whnf)) | ((with_reducible apply z_wrap); (focus omega); (conv => whnf)) | ((with_reducible first | apply mt_dec | apply mt_eq | apply mt_ne | apply mt_not | apply mt_any) <;> (intro _; conv => whnf)))
            refine loop_go ttOk zOk foOk (σ := Nat) (mayI d j c) (fun m => m ≤ c.pars.length) (fun m => c.pars.length - m) [1, 3, 5, 30, 31, 32, 76, 77, 78] ?_ ?_
            · conv => whnf
              exact ⟨0, by rw [hpl]; rfl, rfl, Nat.zero_le _⟩
            · intro m hm
              conv => whnf
              repeat' (first | ((with_reducible apply rd_intro); (focus (intro K hK; (conv => whnf); first | exact hK | (intro z hz; rw [wrapI (by omega)] at hz; subst hz; exact hK))); (conv => whnf)) | ((with_reducible apply gd_and); (focus ((conv => whnf) <;> first | rfl | (intro K hK; (conv => whnf); first | exact hK | (intro z hz; rw [wrapI (by omega)] at hz; subst hz; exact hK)))); (conv => whnf)) | ((with_reducible apply z_wrap); (focus omega); (conv => whnf)) | ((with_reducible first | apply mt_dec | apply mt_eq | apply mt_ne | apply mt_not | apply mt_any) <;> (intro _; conv => whnf)))
              · rename_i hml
                have hmn : m < c.pars.length := Int.ofNat_lt.1 hml
                have hpf := hfl.pars
                unfold few at hpf
                refine Exists.elim (⟨_, List.getElem?_eq_getElem hmn⟩ : ∃ x, c.pars[m]? = some x) fun x hx => ?_
                refine ⟨by omega, [.int .i64 x], nums_at hx, ?_⟩
                conv => whnf
                repeat' (first | ((with_reducible apply rd_intro); (focus (intro K hK; (conv => whnf); first | exact hK | (intro z hz; rw [wrapI (by omega)] at hz; subst hz; exact hK))); (conv => whnf)) | ((with_reducible apply gd_and); (focus ((conv => whnf) <;> first | rfl | (intro K hK; (conv => whnf); first | exact hK | (intro z hz; rw [wrapI (by omega)] at hz; subst hz; exact hK)))); (conv => whnf)) | ((with_reducible apply z_wrap); (focus omega); (conv => whnf)) | ((with_reducible first | apply mt_dec | apply mt_eq | apply mt_ne | apply mt_not | apply mt_any) <;> (intro _; conv => whnf)))
                · rename_i hrl
                  have hpa := h.parent hc (by omega) (List.mem_of_getElem? hx)
                  refine Exists.elim (mapP_find x (seenP (d.certs.take j)) 0) fun q hq => ?_
                  have hqs : ∃ i, q = some (i, .v (.one (.int .i64 (c.round - 1)))) := by
                    rcases hq.2 with ⟨v, i, hv, e⟩ | ⟨hv, _⟩
                    · rw [hpa] at hv; cases hv; exact ⟨i, e⟩
                    · rw [hpa] at hv; cases hv
                  refine Exists.elim hqs fun i hqe => ?_
                  have hq1 := hq.1
                  rw [hqe] at hq1
                  refine ⟨_, hq1, ?_⟩
                  conv => whnf
                  repeat' (first | ((with_reducible apply rd_intro); (focus (intro K hK; (conv => whnf); first | exact hK | (intro z hz; rw [wrapI (by omega)] at hz; subst hz; exact hK))); (conv => whnf)) | ((with_reducible apply gd_and); (focus ((conv => whnf) <;> first | rfl | (intro K hK; (conv => whnf); first | exact hK | (intro z hz; rw [wrapI (by omega)] at hz; subst hz; exact hK)))); (conv => whnf)) | ((with_reducible apply z_wrap); (focus omega); (conv => whnf)) | ((with_reducible first | apply mt_dec | apply mt_eq | apply mt_ne | apply mt_not | apply mt_any) <;> (intro _; conv => whnf)))
                  · rename_i hne
                    exfalso
                    revert hne
                    simp
                  · exact ⟨m + 1, rfl, rfl, by omega, by omega⟩
                · exact ⟨m + 1, rfl, rfl, by omega, by omega⟩
              · rename_i hml
                refine Exists.elim (mapP_new (v := c.round) (h.fresh hc)) fun q hq => ?_
                refine ⟨q, hq.1, ?_⟩
                have hnew : mputAt (mapP (seenP (d.certs.take j))) q (.one (.int .i64 c.digest)) (.v (.one (.int .i64 c.round))) = mapP (seenP (d.certs.take (j + 1))) := by
                  rw [hq.2, List.take_add_one, hc]; simp [seenP]
                rw [hnew]
                conv => whnf
                repeat' (first | ((with_reducible apply rd_intro); (focus (intro K hK; (conv => whnf); first | exact hK | (intro z hz; rw [wrapI (by omega)] at hz; subst hz; exact hK))); (conv => whnf)) | ((with_reducible apply gd_and); (focus ((conv => whnf) <;> first | rfl | (intro K hK; (conv => whnf); first | exact hK | (intro z hz; rw [wrapI (by omega)] at hz; subst hz; exact hK)))); (conv => whnf)) | ((with_reducible apply z_wrap); (focus omega); (conv => whnf)) | ((with_reducible first | apply mt_dec | apply mt_eq | apply mt_ne | apply mt_not | apply mt_any) <;> (intro _; conv => whnf)))
                exact ⟨j + 1, rfl, rfl, by omega, by omega⟩
          · rename_i hj0
            refine loop_go ttOk zOk foOk (σ := Nat) (mayI d j c) (fun m => m ≤ c.pars.length) (fun m => c.pars.length - m) [1, 3, 5, 30, 31, 32, 76, 77, 78] ?_ ?_
            · conv => whnf
              exact ⟨0, by rw [hpl]; rfl, rfl, Nat.zero_le _⟩
            · intro m hm
              conv => whnf
              repeat' (first | ((with_reducible apply rd_intro); (focus (intro K hK; (conv => whnf); first | exact hK | (intro z hz; rw [wrapI (by omega)] at hz; subst hz; exact hK))); (conv => whnf)) | ((with_reducible apply gd_and); (focus ((conv => whnf) <;> first | rfl | (intro K hK; (conv => whnf); first | exact hK | (intro z hz; rw [wrapI (by omega)] at hz; subst hz; exact hK)))); (conv => whnf)) | ((with_reducible apply z_wrap); (focus omega); (conv => whnf)) | ((with_reducible first | apply mt_dec | apply mt_eq | apply mt_ne | apply mt_not | apply mt_any) <;> (intro _; conv => whnf)))
              · rename_i hml
                have hmn : m < c.pars.length := Int.ofNat_lt.1 hml
                have hpf := hfl.pars
                unfold few at hpf
                refine Exists.elim (⟨_, List.getElem?_eq_getElem hmn⟩ : ∃ x, c.pars[m]? = some x) fun x hx => ?_
                refine ⟨by omega, [.int .i64 x], nums_at hx, ?_⟩
                conv => whnf
                repeat' (first | ((with_reducible apply rd_intro); (focus (intro K hK; (conv => whnf); first | exact hK | (intro z hz; rw [wrapI (by omega)] at hz; subst hz; exact hK))); (conv => whnf)) | ((with_reducible apply gd_and); (focus ((conv => whnf) <;> first | rfl | (intro K hK; (conv => whnf); first | exact hK | (intro z hz; rw [wrapI (by omega)] at hz; subst hz; exact hK)))); (conv => whnf)) | ((with_reducible apply z_wrap); (focus omega); (conv => whnf)) | ((with_reducible first | apply mt_dec | apply mt_eq | apply mt_ne | apply mt_not | apply mt_any) <;> (intro _; conv => whnf)))
                · rename_i hrl
                  have hpa := h.parent hc (by omega) (List.mem_of_getElem? hx)
                  refine Exists.elim (mapP_find x (seenP (d.certs.take j)) 0) fun q hq => ?_
                  have hqs : ∃ i, q = some (i, .v (.one (.int .i64 (c.round - 1)))) := by
                    rcases hq.2 with ⟨v, i, hv, e⟩ | ⟨hv, _⟩
                    · rw [hpa] at hv; cases hv; exact ⟨i, e⟩
                    · rw [hpa] at hv; cases hv
                  refine Exists.elim hqs fun i hqe => ?_
                  have hq1 := hq.1
                  rw [hqe] at hq1
                  refine ⟨_, hq1, ?_⟩
                  conv => whnf
                  repeat' (first | ((with_reducible apply rd_intro); (focus (intro K hK; (conv => whnf); first | exact hK | (intro z hz; rw [wrapI (by omega)] at hz; subst hz; exact hK))); (conv => whnf)) | ((with_reducible apply gd_and); (focus ((conv => whnf) <;> first | rfl | (intro K hK; (conv => whnf); first | exact hK | (intro z hz; rw [wrapI (by omega)] at hz; subst hz; exact hK)))); (conv => whnf)) | ((with_reducible apply z_wrap); (focus omega); (conv => whnf)) | ((with_reducible first | apply mt_dec | apply mt_eq | apply mt_ne | apply mt_not | apply mt_any) <;> (intro _; conv => whnf)))
                  · rename_i hne
                    exfalso
                    revert hne
                    simp
                  · exact ⟨m + 1, rfl, rfl, by omega, by omega⟩
                · exact ⟨m + 1, rfl, rfl, by omega, by omega⟩
              · rename_i hml
                refine Exists.elim (mapP_new (v := c.round) (h.fresh hc)) fun q hq => ?_
                refine ⟨q, hq.1, ?_⟩
                have hnew : mputAt (mapP (seenP (d.certs.take j))) q (.one (.int .i64 c.digest)) (.v (.one (.int .i64 c.round))) = mapP (seenP (d.certs.take (j + 1))) := by
                  rw [hq.2, List.take_add_one, hc]; simp [seenP]
                rw [hnew]
                conv => whnf
                repeat' (first | ((with_reducible apply rd_intro); (focus (intro K hK; (conv => whnf); first | exact hK | (intro z hz; rw [wrapI (by omega)] at hz; subst hz; exact hK))); (conv => whnf)) | ((with_reducible apply gd_and); (focus ((conv => whnf) <;> first | rfl | (intro K hK; (conv => whnf); first | exact hK | (intro z hz; rw [wrapI (by omega)] at hz; subst hz; exact hK)))); (conv => whnf)) | ((with_reducible apply z_wrap); (focus omega); (conv => whnf)) | ((with_reducible first | apply mt_dec | apply mt_eq | apply mt_ne | apply mt_not | apply mt_any) <;> (intro _; conv => whnf)))
                exact ⟨j + 1, rfl, rfl, by omega, by omega⟩
      · exact ⟨rfl, rfl⟩
end Go.Proofs.YtoeppembokpjkaaGreat

namespace Go.Proofs.YtoeppembokpjkaaGreat
open Go.Ab Go.RowKit Go.MapKept
attribute [local irreducible] ACalls AW ADraw Into fltB fnear
set_option maxRecDepth 100000
/-- the DAG of one, three rounds high -/
def wCert (r : Int) : Cert := ⟨1, r, [], if r > 1 then [r - 1] else [], r, [1]⟩
def wDag : Dag := ⟨1, 0, [wCert 1, wCert 2, wCert 3]⟩
theorem wDag_valid : Valid wDag := by
  refine ⟨rfl, by decide, by decide, ?_, by decide, by simp [sortedC, wDag, wCert, Cert.before], by decide, ?_⟩
  · intro c hc
    simp only [wDag, List.mem_cons, List.not_mem_nil, or_false] at hc
    rcases hc with rfl | rfl | rfl <;>
      exact ⟨⟨rfl, by decide, by decide, ⟨by decide, by simp [wCert, risingI], by decide⟩, ⟨by decide, by simp [wCert, risingI], by decide⟩, by decide, by decide⟩, by decide, ⟨by simp [wCert, risingI], by decide⟩, by decide⟩
  · intro c hc hr
    simp only [wDag, List.mem_cons, List.not_mem_nil, or_false] at hc
    rcases hc with rfl | rfl | rfl
    · exact absurd hr (by decide)
    · intro x hx
      exact ⟨wCert 1, by simp [wDag], by simp [wCert] at hx; simp [wCert, hx], by decide⟩
    · intro x hx
      exact ⟨wCert 2, by simp [wDag], by simp [wCert] at hx; simp [wCert, hx], by decide⟩
def c0 : Cursor := ⟨0, [], 0⟩
theorem c0_may : curMay c0 := by
  exact ⟨by decide, ⟨List.Pairwise.nil, by simp [c0]⟩, by decide⟩
theorem sortI_self {l : List Int} (h : risingI l) : sortI l = l := List.mergeSort_of_pairwise (h.imp fun h => by simp; omega)
theorem wDag_fin : finW wDag c0 = ⟨⟨2, [1, 2], 2⟩, [1, 2]⟩ := by
  have h1 : nextC wDag 0 = 2 := by
    show nextR wDag 2 = 2
    exact next_here (by decide) (by decide)
  have h2 : nextC wDag 2 = 0 := by
    show nextR wDag 4 = 0
    exact next_top (by decide)
  have h3 : backI wDag 0 2 = [2] := by
    unfold backI
    rw [back_end (by decide)]
    decide
  have h4 : (Wk.mk c0 []).putL wDag [2] = ⟨⟨2, [1, 2], 2⟩, [1, 2]⟩ := by
    show (Wk.mk c0 []).putA wDag 2 = _
    rw [putA_eq (i := 1) (c := wCert 2) (by decide) rfl]
    have h5 : behindI wDag 1 2 [] = [1, 2] := by decide
    show Wk.mk ⟨2, sortI (keepI wDag 2 ([] ++ behindI wDag 1 2 [])), min (0 + ((behindI wDag 1 2 []).length : Int)) 1099511627776⟩ ([] ++ behindI wDag 1 2 []) = _
    rw [h5, show keepI wDag 2 ([] ++ [1, 2]) = [1, 2] by decide, sortI_self (by simp [risingI])]
    rfl
  show Wk.goF wDag 3 ⟨c0, []⟩ = _
  rw [Wk.goF, if_pos (by show nextC wDag 0 > 0; rw [h1]; decide)]
  show Wk.goF wDag 2 ((Wk.mk c0 []).putL wDag (backI wDag 0 (nextC wDag 0))) = _
  rw [h1, h3, h4]
  exact goF_end (by show ¬ nextC wDag 2 > 0; rw [h2]; decide) _
theorem wStep_ok : ACalls Tryz.prog 14 [wDag.av, .agg [.d (.int .i64 0), .d .nils, .d (.int .i64 0)]] [] (fun av L => av = .tup [.agg [.d (.int .i64 2), .arr 0, .d (.int .i64 2)], .d (.sl 1 (nums [1, 2])), .d (.int .i64 0)] ∧ L = [.row 3 1 (nums [1, 2]) false]) := by
  refine (step_ok wDag wDag_valid.well (dagMay_ok wDag wDag_valid) c0 .nils (.inl ⟨rfl, rfl⟩) c0_may).mono ?_
  rintro av L (⟨h, _⟩ | ⟨_, rfl, rfl⟩)
  · exact absurd h.1 (by decide)
  · rw [wDag_fin]
    exact ⟨rfl, rfl⟩
def wSt : Nat → AF × List AB
  | 0 => ([(1, .ptr 0 0), (2, .d (.int .i64 1))], [.cells [.d (.int .i64 1), .d (.int .i64 0), .d .nils]])
  | 1 => ([(1, .ptr 0 0), (2, .d (.int .i64 2))], [.cells [.d (.int .i64 1), .d (.int .i64 0), .arr 1], .row 68 6 (certsD [wCert 1]) false])
  | 2 => ([(1, .ptr 0 0), (2, .d (.int .i64 3))], [.cells [.d (.int .i64 1), .d (.int .i64 0), .arr 1], .row 68 6 (certsD [wCert 1, wCert 2]) false])
  | _ => ([(1, .ptr 0 0), (2, .d (.int .i64 4))], [.cells [.d (.int .i64 1), .d (.int .i64 0), .arr 1], .row 68 6 (certsD [wCert 1, wCert 2, wCert 3]) false])
theorem wakes_ok : ACalls Tryz.prog 21 [] [] (fun av L => av = .d (.bool true) ∧ L = []) := by
  refine acalls_go ttOk zOk foOk Tryz.func21 rfl Tryz.ntmps21 rfl false rfl ?_
  conv => whnf
  refine loop_go ttOk zOk foOk (σ := Nat) wSt (fun j => j ≤ 3) (fun j => 3 - j) [1, 2] ?_ ?_
  · conv => whnf
    exact ⟨0, rfl, rfl, by omega⟩
  · intro j hj
    obtain rfl | rfl | rfl | rfl : j = 0 ∨ j = 1 ∨ j = 2 ∨ j = 3 := by omega
    · conv => whnf
      repeat' (first | ((with_reducible apply z_wrap); (focus omega); (conv => whnf)) | ((with_reducible first | apply mt_dec | apply mt_eq | apply mt_ne | apply mt_not | apply mt_any) <;> (intro _; conv => whnf)))
      refine ⟨by decide, ?_⟩
      conv => whnf
      repeat' (first | ((with_reducible apply z_wrap); (focus omega); (conv => whnf)) | ((with_reducible first | apply mt_dec | apply mt_eq | apply mt_ne | apply mt_not | apply mt_any) <;> (intro _; conv => whnf)))
      exact ⟨1, rfl, rfl, by omega, by omega⟩
    · conv => whnf
      repeat' (first | ((with_reducible apply z_wrap); (focus omega); (conv => whnf)) | ((with_reducible first | apply mt_dec | apply mt_eq | apply mt_ne | apply mt_not | apply mt_any) <;> (intro _; conv => whnf)))
      refine ⟨by decide, ?_⟩
      conv => whnf
      repeat' (first | ((with_reducible apply z_wrap); (focus omega); (conv => whnf)) | ((with_reducible first | apply mt_dec | apply mt_eq | apply mt_ne | apply mt_not | apply mt_any) <;> (intro _; conv => whnf)))
      exact ⟨2, rfl, rfl, by omega, by omega⟩
    · conv => whnf
      repeat' (first | ((with_reducible apply z_wrap); (focus omega); (conv => whnf)) | ((with_reducible first | apply mt_dec | apply mt_eq | apply mt_ne | apply mt_not | apply mt_any) <;> (intro _; conv => whnf)))
      refine ⟨by decide, ?_⟩
      conv => whnf
      repeat' (first | ((with_reducible apply z_wrap); (focus omega); (conv => whnf)) | ((with_reducible first | apply mt_dec | apply mt_eq | apply mt_ne | apply mt_not | apply mt_any) <;> (intro _; conv => whnf)))
      exact ⟨3, rfl, rfl, by omega, by omega⟩
    · conv => whnf
      repeat' (first | ((with_reducible apply z_wrap); (focus omega); (conv => whnf)) | ((with_reducible first | apply mt_dec | apply mt_eq | apply mt_ne | apply mt_not | apply mt_any) <;> (intro _; conv => whnf)))
      refine acalls_deep ?_
      conv => whnf
      refine wStep_ok.mono ?_
      rintro _ _ ⟨rfl, rfl⟩
      conv => whnf
      refine (num_ok 0).mono ?_
      rintro _ _ ⟨rfl, rfl⟩
      conv => whnf
      repeat' (first | ((with_reducible apply z_wrap); (focus omega); (conv => whnf)) | ((with_reducible first | apply mt_dec | apply mt_eq | apply mt_ne | apply mt_not | apply mt_any) <;> (intro _; conv => whnf)))
      (refine Or.inl ?_; (conv => whnf))
      refine (eqNumbers_ok [1, 2] [1, 2] (by unfold few; decide)).mono ?_
      rintro _ _ ⟨rfl, rfl⟩
      conv => whnf
      repeat' (first | ((with_reducible apply z_wrap); (focus omega); (conv => whnf)) | ((with_reducible first | apply mt_dec | apply mt_eq | apply mt_ne | apply mt_not | apply mt_any) <;> (intro _; conv => whnf)))
      exact ⟨rfl, rfl⟩
end Go.Proofs.YtoeppembokpjkaaGreat

namespace Go.Proofs.YtoeppembokpjkaaGreat
open Go.Ab Go.RowKit Go.MapKept
attribute [local irreducible] ACalls AW ADraw Into fltB fnear
set_option maxRecDepth 100000
def lackB (d : Dag) (r x : Int) : Bool := match certOf d x with | some c => decide (c.round ≠ r - 1) | none => true
def lacksI (d : Dag) (c : Cert) : List Int := if c.round - 1 ≤ d.low then [] else c.pars.filter fun x => lackB d c.round x
theorem rLacks_ok (d : Dag) (hd : few d.certs) (c : Cert) (hc : c.pars.length ≤ 1099511627776) (hr : 1 ≤ c.round ∧ c.round ≤ 1099511627776) : ACalls Tryz.prog 48 [d.av, c.hav] [] (fun av L => av = .d (.sl 1 (nums (lacksI d c))) ∧ L = []) := by
  have hcl := certsD_length d.certs
  have hpl := nums_length c.pars
  refine acalls_go ttOk zOk foOk Tryz.func48 rfl Tryz.ntmps48 rfl false rfl ?_
  conv => whnf
  repeat' (first | ((with_reducible apply rd_intro); (focus (intro K hK; (conv => whnf); first | exact hK | (intro z hz; rw [wrapI (by omega)] at hz; subst hz; exact hK))); (conv => whnf)) | ((with_reducible apply gd_and); (focus ((conv => whnf) <;> first | rfl | (intro K hK; (conv => whnf); first | exact hK | (intro z hz; rw [wrapI (by omega)] at hz; subst hz; exact hK)))); (conv => whnf)) | ((with_reducible apply z_wrap); (focus omega); (conv => whnf)) | ((with_reducible first | apply mt_dec | apply mt_eq | apply mt_ne | apply mt_not | apply mt_any) <;> (intro _; conv => whnf)))
  · rename_i h
    rw [lacksI, if_pos h]
    exact ⟨rfl, rfl⟩
  · rename_i h
    rw [lacksI, if_neg h]
    refine loop_go ttOk zOk foOk (σ := Nat) (fun j => ([(2, .ptr 0 0), (3, .ptr 1 0), (5, .arr 2), (6, .d (.int .i64 j))], [.cells d.cells, .cells c.hcells, .row 3 1 (nums ((c.pars.take j).filter fun x => lackB d c.round x)) false])) (fun j => j ≤ c.pars.length) (fun j => c.pars.length - j) [2, 3, 5, 6] ?_ ?_
    · conv => whnf
      exact ⟨0, rfl, rfl, Nat.zero_le _⟩
    · intro j hj
      conv => whnf
      rw [hpl]
      repeat' (first | ((with_reducible apply rd_intro); (focus (intro K hK; (conv => whnf); first | exact hK | (intro z hz; rw [wrapI (by omega)] at hz; subst hz; exact hK))); (conv => whnf)) | ((with_reducible apply gd_and); (focus ((conv => whnf) <;> first | rfl | (intro K hK; (conv => whnf); first | exact hK | (intro z hz; rw [wrapI (by omega)] at hz; subst hz; exact hK)))); (conv => whnf)) | ((with_reducible apply z_wrap); (focus omega); (conv => whnf)) | ((with_reducible first | apply mt_dec | apply mt_eq | apply mt_ne | apply mt_not | apply mt_any) <;> (intro _; conv => whnf)))
      · rename_i hjl
        refine Exists.elim (⟨_, List.getElem?_eq_getElem (by omega)⟩ : ∃ x, c.pars[j]? = some x) fun x hx => ?_
        ((with_reducible refine draw_pl ttOk zOk foOk mixedOk pl48x7 ?_ ?_); (focus kernel_rfl); (conv => whnf))
        repeat' (first | ((with_reducible apply rd_intro); (focus (intro K hK; (conv => whnf); first | exact hK | (intro z hz; rw [wrapI (by omega)] at hz; subst hz; exact hK))); (conv => whnf)) | ((with_reducible apply gd_and); (focus ((conv => whnf) <;> first | rfl | (intro K hK; (conv => whnf); first | exact hK | (intro z hz; rw [wrapI (by omega)] at hz; subst hz; exact hK)))); (conv => whnf)) | ((with_reducible apply z_wrap); (focus omega); (conv => whnf)) | ((with_reducible first | apply mt_dec | apply mt_eq | apply mt_ne | apply mt_not | apply mt_any) <;> (intro _; conv => whnf)))
        ((with_reducible apply rd_intro); (focus (intro K hK; (conv => whnf); exact ⟨by omega, [.int .i64 x], nums_at hx, hK⟩)); (conv => whnf))
        repeat' (first | ((with_reducible apply rd_intro); (focus (intro K hK; (conv => whnf); first | exact hK | (intro z hz; rw [wrapI (by omega)] at hz; subst hz; exact hK))); (conv => whnf)) | ((with_reducible apply gd_and); (focus ((conv => whnf) <;> first | rfl | (intro K hK; (conv => whnf); first | exact hK | (intro z hz; rw [wrapI (by omega)] at hz; subst hz; exact hK)))); (conv => whnf)) | ((with_reducible apply z_wrap); (focus omega); (conv => whnf)) | ((with_reducible first | apply mt_dec | apply mt_eq | apply mt_ne | apply mt_not | apply mt_any) <;> (intro _; conv => whnf)))
        refine (rFind_ok d hd x).mono ?_
        rintro _ _ ⟨rfl, rfl⟩
        conv => whnf
        repeat' (first | ((with_reducible apply rd_intro); (focus (intro K hK; (conv => whnf); first | exact hK | (intro z hz; rw [wrapI (by omega)] at hz; subst hz; exact hK))); (conv => whnf)) | ((with_reducible apply gd_and); (focus ((conv => whnf) <;> first | rfl | (intro K hK; (conv => whnf); first | exact hK | (intro z hz; rw [wrapI (by omega)] at hz; subst hz; exact hK)))); (conv => whnf)) | ((with_reducible apply z_wrap); (focus omega); (conv => whnf)) | ((with_reducible first | apply mt_dec | apply mt_eq | apply mt_ne | apply mt_not | apply mt_any) <;> (intro _; conv => whnf)))
        have hsn : ∀ b, lackB d c.round x = b → (c.pars.take (j + 1)).filter (fun x => lackB d c.round x) = (c.pars.take j).filter (fun x => lackB d c.round x) ++ (if b then [x] else []) := by
          intro b hb
          rw [List.take_add_one, hx]
          simp only [Option.toList_some, List.filter_append, List.filter_cons, hb]
          cases b <;> rfl
        have hfl : ((c.pars.take j).filter (fun x => lackB d c.round x)).length ≤ j := by
          have h1 := List.length_filter_le (fun x => lackB d c.round x) (c.pars.take j)
          rw [List.length_take] at h1
          omega
        have hfn := nums_length ((c.pars.take j).filter (fun x => lackB d c.round x))
        cases hg : getC d.certs x with
        | none =>
          rw [show getI d.certs x = -1 by rw [getI, hg]; rfl]
          have hlb : lackB d c.round x = true := by rw [lackB, certOf, hg]; rfl
          conv => whnf
          repeat' (first | ((with_reducible apply rd_intro); (focus (intro K hK; (conv => whnf); first | exact hK | (intro z hz; rw [wrapI (by omega)] at hz; subst hz; exact hK))); (conv => whnf)) | ((with_reducible apply gd_and); (focus ((conv => whnf) <;> first | rfl | (intro K hK; (conv => whnf); first | exact hK | (intro z hz; rw [wrapI (by omega)] at hz; subst hz; exact hK)))); (conv => whnf)) | ((with_reducible apply z_wrap); (focus omega); (conv => whnf)) | ((with_reducible first | apply mt_dec | apply mt_eq | apply mt_ne | apply mt_not | apply mt_any) <;> (intro _; conv => whnf)))
          ((with_reducible refine draw_pl ttOk zOk foOk mixedOk pl48x8 ?_ ?_); (focus kernel_rfl); (conv => whnf))
          repeat' (first | ((with_reducible apply rd_intro); (focus (intro K hK; (conv => whnf); first | exact hK | (intro z hz; rw [wrapI (by omega)] at hz; subst hz; exact hK))); (conv => whnf)) | ((with_reducible apply gd_and); (focus ((conv => whnf) <;> first | rfl | (intro K hK; (conv => whnf); first | exact hK | (intro z hz; rw [wrapI (by omega)] at hz; subst hz; exact hK)))); (conv => whnf)) | ((with_reducible apply z_wrap); (focus omega); (conv => whnf)) | ((with_reducible first | apply mt_dec | apply mt_eq | apply mt_ne | apply mt_not | apply mt_any) <;> (intro _; conv => whnf)))
          refine ⟨by omega, [.int .i64 x], nums_at hx, ?_⟩
          conv => whnf
          repeat' (first | ((with_reducible apply rd_intro); (focus (intro K hK; (conv => whnf); first | exact hK | (intro z hz; rw [wrapI (by omega)] at hz; subst hz; exact hK))); (conv => whnf)) | ((with_reducible apply gd_and); (focus ((conv => whnf) <;> first | rfl | (intro K hK; (conv => whnf); first | exact hK | (intro z hz; rw [wrapI (by omega)] at hz; subst hz; exact hK)))); (conv => whnf)) | ((with_reducible apply z_wrap); (focus omega); (conv => whnf)) | ((with_reducible first | apply mt_dec | apply mt_eq | apply mt_ne | apply mt_not | apply mt_any) <;> (intro _; conv => whnf)))
          refine ⟨by simp [hfn]; omega, ?_⟩
          conv => whnf
          repeat' (first | ((with_reducible apply rd_intro); (focus (intro K hK; (conv => whnf); first | exact hK | (intro z hz; rw [wrapI (by omega)] at hz; subst hz; exact hK))); (conv => whnf)) | ((with_reducible apply gd_and); (focus ((conv => whnf) <;> first | rfl | (intro K hK; (conv => whnf); first | exact hK | (intro z hz; rw [wrapI (by omega)] at hz; subst hz; exact hK)))); (conv => whnf)) | ((with_reducible apply z_wrap); (focus omega); (conv => whnf)) | ((with_reducible first | apply mt_dec | apply mt_eq | apply mt_ne | apply mt_not | apply mt_any) <;> (intro _; conv => whnf)))
          refine ⟨j + 1, rfl, ?_, by omega, by omega⟩
          rw [hsn _ hlb, ← nums_apps]
          rfl
        | some k =>
          obtain ⟨c', hc', hd'⟩ := getC_some hg
          rw [show getI d.certs x = (k : Int) by rw [getI, hg]; rfl]
          have hlb : lackB d c.round x = decide (c'.round ≠ c.round - 1) := by rw [lackB, certOf, hg, Option.bind_some, hc']
          have hkl := (List.getElem?_eq_some_iff.1 hc').1
          conv => whnf
          repeat' (first | ((with_reducible apply rd_intro); (focus (intro K hK; (conv => whnf); first | exact hK | (intro z hz; rw [wrapI (by omega)] at hz; subst hz; exact hK))); (conv => whnf)) | ((with_reducible apply gd_and); (focus ((conv => whnf) <;> first | rfl | (intro K hK; (conv => whnf); first | exact hK | (intro z hz; rw [wrapI (by omega)] at hz; subst hz; exact hK)))); (conv => whnf)) | ((with_reducible apply z_wrap); (focus omega); (conv => whnf)) | ((with_reducible first | apply mt_dec | apply mt_eq | apply mt_ne | apply mt_not | apply mt_any) <;> (intro _; conv => whnf)))
          ((with_reducible refine draw_pl ttOk zOk foOk mixedOk pl48x8 ?_ ?_); (focus kernel_rfl); (conv => whnf))
          repeat' (first | ((with_reducible apply rd_intro); (focus (intro K hK; (conv => whnf); first | exact hK | (intro z hz; rw [wrapI (by omega)] at hz; subst hz; exact hK))); (conv => whnf)) | ((with_reducible apply gd_and); (focus ((conv => whnf) <;> first | rfl | (intro K hK; (conv => whnf); first | exact hK | (intro z hz; rw [wrapI (by omega)] at hz; subst hz; exact hK)))); (conv => whnf)) | ((with_reducible apply z_wrap); (focus omega); (conv => whnf)) | ((with_reducible first | apply mt_dec | apply mt_eq | apply mt_ne | apply mt_not | apply mt_any) <;> (intro _; conv => whnf)))
          ((with_reducible apply rd_intro); (focus (intro K hK; (conv => whnf); exact ⟨by omega, c'.cs, certsD_at hc', hK⟩)); (conv => whnf))
          repeat' (first | ((with_reducible apply rd_intro); (focus (intro K hK; (conv => whnf); first | exact hK | (intro z hz; rw [wrapI (by omega)] at hz; subst hz; exact hK))); (conv => whnf)) | ((with_reducible apply gd_and); (focus ((conv => whnf) <;> first | rfl | (intro K hK; (conv => whnf); first | exact hK | (intro z hz; rw [wrapI (by omega)] at hz; subst hz; exact hK)))); (conv => whnf)) | ((with_reducible apply z_wrap); (focus omega); (conv => whnf)) | ((with_reducible first | apply mt_dec | apply mt_eq | apply mt_ne | apply mt_not | apply mt_any) <;> (intro _; conv => whnf)))
          · rename_i h1
            rw [decide_eq_true (by omega)] at hlb
            refine ⟨by omega, [.int .i64 x], nums_at hx, ?_⟩
            conv => whnf
            repeat' (first | ((with_reducible apply rd_intro); (focus (intro K hK; (conv => whnf); first | exact hK | (intro z hz; rw [wrapI (by omega)] at hz; subst hz; exact hK))); (conv => whnf)) | ((with_reducible apply gd_and); (focus ((conv => whnf) <;> first | rfl | (intro K hK; (conv => whnf); first | exact hK | (intro z hz; rw [wrapI (by omega)] at hz; subst hz; exact hK)))); (conv => whnf)) | ((with_reducible apply z_wrap); (focus omega); (conv => whnf)) | ((with_reducible first | apply mt_dec | apply mt_eq | apply mt_ne | apply mt_not | apply mt_any) <;> (intro _; conv => whnf)))
            refine ⟨by simp [hfn]; omega, ?_⟩
            conv => whnf
            repeat' (first | ((with_reducible apply rd_intro); (focus (intro K hK; (conv => whnf); first | exact hK | (intro z hz; rw [wrapI (by omega)] at hz; subst hz; exact hK))); (conv => whnf)) | ((with_reducible apply gd_and); (focus ((conv => whnf) <;> first | rfl | (intro K hK; (conv => whnf); first | exact hK | (intro z hz; rw [wrapI (by omega)] at hz; subst hz; exact hK)))); (conv => whnf)) | ((with_reducible apply z_wrap); (focus omega); (conv => whnf)) | ((with_reducible first | apply mt_dec | apply mt_eq | apply mt_ne | apply mt_not | apply mt_any) <;> (intro _; conv => whnf)))
            refine ⟨j + 1, rfl, ?_, by omega, by omega⟩
            rw [hsn _ hlb, ← nums_apps]
            rfl
          · rename_i h1
            rw [decide_eq_false (by omega)] at hlb
            refine ⟨j + 1, rfl, ?_, by omega, by omega⟩
            rw [hsn _ hlb]; simp [Dag.cells, Cert.hcells]
      · rename_i hjl
        rw [List.take_of_length_le (by omega)]
        exact ⟨rfl, rfl⟩
end Go.Proofs.YtoeppembokpjkaaGreat
