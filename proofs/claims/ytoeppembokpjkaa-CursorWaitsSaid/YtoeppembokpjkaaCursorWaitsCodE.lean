/- Part of the proof of CursorWaits: the contracts of the functions. -/
import Derived.Test.YtoeppembokpjkaaCursorWaitsCodD

set_option linter.unusedVariables false
set_option linter.unusedSimpArgs false
namespace Go.Proofs.Ytoeppembokpjkaa
open Go.Ab Go.RowKit Go.MapKept
attribute [local irreducible] ACalls AW ADraw Into fltB fnear
set_option maxRecDepth 100000
theorem getC_no {l : List Cert} {x : Int} (h : ∀ c ∈ l, c.digest ≠ x) : getC l x = none := by
  unfold getC
  rw [List.findIdx?_eq_none_iff]
  intro c hc
  simp [h c hc]
theorem getC_here {l : List Cert} {x : Int} {j : Nat} {c : Cert} (hc : l[j]? = some c) (hx : c.digest = x) (h : ∀ c ∈ l.take j, c.digest ≠ x) : getC l x = some j := by
  unfold getC
  rw [List.findIdx?_eq_some_iff_getElem]
  obtain ⟨hj, rfl⟩ := List.getElem?_eq_some_iff.1 hc
  refine ⟨hj, by simpa using hx, fun i hi => ?_⟩
  have := h l[i] (List.mem_take_iff_getElem.2 ⟨i, by omega, rfl⟩)
  simpa using this
theorem rFind_ok (d : Dag) (hd : few d.certs) (x : Int) : ACalls Try.prog 23 [d.av, .d (.int .i64 x)] [] (fun av L => av = .d (.int .i64 (getI d.certs x)) ∧ L = []) := by
  have hcl := certsD_length d.certs
  unfold few at hd
  refine acalls_go ttOk zOk foOk Try.func23 rfl Try.ntmps23 rfl false rfl ?_
  conv => whnf
  refine loop_go ttOk zOk foOk (σ := Nat) (fun j => ([(1, .d (.int .i64 x)), (2, .ptr 0 0), (5, .d (.int .i64 j))], [.cells d.cells])) (fun j => j ≤ d.certs.length ∧ ∀ c ∈ d.certs.take j, c.digest ≠ x) (fun j => d.certs.length - j) [1, 2, 5] ?_ ?_
  · conv => whnf
    exact ⟨0, rfl, rfl, Nat.zero_le _, by simp⟩
  · rintro j ⟨hj, hall⟩
    conv => whnf
    rw [hcl]
    repeat' (first | ((with_reducible apply z_wrap); (focus omega); (conv => whnf)) | ((with_reducible refine mt_dec (fun _ => ?_) (fun _ => ?_)) <;> (conv => whnf)) | ((with_reducible refine mt_eq (fun _ => ?_) (fun _ => ?_)) <;> (conv => whnf)) | ((with_reducible refine mt_ne (fun _ => ?_) (fun _ => ?_)) <;> (conv => whnf)) | ((with_reducible refine mt_not (fun _ => ?_) (fun _ => ?_)) <;> (conv => whnf)) | ((with_reducible refine mt_any (fun _ => ?_) (fun _ => ?_)) <;> (conv => whnf)))
    · rename_i h
      refine Exists.elim (⟨_, List.getElem?_eq_getElem (by omega)⟩ : ∃ c, d.certs[j]? = some c) fun c hc => ?_
      refine ⟨by omega, c.cs, certsD_at hc, ?_⟩
      conv => whnf
      repeat' (first | ((with_reducible apply z_wrap); (focus omega); (conv => whnf)) | ((with_reducible refine mt_dec (fun _ => ?_) (fun _ => ?_)) <;> (conv => whnf)) | ((with_reducible refine mt_eq (fun _ => ?_) (fun _ => ?_)) <;> (conv => whnf)) | ((with_reducible refine mt_ne (fun _ => ?_) (fun _ => ?_)) <;> (conv => whnf)) | ((with_reducible refine mt_not (fun _ => ?_) (fun _ => ?_)) <;> (conv => whnf)) | ((with_reducible refine mt_any (fun _ => ?_) (fun _ => ?_)) <;> (conv => whnf)))
      · rename_i h2
        rw [getI, getC_here hc h2 hall]
        exact ⟨rfl, rfl⟩
      · rename_i h2
        refine ⟨j + 1, rfl, rfl, ⟨by omega, fun y hy => ?_⟩, by omega⟩
        rw [List.take_add_one, hc] at hy
        rcases List.mem_append.1 hy with hy | hy
        · exact hall y hy
        · simp at hy; rw [hy]; exact h2
    · rename_i h
      rw [List.take_of_length_le (by omega)] at hall
      rw [getI, getC_no hall]
      exact ⟨rfl, rfl⟩
end Go.Proofs.Ytoeppembokpjkaa

namespace Go.Proofs.Ytoeppembokpjkaa
open Go.Ab Go.RowKit Go.MapKept
attribute [local irreducible] ACalls AW ADraw Into fltB fnear
set_option maxRecDepth 100000
def lackB (d : Dag) (r x : Int) : Bool := match certOf d x with | some c => decide (c.round ≠ r - 1) | none => true
def lacksI (d : Dag) (c : Cert) : List Int := if c.round - 1 ≤ d.low then [] else c.pars.filter fun x => lackB d c.round x
theorem rLacks_ok (d : Dag) (hd : few d.certs) (c : Cert) (hc : c.pars.length ≤ 1099511627776) (hr : 1 ≤ c.round ∧ c.round ≤ 1099511627776) : ACalls Try.prog 34 [d.av, c.hav] [] (fun av L => av = .d (.sl 1 (nums (lacksI d c))) ∧ L = []) := by
  have hcl := certsD_length d.certs
  have hpl := nums_length c.pars
  refine acalls_go ttOk zOk foOk Try.func34 rfl Try.ntmps34 rfl false rfl ?_
  conv => whnf
  repeat' (first | ((with_reducible apply rd_intro); (focus (intro K hK; (conv => whnf); first | exact hK | (intro z hz; rw [wrapI (by omega)] at hz; subst hz; exact hK))); (conv => whnf)) | ((with_reducible apply gd_and); (focus ((conv => whnf) <;> first | rfl | (intro K hK; (conv => whnf); first | exact hK | (intro z hz; rw [wrapI (by omega)] at hz; subst hz; exact hK)))); (conv => whnf)) | ((with_reducible apply z_wrap); (focus omega); (conv => whnf)) | ((with_reducible refine mt_dec (fun _ => ?_) (fun _ => ?_)) <;> (conv => whnf)) | ((with_reducible refine mt_eq (fun _ => ?_) (fun _ => ?_)) <;> (conv => whnf)) | ((with_reducible refine mt_ne (fun _ => ?_) (fun _ => ?_)) <;> (conv => whnf)) | ((with_reducible refine mt_not (fun _ => ?_) (fun _ => ?_)) <;> (conv => whnf)) | ((with_reducible refine mt_any (fun _ => ?_) (fun _ => ?_)) <;> (conv => whnf)))
  · rename_i h
    rw [lacksI, if_pos h]
    exact ⟨rfl, rfl⟩
  · rename_i h
    rw [lacksI, if_neg h]
    refine loop_go ttOk zOk foOk (σ := Nat) (fun j => ([(2, .ptr 0 0), (3, .ptr 1 0), (5, .arr 2), (6, .d (.int .i64 j))], [.cells d.cells, .cells c.hcells, .row 3 1 (nums ((c.pars.take j).filter fun x => lackB d c.round x)) false])) (fun j => j ≤ c.pars.length) (fun j => c.pars.length - j) [2, 3, 5, 6] ?_ ?_
    · conv => whnf
      exact ⟨0, rfl, rfl, Nat.zero_le _⟩
    · intro j hj
      conv => whnf
      rw [hpl]
      repeat' (first | ((with_reducible apply rd_intro); (focus (intro K hK; (conv => whnf); first | exact hK | (intro z hz; rw [wrapI (by omega)] at hz; subst hz; exact hK))); (conv => whnf)) | ((with_reducible apply gd_and); (focus ((conv => whnf) <;> first | rfl | (intro K hK; (conv => whnf); first | exact hK | (intro z hz; rw [wrapI (by omega)] at hz; subst hz; exact hK)))); (conv => whnf)) | ((with_reducible apply z_wrap); (focus omega); (conv => whnf)) | ((with_reducible refine mt_dec (fun _ => ?_) (fun _ => ?_)) <;> (conv => whnf)) | ((with_reducible refine mt_eq (fun _ => ?_) (fun _ => ?_)) <;> (conv => whnf)) | ((with_reducible refine mt_ne (fun _ => ?_) (fun _ => ?_)) <;> (conv => whnf)) | ((with_reducible refine mt_not (fun _ => ?_) (fun _ => ?_)) <;> (conv => whnf)) | ((with_reducible refine mt_any (fun _ => ?_) (fun _ => ?_)) <;> (conv => whnf)))
      · rename_i hjl
        refine Exists.elim (⟨_, List.getElem?_eq_getElem (by omega)⟩ : ∃ x, c.pars[j]? = some x) fun x hx => ?_
        ((with_reducible refine draw_pl ttOk zOk foOk mixedOk pl34x7 ?_ ?_); (focus kernel_rfl); (conv => whnf))
        repeat' (first | ((with_reducible apply rd_intro); (focus (intro K hK; (conv => whnf); first | exact hK | (intro z hz; rw [wrapI (by omega)] at hz; subst hz; exact hK))); (conv => whnf)) | ((with_reducible apply gd_and); (focus ((conv => whnf) <;> first | rfl | (intro K hK; (conv => whnf); first | exact hK | (intro z hz; rw [wrapI (by omega)] at hz; subst hz; exact hK)))); (conv => whnf)) | ((with_reducible apply z_wrap); (focus omega); (conv => whnf)) | ((with_reducible refine mt_dec (fun _ => ?_) (fun _ => ?_)) <;> (conv => whnf)) | ((with_reducible refine mt_eq (fun _ => ?_) (fun _ => ?_)) <;> (conv => whnf)) | ((with_reducible refine mt_ne (fun _ => ?_) (fun _ => ?_)) <;> (conv => whnf)) | ((with_reducible refine mt_not (fun _ => ?_) (fun _ => ?_)) <;> (conv => whnf)) | ((with_reducible refine mt_any (fun _ => ?_) (fun _ => ?_)) <;> (conv => whnf)))
        ((with_reducible apply rd_intro); (focus (intro K hK; (conv => whnf); exact ⟨by omega, [.int .i64 x], nums_at hx, hK⟩)); (conv => whnf))
        repeat' (first | ((with_reducible apply rd_intro); (focus (intro K hK; (conv => whnf); first | exact hK | (intro z hz; rw [wrapI (by omega)] at hz; subst hz; exact hK))); (conv => whnf)) | ((with_reducible apply gd_and); (focus ((conv => whnf) <;> first | rfl | (intro K hK; (conv => whnf); first | exact hK | (intro z hz; rw [wrapI (by omega)] at hz; subst hz; exact hK)))); (conv => whnf)) | ((with_reducible apply z_wrap); (focus omega); (conv => whnf)) | ((with_reducible refine mt_dec (fun _ => ?_) (fun _ => ?_)) <;> (conv => whnf)) | ((with_reducible refine mt_eq (fun _ => ?_) (fun _ => ?_)) <;> (conv => whnf)) | ((with_reducible refine mt_ne (fun _ => ?_) (fun _ => ?_)) <;> (conv => whnf)) | ((with_reducible refine mt_not (fun _ => ?_) (fun _ => ?_)) <;> (conv => whnf)) | ((with_reducible refine mt_any (fun _ => ?_) (fun _ => ?_)) <;> (conv => whnf)))
        refine (rFind_ok d hd x).mono ?_
        rintro _ _ ⟨rfl, rfl⟩
        conv => whnf
        repeat' (first | ((with_reducible apply rd_intro); (focus (intro K hK; (conv => whnf); first | exact hK | (intro z hz; rw [wrapI (by omega)] at hz; subst hz; exact hK))); (conv => whnf)) | ((with_reducible apply gd_and); (focus ((conv => whnf) <;> first | rfl | (intro K hK; (conv => whnf); first | exact hK | (intro z hz; rw [wrapI (by omega)] at hz; subst hz; exact hK)))); (conv => whnf)) | ((with_reducible apply z_wrap); (focus omega); (conv => whnf)) | ((with_reducible refine mt_dec (fun _ => ?_) (fun _ => ?_)) <;> (conv => whnf)) | ((with_reducible refine mt_eq (fun _ => ?_) (fun _ => ?_)) <;> (conv => whnf)) | ((with_reducible refine mt_ne (fun _ => ?_) (fun _ => ?_)) <;> (conv => whnf)) | ((with_reducible refine mt_not (fun _ => ?_) (fun _ => ?_)) <;> (conv => whnf)) | ((with_reducible refine mt_any (fun _ => ?_) (fun _ => ?_)) <;> (conv => whnf)))
        have hsn : ∀ b, lackB d c.round x = b → (c.pars.take (j + 1)).filter (fun x => lackB d c.round x) = (c.pars.take j).filter (fun x => lackB d c.round x) ++ (if b then [x] else []) := by
          intro b hb
          rw [List.take_add_one, hx]
          simp only [Option.toList_some, List.filter_append, List.filter_cons, hb]
          cases b <;> rfl
        have hfl : ((c.pars.take j).filter (fun x => lackB d c.round x)).length ≤ j := by
          have h1 := List.length_filter_le (fun x => lackB d c.round x) (c.pars.take j)
          rw [List.length_take] at h1
          omega
        have hfn := nums_length ((c.pars.take j).filter (fun x => lackB d c.round x))
        cases hg : getC d.certs x with
        | none =>
          rw [show getI d.certs x = -1 by rw [getI, hg]; rfl]
          have hlb : lackB d c.round x = true := by rw [lackB, certOf, hg]; rfl
          conv => whnf
          repeat' (first | ((with_reducible apply rd_intro); (focus (intro K hK; (conv => whnf); first | exact hK | (intro z hz; rw [wrapI (by omega)] at hz; subst hz; exact hK))); (conv => whnf)) | ((with_reducible apply gd_and); (focus ((conv => whnf) <;> first | rfl | (intro K hK; (conv => whnf); first | exact hK | (intro z hz; rw [wrapI (by omega)] at hz; subst hz; exact hK)))); (conv => whnf)) | ((with_reducible apply z_wrap); (focus omega); (conv => whnf)) | ((with_reducible refine mt_dec (fun _ => ?_) (fun _ => ?_)) <;> (conv => whnf)) | ((with_reducible refine mt_eq (fun _ => ?_) (fun _ => ?_)) <;> (conv => whnf)) | ((with_reducible refine mt_ne (fun _ => ?_) (fun _ => ?_)) <;> (conv => whnf)) | ((with_reducible refine mt_not (fun _ => ?_) (fun _ => ?_)) <;> (conv => whnf)) | ((with_reducible refine mt_any (fun _ => ?_) (fun _ => ?_)) <;> (conv => whnf)))
          ((with_reducible refine draw_pl ttOk zOk foOk mixedOk pl34x8 ?_ ?_); (focus kernel_rfl); (conv => whnf))
          repeat' (first | ((with_reducible apply rd_intro); (focus (intro K hK; (conv => whnf); first | exact hK | (intro z hz; rw [wrapI (by omega)] at hz; subst hz; exact hK))); (conv => whnf)) | ((with_reducible apply gd_and); (focus ((conv => whnf) <;> first | rfl | (intro K hK; (conv => whnf); first | exact hK | (intro z hz; rw [wrapI (by omega)] at hz; subst hz; exact hK)))); (conv => whnf)) | ((with_reducible apply z_wrap); (focus omega); (conv => whnf)) | ((with_reducible refine mt_dec (fun _ => ?_) (fun _ => ?_)) <;> (conv => whnf)) | ((with_reducible refine mt_eq (fun _ => ?_) (fun _ => ?_)) <;> (conv => whnf)) | ((with_reducible refine mt_ne (fun _ => ?_) (fun _ => ?_)) <;> (conv => whnf)) | ((with_reducible refine mt_not (fun _ => ?_) (fun _ => ?_)) <;> (conv => whnf)) | ((with_reducible refine mt_any (fun _ => ?_) (fun _ => ?_)) <;> (conv => whnf)))
          refine ⟨by omega, [.int .i64 x], nums_at hx, ?_⟩
          conv => whnf
          repeat' (first | ((with_reducible apply rd_intro); (focus (intro K hK; (conv => whnf); first | exact hK | (intro z hz; rw [wrapI (by omega)] at hz; subst hz; exact hK))); (conv => whnf)) | ((with_reducible apply gd_and); (focus ((conv => whnf) <;> first | rfl | (intro K hK; (conv => whnf); first | exact hK | (intro z hz; rw [wrapI (by omega)] at hz; subst hz; exact hK)))); (conv => whnf)) | ((with_reducible apply z_wrap); (focus omega); (conv => whnf)) | ((with_reducible refine mt_dec (fun _ => ?_) (fun _ => ?_)) <;> (conv => whnf)) | ((with_reducible refine mt_eq (fun _ => ?_) (fun _ => ?_)) <;> (conv => whnf)) | ((with_reducible refine mt_ne (fun _ => ?_) (fun _ => ?_)) <;> (conv => whnf)) | ((with_reducible refine mt_not (fun _ => ?_) (fun _ => ?_)) <;> (conv => whnf)) | ((with_reducible refine mt_any (fun _ => ?_) (fun _ => ?_)) <;> (conv => whnf)))
          refine ⟨by simp [hfn]; omega, ?_⟩
          conv => whnf
          repeat' (first | ((with_reducible apply rd_intro); (focus (intro K hK; (conv => whnf); first | exact hK | (intro z hz; rw [wrapI (by omega)] at hz; subst hz; exact hK))); (conv => whnf)) | ((with_reducible apply gd_and); (focus ((conv => whnf) <;> first | rfl | (intro K hK; (conv => whnf); first | exact hK | (intro z hz; rw [wrapI (by omega)] at hz; subst hz; exact hK)))); (conv => whnf)) | ((with_reducible apply z_wrap); (focus omega); (conv => whnf)) | ((with_reducible refine mt_dec (fun _ => ?_) (fun _ => ?_)) <;> (conv => whnf)) | ((with_reducible refine mt_eq (fun _ => ?_) (fun _ => ?_)) <;> (conv => whnf)) | ((with_reducible refine mt_ne (fun _ => ?_) (fun _ => ?_)) <;> (conv => whnf)) | ((with_reducible refine mt_not (fun _ => ?_) (fun _ => ?_)) <;> (conv => whnf)) | ((with_reducible refine mt_any (fun _ => ?_) (fun _ => ?_)) <;> (conv => whnf)))
          refine ⟨j + 1, rfl, ?_, by omega, by omega⟩
          rw [hsn _ hlb, ← nums_apps]
          rfl
        | some k =>
          obtain ⟨c', hc', hd'⟩ := getC_some hg
          rw [show getI d.certs x = (k : Int) by rw [getI, hg]; rfl]
          have hlb : lackB d c.round x = decide (c'.round ≠ c.round - 1) := by rw [lackB, certOf, hg, Option.bind_some, hc']
          have hkl := (List.getElem?_eq_some_iff.1 hc').1
          conv => whnf
          repeat' (first | ((with_reducible apply rd_intro); (focus (intro K hK; (conv => whnf); first | exact hK | (intro z hz; rw [wrapI (by omega)] at hz; subst hz; exact hK))); (conv => whnf)) | ((with_reducible apply gd_and); (focus ((conv => whnf) <;> first | rfl | (intro K hK; (conv => whnf); first | exact hK | (intro z hz; rw [wrapI (by omega)] at hz; subst hz; exact hK)))); (conv => whnf)) | ((with_reducible apply z_wrap); (focus omega); (conv => whnf)) | ((with_reducible refine mt_dec (fun _ => ?_) (fun _ => ?_)) <;> (conv => whnf)) | ((with_reducible refine mt_eq (fun _ => ?_) (fun _ => ?_)) <;> (conv => whnf)) | ((with_reducible refine mt_ne (fun _ => ?_) (fun _ => ?_)) <;> (conv => whnf)) | ((with_reducible refine mt_not (fun _ => ?_) (fun _ => ?_)) <;> (conv => whnf)) | ((with_reducible refine mt_any (fun _ => ?_) (fun _ => ?_)) <;> (conv => whnf)))
          ((with_reducible refine draw_pl ttOk zOk foOk mixedOk pl34x8 ?_ ?_); (focus kernel_rfl); (conv => whnf))
          repeat' (first | ((with_reducible apply rd_intro); (focus (intro K hK; (conv => whnf); first | exact hK | (intro z hz; rw [wrapI (by omega)] at hz; subst hz; exact hK))); (conv => whnf)) | ((with_reducible apply gd_and); (focus ((conv => whnf) <;> first | rfl | (intro K hK; (conv => whnf); first | exact hK | (intro z hz; rw [wrapI (by omega)] at hz; subst hz; exact hK)))); (conv => whnf)) | ((with_reducible apply z_wrap); (focus omega); (conv => whnf)) | ((with_reducible refine mt_dec (fun _ => ?_) (fun _ => ?_)) <;> (conv => whnf)) | ((with_reducible refine mt_eq (fun _ => ?_) (fun _ => ?_)) <;> (conv => whnf)) | ((with_reducible refine mt_ne (fun _ => ?_) (fun _ => ?_)) <;> (conv => whnf)) | ((with_reducible refine mt_not (fun _ => ?_) (fun _ => ?_)) <;> (conv => whnf)) | ((with_reducible refine mt_any (fun _ => ?_) (fun _ => ?_)) <;> (conv => whnf)))
          ((with_reducible apply rd_intro); (focus (intro K hK; (conv => whnf); exact ⟨by omega, c'.cs, certsD_at hc', hK⟩)); (conv => whnf))
          repeat' (first | ((with_reducible apply rd_intro); (focus (intro K hK; (conv => whnf); first | exact hK | (intro z hz; rw [wrapI (by omega)] at hz; subst hz; exact hK))); (conv => whnf)) | ((with_reducible apply gd_and); (focus ((conv => whnf) <;> first | rfl | (intro K hK; (conv => whnf); first | exact hK | (intro z hz; rw [wrapI (by omega)] at hz; subst hz; exact hK)))); (conv => whnf)) | ((with_reducible apply z_wrap); (focus omega); (conv => whnf)) | ((with_reducible refine mt_dec (fun _ => ?_) (fun _ => ?_)) <;> (conv => whnf)) | ((with_reducible refine mt_eq (fun _ => ?_) (fun _ => ?_)) <;> (conv => whnf)) | ((with_reducible refine mt_ne (fun _ => ?_) (fun _ => ?_)) <;> (conv => whnf)) | ((with_reducible refine mt_not (fun _ => ?_) (fun _ => ?_)) <;> (conv => whnf)) | ((with_reducible refine mt_any (fun _ => ?_) (fun _ => ?_)) <;> (conv => whnf)))
          · rename_i h1
            rw [decide_eq_true (by omega)] at hlb
            refine ⟨by omega, [.int .i64 x], nums_at hx, ?_⟩
            conv => whnf
            repeat' (first | ((with_reducible apply rd_intro); (focus (intro K hK; (conv => whnf); first | exact hK | (intro z hz; rw [wrapI (by omega)] at hz; subst hz; exact hK))); (conv => whnf)) | ((with_reducible apply gd_and); (focus ((conv => whnf) <;> first | rfl | (intro K hK; (conv => whnf); first | exact hK | (intro z hz; rw [wrapI (by omega)] at hz; subst hz; exact hK)))); (conv => whnf)) | ((with_reducible apply z_wrap); (focus omega); (conv => whnf)) | ((with_reducible refine mt_dec (fun _ => ?_) (fun _ => ?_)) <;> (conv => whnf)) | ((with_reducible refine mt_eq (fun _ => ?_) (fun _ => ?_)) <;> (conv => whnf)) | ((with_reducible refine mt_ne (fun _ => ?_) (fun _ => ?_)) <;> (conv => whnf)) | ((with_reducible refine mt_not (fun _ => ?_) (fun _ => ?_)) <;> (conv => whnf)) | ((with_reducible refine mt_any (fun _ => ?_) (fun _ => ?_)) <;> (conv => whnf)))
            refine ⟨by simp [hfn]; omega, ?_⟩
            conv => whnf
            repeat' (first | ((with_reducible apply rd_intro); (focus (intro K hK; (conv => whnf); first | exact hK | (intro z hz; rw [wrapI (by omega)] at hz; subst hz; exact hK))); (conv => whnf)) | ((with_reducible apply gd_and); (focus ((conv => whnf) <;> first | rfl | (intro K hK; (conv => whnf); first | exact hK | (intro z hz; rw [wrapI (by omega)] at hz; subst hz; exact hK)))); (conv => whnf)) | ((with_reducible apply z_wrap); (focus omega); (conv => whnf)) | ((with_reducible refine mt_dec (fun _ => ?_) (fun _ => ?_)) <;> (conv => whnf)) | ((with_reducible refine mt_eq (fun _ => ?_) (fun _ => ?_)) <;> (conv => whnf)) | ((with_reducible refine mt_ne (fun _ => ?_) (fun _ => ?_)) <;> (conv => whnf)) | ((with_reducible refine mt_not (fun _ => ?_) (fun _ => ?_)) <;> (conv => whnf)) | ((with_reducible refine mt_any (fun _ => ?_) (fun _ => ?_)) <;> (conv => whnf)))
            refine ⟨j + 1, rfl, ?_, by omega, by omega⟩
            rw [hsn _ hlb, ← nums_apps]
            rfl
          · rename_i h1
            rw [decide_eq_false (by omega)] at hlb
            refine ⟨j + 1, rfl, ?_, by omega, by omega⟩
            rw [hsn _ hlb]; simp [Dag.cells, Cert.hcells]
      · rename_i hjl
        rw [List.take_of_length_le (by omega)]
        exact ⟨rfl, rfl⟩
end Go.Proofs.Ytoeppembokpjkaa

namespace Go.Proofs.Ytoeppembokpjkaa
open Go.Ab Go.RowKit Go.MapKept
attribute [local irreducible] ACalls AW ADraw Into fltB fnear
set_option maxRecDepth 100000
structure mayP (d : Dag) (j : Nat) : Prop where
  ok : ∀ c ∈ d.certs.take j, okCert d.nodes c ∧ d.low < c.round ∧ lacksI d c = []
  sorted : sortedC (d.certs.take j)
  dig : ((d.certs.take j).map (·.digest)).Nodup
theorem take_snoc {α : Type} {l : List α} {j : Nat} {c : α} (hc : l[j]? = some c) : l.take (j + 1) = l.take j ++ [c] := by rw [List.take_add_one, hc]; rfl
theorem mayP.next {d : Dag} {j : Nat} (h : mayP d j) {c : Cert} (hc : d.certs[j]? = some c) (h1 : okCert d.nodes c) (h2 : d.low < c.round) (h3 : lacksI d c = []) (h4 : ∀ c0, 0 < j → d.certs[j - 1]? = some c0 → c0.before c.round c.author = true) (h5 : ∀ x ∈ d.certs.take j, x.digest ≠ c.digest) : mayP d (j + 1) := by
  have e := take_snoc hc
  refine ⟨?_, ?_, ?_⟩
  · rw [e]
    intro y hy
    rcases List.mem_append.1 hy with hy | hy
    · exact h.ok y hy
    · simp at hy; rw [hy]; exact ⟨h1, h2, h3⟩
  · rw [e]
    refine List.pairwise_append.2 ⟨h.sorted, by simp, fun x hx y hy => ?_⟩
    simp at hy
    rw [hy]
    obtain ⟨i, hi, rfl⟩ := List.mem_take_iff_getElem.1 hx
    have hil : i < j := by omega
    have hjl := (List.getElem?_eq_some_iff.1 hc).1
    have hp : d.certs[j - 1]? = some d.certs[j - 1] := List.getElem?_eq_getElem (by omega)
    have hb := h4 _ (by omega) hp
    rcases Nat.lt_or_ge i (j - 1) with hlt | hge
    · have h6 := List.pairwise_iff_getElem.1 h.sorted i (j - 1) (by rw [List.length_take]; omega) (by rw [List.length_take]; omega) hlt
      rw [List.getElem_take, List.getElem_take] at h6
      have h7 := before_iff.1 h6
      have h8 := before_iff.1 hb
      exact before_iff.2 (by omega)
    · have : i = j - 1 := by omega
      subst this
      exact hb
  · rw [e, List.map_append, List.nodup_append]
    refine ⟨h.dig, by simp, fun a ha b hb => ?_⟩
    obtain ⟨x, hx, rfl⟩ := List.mem_map.1 ha
    simp at hb
    rw [hb]
    exact h5 x hx
theorem lacks_nil {d : Dag} {c : Cert} (h : lacksI d c = []) (hr : c.round > d.low + 1) : ∀ x ∈ c.pars, ∃ c' ∈ d.certs, c'.digest = x ∧ c'.round = c.round - 1 := by
  intro x hx
  rw [lacksI, if_neg (by omega), List.filter_eq_nil_iff] at h
  have := h x hx
  unfold lackB at this
  cases hc : certOf d x with
  | none => rw [hc] at this; simp at this
  | some c' =>
    rw [hc] at this
    simp at this
    obtain ⟨h1, h2, _⟩ := certOf_some hc
    exact ⟨c', h1, h2, this⟩
theorem mayP.valid {d : Dag} (h : mayP d d.certs.length) (h1 : isN d.nodes = true) (h2 : 0 ≤ d.low ∧ d.low ≤ 1099511627776) (h3 : d.certs.length ≤ 65536) : Valid d := by
  obtain ⟨a, b, c⟩ := h
  rw [List.take_length] at a b c
  exact ⟨h1, h2, h3, fun c hc => (a c hc).1, fun c hc => (a c hc).2.1, b, c, fun c hc hr => lacks_nil (a c hc).2.2 hr⟩
theorem ok_fewL {c : Cert} (h : c.ok) : fewL c := ⟨h.bats.1, h.pars.1, h.sigs.1⟩
set_option maxHeartbeats 2000000 in
theorem rMayDag_ok (d : Dag) (h : d.ok) : ACalls Try.prog 11 [d.av] [] (fun av L => (∃ b, av = .d (.bool b) ∧ (b = true → Valid d)) ∧ L = []) := by
  have hcl := certsD_length d.certs
  have hfd := h.certs.1
  refine acalls_go ttOk zOk foOk Try.func11 rfl Try.ntmps11 rfl false rfl ?_
  conv => whnf
  refine (rMay_ok d.nodes).mono ?_
  rintro _ _ ⟨rfl, rfl⟩
  cases hn : isN d.nodes with
  | false =>
    conv => whnf
    exact ⟨⟨_, rfl, by intro h; cases h⟩, rfl⟩
  | true =>
    have hnn := of_decide_eq_true hn
    conv => whnf

    repeat' (first | ((with_reducible apply rd_intro); (focus (intro K hK; (conv => whnf); first | exact hK | (intro z hz; rw [wrapI (by omega)] at hz; subst hz; exact hK))); (conv => whnf)) | ((with_reducible apply gd_and); (focus ((conv => whnf) <;> first | rfl | (intro K hK; (conv => whnf); first | exact hK | (intro z hz; rw [wrapI (by omega)] at hz; subst hz; exact hK)))); (conv => whnf)) | ((with_reducible apply z_wrap); (focus omega); (conv => whnf)) | ((with_reducible refine mt_dec (fun _ => ?_) (fun _ => ?_)) <;> (conv => whnf)) | ((with_reducible refine mt_eq (fun _ => ?_) (fun _ => ?_)) <;> (conv => whnf)) | ((with_reducible refine mt_ne (fun _ => ?_) (fun _ => ?_)) <;> (conv => whnf)) | ((with_reducible refine mt_not (fun _ => ?_) (fun _ => ?_)) <;> (conv => whnf)) | ((with_reducible refine mt_any (fun _ => ?_) (fun _ => ?_)) <;> (conv => whnf)))
    · exact ⟨⟨_, rfl, by intro h; cases h⟩, rfl⟩
    · exact ⟨⟨_, rfl, by intro h; cases h⟩, rfl⟩
    · exact ⟨⟨_, rfl, by intro h; cases h⟩, rfl⟩
    · rename_i hl1 hl2 hl3
      refine loop_go ttOk zOk foOk (σ := Nat) (fun j => ([(1, .ptr 0 0), (3, .d (.int .i64 j))], [.cells d.cells])) (fun j => j ≤ d.certs.length ∧ mayP d j) (fun j => d.certs.length - j) [1, 3] ?_ ?_
      · conv => whnf
        exact ⟨0, rfl, rfl, Nat.zero_le _, by simp, by simp [sortedC], by simp⟩
      · rintro j ⟨hj, hinv⟩
        conv => whnf

        repeat' (first | ((with_reducible apply rd_intro); (focus (intro K hK; (conv => whnf); first | exact hK | (intro z hz; rw [wrapI (by omega)] at hz; subst hz; exact hK))); (conv => whnf)) | ((with_reducible apply gd_and); (focus ((conv => whnf) <;> first | rfl | (intro K hK; (conv => whnf); first | exact hK | (intro z hz; rw [wrapI (by omega)] at hz; subst hz; exact hK)))); (conv => whnf)) | ((with_reducible apply z_wrap); (focus omega); (conv => whnf)) | ((with_reducible refine mt_dec (fun _ => ?_) (fun _ => ?_)) <;> (conv => whnf)) | ((with_reducible refine mt_eq (fun _ => ?_) (fun _ => ?_)) <;> (conv => whnf)) | ((with_reducible refine mt_ne (fun _ => ?_) (fun _ => ?_)) <;> (conv => whnf)) | ((with_reducible refine mt_not (fun _ => ?_) (fun _ => ?_)) <;> (conv => whnf)) | ((with_reducible refine mt_any (fun _ => ?_) (fun _ => ?_)) <;> (conv => whnf)))
        · rename_i hjl
          have hjn : j < d.certs.length := by omega
          refine Exists.elim (⟨_, List.getElem?_eq_getElem hjn⟩ : ∃ c, d.certs[j]? = some c) fun c hc => ?_
          have hcm := List.mem_of_getElem? hc
          refine ⟨by omega, c.cs, certsD_at hc, ?_⟩
          conv => whnf
          repeat' (first | ((with_reducible apply rd_intro); (focus (intro K hK; (conv => whnf); first | exact hK | (intro z hz; rw [wrapI (by omega)] at hz; subst hz; exact hK))); (conv => whnf)) | ((with_reducible apply gd_and); (focus ((conv => whnf) <;> first | rfl | (intro K hK; (conv => whnf); first | exact hK | (intro z hz; rw [wrapI (by omega)] at hz; subst hz; exact hK)))); (conv => whnf)) | ((with_reducible apply z_wrap); (focus omega); (conv => whnf)) | ((with_reducible refine mt_dec (fun _ => ?_) (fun _ => ?_)) <;> (conv => whnf)) | ((with_reducible refine mt_eq (fun _ => ?_) (fun _ => ?_)) <;> (conv => whnf)) | ((with_reducible refine mt_ne (fun _ => ?_) (fun _ => ?_)) <;> (conv => whnf)) | ((with_reducible refine mt_not (fun _ => ?_) (fun _ => ?_)) <;> (conv => whnf)) | ((with_reducible refine mt_any (fun _ => ?_) (fun _ => ?_)) <;> (conv => whnf)))
          refine (rCert_ok c (ok_fewL (h.certs.2 c hcm)) d.nodes).mono ?_
          rintro _ _ ⟨rfl, rfl⟩
          by_cases hcok : okCert d.nodes c
          · rw [@decide_eq_true _ (Classical.propDecidable _) hcok]
            conv => whnf
            repeat' (first | ((with_reducible apply rd_intro); (focus (intro K hK; (conv => whnf); first | exact hK | (intro z hz; rw [wrapI (by omega)] at hz; subst hz; exact hK))); (conv => whnf)) | ((with_reducible apply gd_and); (focus ((conv => whnf) <;> first | rfl | (intro K hK; (conv => whnf); first | exact hK | (intro z hz; rw [wrapI (by omega)] at hz; subst hz; exact hK)))); (conv => whnf)) | ((with_reducible apply z_wrap); (focus omega); (conv => whnf)) | ((with_reducible refine mt_dec (fun _ => ?_) (fun _ => ?_)) <;> (conv => whnf)) | ((with_reducible refine mt_eq (fun _ => ?_) (fun _ => ?_)) <;> (conv => whnf)) | ((with_reducible refine mt_ne (fun _ => ?_) (fun _ => ?_)) <;> (conv => whnf)) | ((with_reducible refine mt_not (fun _ => ?_) (fun _ => ?_)) <;> (conv => whnf)) | ((with_reducible refine mt_any (fun _ => ?_) (fun _ => ?_)) <;> (conv => whnf)))
            · exact ⟨⟨_, rfl, by intro h; cases h⟩, rfl⟩
            · rename_i hlow hj0
              replace hlow : d.low < c.round := by omega
              have hj0' : 0 < j := by omega
              refine Exists.elim (⟨_, List.getElem?_eq_getElem (show j - 1 < d.certs.length by omega)⟩ : ∃ c, d.certs[j - 1]? = some c) fun c0 hc0 => ?_
              refine ⟨by omega, c0.cs, (by rw [show ((j : Int) - 1).toNat = j - 1 by omega]; exact certsD_at hc0), ?_⟩
              conv => whnf
              repeat' (first | ((with_reducible apply rd_intro); (focus (intro K hK; (conv => whnf); first | exact hK | (intro z hz; rw [wrapI (by omega)] at hz; subst hz; exact hK))); (conv => whnf)) | ((with_reducible apply gd_and); (focus ((conv => whnf) <;> first | rfl | (intro K hK; (conv => whnf); first | exact hK | (intro z hz; rw [wrapI (by omega)] at hz; subst hz; exact hK)))); (conv => whnf)) | ((with_reducible apply z_wrap); (focus omega); (conv => whnf)) | ((with_reducible refine mt_dec (fun _ => ?_) (fun _ => ?_)) <;> (conv => whnf)) | ((with_reducible refine mt_eq (fun _ => ?_) (fun _ => ?_)) <;> (conv => whnf)) | ((with_reducible refine mt_ne (fun _ => ?_) (fun _ => ?_)) <;> (conv => whnf)) | ((with_reducible refine mt_not (fun _ => ?_) (fun _ => ?_)) <;> (conv => whnf)) | ((with_reducible refine mt_any (fun _ => ?_) (fun _ => ?_)) <;> (conv => whnf)))
              refine (rBefore_ok c0.round c0.author c.round c.author).mono ?_
              rintro _ _ ⟨rfl, rfl⟩
              by_cases hb : c0.before c.round c.author = true
              · rw [show decide (c0.round < c.round ∨ c0.round = c.round ∧ c0.author < c.author) = true from hb]
                have h4 : ∀ c0, 0 < j → d.certs[j - 1]? = some c0 → c0.before c.round c.author = true := by
                  intro c1 _ hc1
                  rw [hc0] at hc1; cases hc1; exact hb
                conv => whnf
                refine loop_go ttOk zOk foOk (σ := Nat) (fun k => ([(1, .ptr 0 0), (3, .d (.int .i64 j)), (4, .ptr 1 0), (6, .d (.int .i64 k))], [.cells d.cells, .cells c.cells])) (fun k => k ≤ j ∧ ∀ x ∈ d.certs.take k, x.digest ≠ c.digest) (fun k => j - k) [1, 3, 4, 6] ?_ ?_
                · conv => whnf
                  exact ⟨0, rfl, rfl, by omega, by simp⟩
                · rintro k ⟨hkj, hkd⟩
                  conv => whnf
                  repeat' (first | ((with_reducible apply rd_intro); (focus (intro K hK; (conv => whnf); first | exact hK | (intro z hz; rw [wrapI (by omega)] at hz; subst hz; exact hK))); (conv => whnf)) | ((with_reducible apply gd_and); (focus ((conv => whnf) <;> first | rfl | (intro K hK; (conv => whnf); first | exact hK | (intro z hz; rw [wrapI (by omega)] at hz; subst hz; exact hK)))); (conv => whnf)) | ((with_reducible apply z_wrap); (focus omega); (conv => whnf)) | ((with_reducible refine mt_dec (fun _ => ?_) (fun _ => ?_)) <;> (conv => whnf)) | ((with_reducible refine mt_eq (fun _ => ?_) (fun _ => ?_)) <;> (conv => whnf)) | ((with_reducible refine mt_ne (fun _ => ?_) (fun _ => ?_)) <;> (conv => whnf)) | ((with_reducible refine mt_not (fun _ => ?_) (fun _ => ?_)) <;> (conv => whnf)) | ((with_reducible refine mt_any (fun _ => ?_) (fun _ => ?_)) <;> (conv => whnf)))
                  · rename_i hkl
                    have hkn : k < j := Int.ofNat_lt.1 hkl
                    refine Exists.elim (⟨_, List.getElem?_eq_getElem (by omega)⟩ : ∃ c, d.certs[k]? = some c) fun c1 hc1 => ?_
                    ((with_reducible refine draw_pl ttOk zOk foOk mixedOk pl11x16 ?_ ?_); (focus kernel_rfl); (conv => whnf))
                    repeat' (first | ((with_reducible apply rd_intro); (focus (intro K hK; (conv => whnf); first | exact hK | (intro z hz; rw [wrapI (by omega)] at hz; subst hz; exact hK))); (conv => whnf)) | ((with_reducible apply gd_and); (focus ((conv => whnf) <;> first | rfl | (intro K hK; (conv => whnf); first | exact hK | (intro z hz; rw [wrapI (by omega)] at hz; subst hz; exact hK)))); (conv => whnf)) | ((with_reducible apply z_wrap); (focus omega); (conv => whnf)) | ((with_reducible refine mt_dec (fun _ => ?_) (fun _ => ?_)) <;> (conv => whnf)) | ((with_reducible refine mt_eq (fun _ => ?_) (fun _ => ?_)) <;> (conv => whnf)) | ((with_reducible refine mt_ne (fun _ => ?_) (fun _ => ?_)) <;> (conv => whnf)) | ((with_reducible refine mt_not (fun _ => ?_) (fun _ => ?_)) <;> (conv => whnf)) | ((with_reducible refine mt_any (fun _ => ?_) (fun _ => ?_)) <;> (conv => whnf)))
                    ((with_reducible apply rd_intro); (focus (intro K hK; (conv => whnf); exact ⟨by omega, c1.cs, certsD_at hc1, hK⟩)); (conv => whnf))
                    repeat' (first | ((with_reducible apply rd_intro); (focus (intro K hK; (conv => whnf); first | exact hK | (intro z hz; rw [wrapI (by omega)] at hz; subst hz; exact hK))); (conv => whnf)) | ((with_reducible apply gd_and); (focus ((conv => whnf) <;> first | rfl | (intro K hK; (conv => whnf); first | exact hK | (intro z hz; rw [wrapI (by omega)] at hz; subst hz; exact hK)))); (conv => whnf)) | ((with_reducible apply z_wrap); (focus omega); (conv => whnf)) | ((with_reducible refine mt_dec (fun _ => ?_) (fun _ => ?_)) <;> (conv => whnf)) | ((with_reducible refine mt_eq (fun _ => ?_) (fun _ => ?_)) <;> (conv => whnf)) | ((with_reducible refine mt_ne (fun _ => ?_) (fun _ => ?_)) <;> (conv => whnf)) | ((with_reducible refine mt_not (fun _ => ?_) (fun _ => ?_)) <;> (conv => whnf)) | ((with_reducible refine mt_any (fun _ => ?_) (fun _ => ?_)) <;> (conv => whnf)))
                    · exact ⟨⟨_, rfl, by intro h; cases h⟩, rfl⟩
                    · rename_i hne
                      refine ⟨k + 1, rfl, rfl, ⟨by omega, fun y hy => ?_⟩, by omega⟩
                      rw [take_snoc hc1] at hy
                      rcases List.mem_append.1 hy with hy | hy
                      · exact hkd y hy
                      · simp at hy; rw [hy]; exact hne
                  · rename_i hkl
                    have hkj : k = j := by omega
                    subst hkj
                    refine (rLacks_ok d hfd c (by have := hcok.head.pars.1; omega) hcok.head.round).mono ?_
                    rintro _ _ ⟨rfl, rfl⟩
                    have hll := nums_length (lacksI d c)
                    conv => whnf
                    rw [hll]
                    repeat' (first | ((with_reducible apply rd_intro); (focus (intro K hK; (conv => whnf); first | exact hK | (intro z hz; rw [wrapI (by omega)] at hz; subst hz; exact hK))); (conv => whnf)) | ((with_reducible apply gd_and); (focus ((conv => whnf) <;> first | rfl | (intro K hK; (conv => whnf); first | exact hK | (intro z hz; rw [wrapI (by omega)] at hz; subst hz; exact hK)))); (conv => whnf)) | ((with_reducible apply z_wrap); (focus omega); (conv => whnf)) | ((with_reducible refine mt_dec (fun _ => ?_) (fun _ => ?_)) <;> (conv => whnf)) | ((with_reducible refine mt_eq (fun _ => ?_) (fun _ => ?_)) <;> (conv => whnf)) | ((with_reducible refine mt_ne (fun _ => ?_) (fun _ => ?_)) <;> (conv => whnf)) | ((with_reducible refine mt_not (fun _ => ?_) (fun _ => ?_)) <;> (conv => whnf)) | ((with_reducible refine mt_any (fun _ => ?_) (fun _ => ?_)) <;> (conv => whnf)))
                    · exact ⟨⟨_, rfl, by intro h; cases h⟩, rfl⟩
                    · rename_i hl0
                      exact ⟨k + 1, rfl, rfl, ⟨by omega, hinv.next hc hcok hlow (List.length_eq_zero_iff.1 (by omega)) h4 hkd⟩, by omega⟩
              · rw [show decide (c0.round < c.round ∨ c0.round = c.round ∧ c0.author < c.author) = false from by simpa [Cert.before] using hb]
                conv => whnf
                exact ⟨⟨_, rfl, by intro h; cases h⟩, rfl⟩
            · rename_i hlow hj0
              replace hlow : d.low < c.round := by omega
              have h4 : ∀ c0, 0 < j → d.certs[j - 1]? = some c0 → c0.before c.round c.author = true := by
                intro c1 h _
                omega
              refine loop_go ttOk zOk foOk (σ := Nat) (fun k => ([(1, .ptr 0 0), (3, .d (.int .i64 j)), (4, .ptr 1 0), (6, .d (.int .i64 k))], [.cells d.cells, .cells c.cells])) (fun k => k ≤ j ∧ ∀ x ∈ d.certs.take k, x.digest ≠ c.digest) (fun k => j - k) [1, 3, 4, 6] ?_ ?_
              · conv => whnf
                exact ⟨0, rfl, rfl, by omega, by simp⟩
              · rintro k ⟨hkj, hkd⟩
                conv => whnf
                repeat' (first | ((with_reducible apply rd_intro); (focus (intro K hK; (conv => whnf); first | exact hK | (intro z hz; rw [wrapI (by omega)] at hz; subst hz; exact hK))); (conv => whnf)) | ((with_reducible apply gd_and); (focus ((conv => whnf) <;> first | rfl | (intro K hK; (conv => whnf); first | exact hK | (intro z hz; rw [wrapI (by omega)] at hz; subst hz; exact hK)))); (conv => whnf)) | ((with_reducible apply z_wrap); (focus omega); (conv => whnf)) | ((with_reducible refine mt_dec (fun _ => ?_) (fun _ => ?_)) <;> (conv => whnf)) | ((with_reducible refine mt_eq (fun _ => ?_) (fun _ => ?_)) <;> (conv => whnf)) | ((with_reducible refine mt_ne (fun _ => ?_) (fun _ => ?_)) <;> (conv => whnf)) | ((with_reducible refine mt_not (fun _ => ?_) (fun _ => ?_)) <;> (conv => whnf)) | ((with_reducible refine mt_any (fun _ => ?_) (fun _ => ?_)) <;> (conv => whnf)))
                · rename_i hkl
                  have hkn : k < j := Int.ofNat_lt.1 hkl
                  refine Exists.elim (⟨_, List.getElem?_eq_getElem (by omega)⟩ : ∃ c, d.certs[k]? = some c) fun c1 hc1 => ?_
                  ((with_reducible refine draw_pl ttOk zOk foOk mixedOk pl11x16 ?_ ?_); (focus kernel_rfl); (conv => whnf))
                  repeat' (first | ((with_reducible apply rd_intro); (focus (intro K hK; (conv => whnf); first | exact hK | (intro z hz; rw [wrapI (by omega)] at hz; subst hz; exact hK))); (conv => whnf)) | ((with_reducible apply gd_and); (focus ((conv => whnf) <;> first | rfl | (intro K hK; (conv => whnf); first | exact hK | (intro z hz; rw [wrapI (by omega)] at hz; subst hz; exact hK)))); (conv => whnf)) | ((with_reducible apply z_wrap); (focus omega); (conv => whnf)) | ((with_reducible refine mt_dec (fun _ => ?_) (fun _ => ?_)) <;> (conv => whnf)) | ((with_reducible refine mt_eq (fun _ => ?_) (fun _ => ?_)) <;> (conv => whnf)) | ((with_reducible refine mt_ne (fun _ => ?_) (fun _ => ?_)) <;> (conv => whnf)) | ((with_reducible refine mt_not (fun _ => ?_) (fun _ => ?_)) <;> (conv => whnf)) | ((with_reducible refine mt_any (fun _ => ?_) (fun _ => ?_)) <;> (conv => whnf)))
                  ((with_reducible apply rd_intro); (focus (intro K hK; (conv => whnf); exact ⟨by omega, c1.cs, certsD_at hc1, hK⟩)); (conv => whnf))
                  repeat' (first | ((with_reducible apply rd_intro); (focus (intro K hK; (conv => whnf); first | exact hK | (intro z hz; rw [wrapI (by omega)] at hz; subst hz; exact hK))); (conv => whnf)) | ((with_reducible apply gd_and); (focus ((conv => whnf) <;> first | rfl | (intro K hK; (conv => whnf); first | exact hK | (intro z hz; rw [wrapI (by omega)] at hz; subst hz; exact hK)))); (conv => whnf)) | ((with_reducible apply z_wrap); (focus omega); (conv => whnf)) | ((with_reducible refine mt_dec (fun _ => ?_) (fun _ => ?_)) <;> (conv => whnf)) | ((with_reducible refine mt_eq (fun _ => ?_) (fun _ => ?_)) <;> (conv => whnf)) | ((with_reducible refine mt_ne (fun _ => ?_) (fun _ => ?_)) <;> (conv => whnf)) | ((with_reducible refine mt_not (fun _ => ?_) (fun _ => ?_)) <;> (conv => whnf)) | ((with_reducible refine mt_any (fun _ => ?_) (fun _ => ?_)) <;> (conv => whnf)))
                  · exact ⟨⟨_, rfl, by intro h; cases h⟩, rfl⟩
                  · rename_i hne
                    refine ⟨k + 1, rfl, rfl, ⟨by omega, fun y hy => ?_⟩, by omega⟩
                    rw [take_snoc hc1] at hy
                    rcases List.mem_append.1 hy with hy | hy
                    · exact hkd y hy
                    · simp at hy; rw [hy]; exact hne
                · rename_i hkl
                  have hkj : k = j := by omega
                  subst hkj
                  refine (rLacks_ok d hfd c (by have := hcok.head.pars.1; omega) hcok.head.round).mono ?_
                  rintro _ _ ⟨rfl, rfl⟩
                  have hll := nums_length (lacksI d c)
                  conv => whnf
                  rw [hll]
                  repeat' (first | ((with_reducible apply rd_intro); (focus (intro K hK; (conv => whnf); first | exact hK | (intro z hz; rw [wrapI (by omega)] at hz; subst hz; exact hK))); (conv => whnf)) | ((with_reducible apply gd_and); (focus ((conv => whnf) <;> first | rfl | (intro K hK; (conv => whnf); first | exact hK | (intro z hz; rw [wrapI (by omega)] at hz; subst hz; exact hK)))); (conv => whnf)) | ((with_reducible apply z_wrap); (focus omega); (conv => whnf)) | ((with_reducible refine mt_dec (fun _ => ?_) (fun _ => ?_)) <;> (conv => whnf)) | ((with_reducible refine mt_eq (fun _ => ?_) (fun _ => ?_)) <;> (conv => whnf)) | ((with_reducible refine mt_ne (fun _ => ?_) (fun _ => ?_)) <;> (conv => whnf)) | ((with_reducible refine mt_not (fun _ => ?_) (fun _ => ?_)) <;> (conv => whnf)) | ((with_reducible refine mt_any (fun _ => ?_) (fun _ => ?_)) <;> (conv => whnf)))
                  · exact ⟨⟨_, rfl, by intro h; cases h⟩, rfl⟩
                  · rename_i hl0
                    exact ⟨k + 1, rfl, rfl, ⟨by omega, hinv.next hc hcok hlow (List.length_eq_zero_iff.1 (by omega)) h4 hkd⟩, by omega⟩
          · rw [@decide_eq_false _ (Classical.propDecidable _) hcok]
            conv => whnf
            exact ⟨⟨_, rfl, by intro h; cases h⟩, rfl⟩
        · rename_i hjl
          have : j = d.certs.length := by omega
          subst this
          exact ⟨⟨_, rfl, fun _ => hinv.valid hn ⟨by omega, by omega⟩ (by omega)⟩, rfl⟩
end Go.Proofs.Ytoeppembokpjkaa

namespace Go.Proofs.Ytoeppembokpjkaa
open Go.Ab Go.RowKit Go.MapKept
attribute [local irreducible] ACalls AW ADraw Into fltB fnear
set_option maxRecDepth 100000
theorem headW_ok (c : Cert) (h : c.ok) : ACalls Try.prog 90 [c.hav] [] (fun av L => av = .d (.int .i64 (1 + c.bats.length + c.pars.length)) ∧ L = []) := by
  have h1 := h.bats.1
  have h2 := h.pars.1
  unfold few at h1 h2
  have e1 := nums_length c.bats
  have e2 := nums_length c.pars
  refine acalls_go ttOk zOk foOk Try.func90 rfl Try.ntmps90 rfl false rfl ?_
  conv => whnf
  rw [e1]
  repeat' (first | ((with_reducible apply rd_intro); (focus (intro K hK; (conv => whnf); first | exact hK | (intro z hz; rw [wrapI (by omega)] at hz; subst hz; exact hK))); (conv => whnf)) | ((with_reducible apply gd_and); (focus ((conv => whnf) <;> first | rfl | (intro K hK; (conv => whnf); first | exact hK | (intro z hz; rw [wrapI (by omega)] at hz; subst hz; exact hK)))); (conv => whnf)) | ((with_reducible apply z_wrap); (focus omega); (conv => whnf)) | ((with_reducible refine mt_dec (fun _ => ?_) (fun _ => ?_)) <;> (conv => whnf)) | ((with_reducible refine mt_eq (fun _ => ?_) (fun _ => ?_)) <;> (conv => whnf)) | ((with_reducible refine mt_ne (fun _ => ?_) (fun _ => ?_)) <;> (conv => whnf)) | ((with_reducible refine mt_not (fun _ => ?_) (fun _ => ?_)) <;> (conv => whnf)) | ((with_reducible refine mt_any (fun _ => ?_) (fun _ => ?_)) <;> (conv => whnf)))
  rw [e2]
  repeat' (first | ((with_reducible apply rd_intro); (focus (intro K hK; (conv => whnf); first | exact hK | (intro z hz; rw [wrapI (by omega)] at hz; subst hz; exact hK))); (conv => whnf)) | ((with_reducible apply gd_and); (focus ((conv => whnf) <;> first | rfl | (intro K hK; (conv => whnf); first | exact hK | (intro z hz; rw [wrapI (by omega)] at hz; subst hz; exact hK)))); (conv => whnf)) | ((with_reducible apply z_wrap); (focus omega); (conv => whnf)) | ((with_reducible refine mt_dec (fun _ => ?_) (fun _ => ?_)) <;> (conv => whnf)) | ((with_reducible refine mt_eq (fun _ => ?_) (fun _ => ?_)) <;> (conv => whnf)) | ((with_reducible refine mt_ne (fun _ => ?_) (fun _ => ?_)) <;> (conv => whnf)) | ((with_reducible refine mt_not (fun _ => ?_) (fun _ => ?_)) <;> (conv => whnf)) | ((with_reducible refine mt_any (fun _ => ?_) (fun _ => ?_)) <;> (conv => whnf)))
  exact ⟨rfl, rfl⟩
theorem certW_ok (c : Cert) (h : c.ok) : ACalls Try.prog 76 [c.av] [] (fun av L => av = .d (.int .i64 (1 + c.bats.length + c.pars.length + c.sigs.length)) ∧ L = []) := by
  have h1 := h.bats.1
  have h2 := h.pars.1
  have h3 := h.sigs.1
  unfold few at h1 h2 h3
  have e3 := nums_length c.sigs
  refine acalls_go ttOk zOk foOk Try.func76 rfl Try.ntmps76 rfl false rfl ?_
  conv => whnf
  ((with_reducible refine draw_pl ttOk zOk foOk mixedOk pl76x1 ?_ ?_); (focus kernel_rfl); (conv => whnf))
  repeat' (first | ((with_reducible apply rd_intro); (focus (intro K hK; (conv => whnf); first | exact hK | (intro z hz; rw [wrapI (by omega)] at hz; subst hz; exact hK))); (conv => whnf)) | ((with_reducible apply gd_and); (focus ((conv => whnf) <;> first | rfl | (intro K hK; (conv => whnf); first | exact hK | (intro z hz; rw [wrapI (by omega)] at hz; subst hz; exact hK)))); (conv => whnf)) | ((with_reducible apply z_wrap); (focus omega); (conv => whnf)) | ((with_reducible refine mt_dec (fun _ => ?_) (fun _ => ?_)) <;> (conv => whnf)) | ((with_reducible refine mt_eq (fun _ => ?_) (fun _ => ?_)) <;> (conv => whnf)) | ((with_reducible refine mt_ne (fun _ => ?_) (fun _ => ?_)) <;> (conv => whnf)) | ((with_reducible refine mt_not (fun _ => ?_) (fun _ => ?_)) <;> (conv => whnf)) | ((with_reducible refine mt_any (fun _ => ?_) (fun _ => ?_)) <;> (conv => whnf)))
  refine (headW_ok c h).mono ?_
  rintro _ _ ⟨rfl, rfl⟩
  conv => whnf
  repeat' (first | ((with_reducible apply rd_intro); (focus (intro K hK; (conv => whnf); first | exact hK | (intro z hz; rw [wrapI (by omega)] at hz; subst hz; exact hK))); (conv => whnf)) | ((with_reducible apply gd_and); (focus ((conv => whnf) <;> first | rfl | (intro K hK; (conv => whnf); first | exact hK | (intro z hz; rw [wrapI (by omega)] at hz; subst hz; exact hK)))); (conv => whnf)) | ((with_reducible apply z_wrap); (focus omega); (conv => whnf)) | ((with_reducible refine mt_dec (fun _ => ?_) (fun _ => ?_)) <;> (conv => whnf)) | ((with_reducible refine mt_eq (fun _ => ?_) (fun _ => ?_)) <;> (conv => whnf)) | ((with_reducible refine mt_ne (fun _ => ?_) (fun _ => ?_)) <;> (conv => whnf)) | ((with_reducible refine mt_not (fun _ => ?_) (fun _ => ?_)) <;> (conv => whnf)) | ((with_reducible refine mt_any (fun _ => ?_) (fun _ => ?_)) <;> (conv => whnf)))
  rw [e3]
  repeat' (first | ((with_reducible apply rd_intro); (focus (intro K hK; (conv => whnf); first | exact hK | (intro z hz; rw [wrapI (by omega)] at hz; subst hz; exact hK))); (conv => whnf)) | ((with_reducible apply gd_and); (focus ((conv => whnf) <;> first | rfl | (intro K hK; (conv => whnf); first | exact hK | (intro z hz; rw [wrapI (by omega)] at hz; subst hz; exact hK)))); (conv => whnf)) | ((with_reducible apply z_wrap); (focus omega); (conv => whnf)) | ((with_reducible refine mt_dec (fun _ => ?_) (fun _ => ?_)) <;> (conv => whnf)) | ((with_reducible refine mt_eq (fun _ => ?_) (fun _ => ?_)) <;> (conv => whnf)) | ((with_reducible refine mt_ne (fun _ => ?_) (fun _ => ?_)) <;> (conv => whnf)) | ((with_reducible refine mt_not (fun _ => ?_) (fun _ => ?_)) <;> (conv => whnf)) | ((with_reducible refine mt_any (fun _ => ?_) (fun _ => ?_)) <;> (conv => whnf)))
  exact ⟨rfl, rfl⟩
theorem certsW_ok (l : List Cert) (hl : few l) (h : ∀ c ∈ l, c.ok) : ACalls Try.prog 49 [.d (.sl 6 (certsD l))] [] (fun av L => (∃ n : Int, av = .d (.int .i64 n)) ∧ L = []) := by
  have hcl := certsD_length l
  unfold few at hl
  refine acalls_go ttOk zOk foOk Try.func49 rfl Try.ntmps49 rfl false rfl ?_
  conv => whnf
  refine loop_go2 ttOk zOk foOk (σ := Int) (ρ := Nat) (fun w j => ([(0, .d (.sl 6 (certsD l))), (3, .d (.int .i64 w)), (4, .d (.int .i64 j))], [])) (fun w j => j ≤ l.length ∧ 0 ≤ w ∧ w ≤ 1000000000000000) (fun _ j => l.length - j) [0, 3, 4] ?_ ?_
  · conv => whnf
    exact ⟨l.length, 0, by rw [hcl]; rfl, rfl, by omega, by omega, by omega⟩
  · rintro w j ⟨hj, hw0, hw1⟩
    conv => whnf
    rw [hcl]
    repeat' (first | ((with_reducible apply rd_intro); (focus (intro K hK; (conv => whnf); first | exact hK | (intro z hz; rw [wrapI (by omega)] at hz; subst hz; exact hK))); (conv => whnf)) | ((with_reducible apply gd_and); (focus ((conv => whnf) <;> first | rfl | (intro K hK; (conv => whnf); first | exact hK | (intro z hz; rw [wrapI (by omega)] at hz; subst hz; exact hK)))); (conv => whnf)) | ((with_reducible apply z_wrap); (focus omega); (conv => whnf)) | ((with_reducible refine mt_dec (fun _ => ?_) (fun _ => ?_)) <;> (conv => whnf)) | ((with_reducible refine mt_eq (fun _ => ?_) (fun _ => ?_)) <;> (conv => whnf)) | ((with_reducible refine mt_ne (fun _ => ?_) (fun _ => ?_)) <;> (conv => whnf)) | ((with_reducible refine mt_not (fun _ => ?_) (fun _ => ?_)) <;> (conv => whnf)) | ((with_reducible refine mt_any (fun _ => ?_) (fun _ => ?_)) <;> (conv => whnf)))
    · rename_i hjl hwl
      refine Exists.elim (⟨_, List.getElem?_eq_getElem (by omega)⟩ : ∃ c, l[j]? = some c) fun c hc => ?_
      have hk := h c (List.mem_of_getElem? hc)
      have h1 := hk.bats.1
      have h2 := hk.pars.1
      have h3 := hk.sigs.1
      unfold few at h1 h2 h3
      refine ⟨by omega, c.cs, certsD_at hc, ?_⟩
      conv => whnf
      refine (certW_ok c hk).mono ?_
      rintro _ _ ⟨rfl, rfl⟩
      conv => whnf
      repeat' (first | ((with_reducible apply rd_intro); (focus (intro K hK; (conv => whnf); first | exact hK | (intro z hz; rw [wrapI (by omega)] at hz; subst hz; exact hK))); (conv => whnf)) | ((with_reducible apply gd_and); (focus ((conv => whnf) <;> first | rfl | (intro K hK; (conv => whnf); first | exact hK | (intro z hz; rw [wrapI (by omega)] at hz; subst hz; exact hK)))); (conv => whnf)) | ((with_reducible apply z_wrap); (focus omega); (conv => whnf)) | ((with_reducible refine mt_dec (fun _ => ?_) (fun _ => ?_)) <;> (conv => whnf)) | ((with_reducible refine mt_eq (fun _ => ?_) (fun _ => ?_)) <;> (conv => whnf)) | ((with_reducible refine mt_ne (fun _ => ?_) (fun _ => ?_)) <;> (conv => whnf)) | ((with_reducible refine mt_not (fun _ => ?_) (fun _ => ?_)) <;> (conv => whnf)) | ((with_reducible refine mt_any (fun _ => ?_) (fun _ => ?_)) <;> (conv => whnf)))
      exact ⟨_, j + 1, rfl, rfl, ⟨by omega, by omega, by omega⟩, by omega⟩
    · exact ⟨⟨_, rfl⟩, rfl⟩
    · exact ⟨⟨_, rfl⟩, rfl⟩
theorem heavyD_ok (d : Dag) (h : d.ok) : ACalls Try.prog 30 [d.av] [] (fun av L => (∃ b, av = .d (.bool b) ∧ (b = false → d.certs.length ≤ 80)) ∧ L = []) := by
  have hcl := certsD_length d.certs
  refine acalls_go ttOk zOk foOk Try.func30 rfl Try.ntmps30 rfl false rfl ?_
  conv => whnf
  rw [hcl]
  repeat' (first | ((with_reducible apply rd_intro); (focus (intro K hK; (conv => whnf); first | exact hK | (intro z hz; rw [wrapI (by omega)] at hz; subst hz; exact hK))); (conv => whnf)) | ((with_reducible apply gd_and); (focus ((conv => whnf) <;> first | rfl | (intro K hK; (conv => whnf); first | exact hK | (intro z hz; rw [wrapI (by omega)] at hz; subst hz; exact hK)))); (conv => whnf)) | ((with_reducible apply z_wrap); (focus omega); (conv => whnf)) | ((with_reducible refine mt_dec (fun _ => ?_) (fun _ => ?_)) <;> (conv => whnf)) | ((with_reducible refine mt_eq (fun _ => ?_) (fun _ => ?_)) <;> (conv => whnf)) | ((with_reducible refine mt_ne (fun _ => ?_) (fun _ => ?_)) <;> (conv => whnf)) | ((with_reducible refine mt_not (fun _ => ?_) (fun _ => ?_)) <;> (conv => whnf)) | ((with_reducible refine mt_any (fun _ => ?_) (fun _ => ?_)) <;> (conv => whnf)))
  · exact ⟨⟨_, rfl, by intro h; cases h⟩, rfl⟩
  · rename_i h80
    refine (certsW_ok d.certs h.certs.1 h.certs.2).mono ?_
    rintro _ _ ⟨⟨n, rfl⟩, rfl⟩
    conv => whnf
    exact ⟨⟨_, rfl, fun _ => by omega⟩, rfl⟩
theorem heavy_ok (p : AskG) (h : p.ok) : ACalls Try.prog 10 [p.av] [] (fun av L => (∃ b, av = .d (.bool b) ∧ (b = false → p.d.certs.length ≤ 80 ∧ p.is.length ≤ 60)) ∧ L = []) := by
  have hcl : (p.cs.map Cursor.cs).length = p.cs.length := List.length_map ..
  have hil := nums_length p.is
  have hc := h.cs.1
  unfold few at hc
  refine acalls_go ttOk zOk foOk Try.func10 rfl Try.ntmps10 rfl false rfl ?_
  conv => whnf
  refine loop_go2 ttOk zOk foOk (σ := Int) (ρ := Nat) (fun w j => ([(1, .ptr 0 0), (3, .d (.int .i64 w)), (4, .d (.int .i64 j))], [.cells p.cells])) (fun w j => j ≤ p.cs.length ∧ 0 ≤ w ∧ w ≤ 2000) (fun _ j => p.cs.length - j) [1, 3, 4] ?_ ?_
  · conv => whnf
    exact ⟨0, 0, rfl, rfl, by omega, by omega, by omega⟩
  · rintro w j ⟨hj, hw0, hw1⟩
    conv => whnf
    rw [hcl]
    repeat' (first | ((with_reducible apply rd_intro); (focus (intro K hK; (conv => whnf); first | exact hK | (intro z hz; rw [wrapI (by omega)] at hz; subst hz; exact hK))); (conv => whnf)) | ((with_reducible apply gd_and); (focus ((conv => whnf) <;> first | rfl | (intro K hK; (conv => whnf); first | exact hK | (intro z hz; rw [wrapI (by omega)] at hz; subst hz; exact hK)))); (conv => whnf)) | ((with_reducible apply z_wrap); (focus omega); (conv => whnf)) | ((with_reducible refine mt_dec (fun _ => ?_) (fun _ => ?_)) <;> (conv => whnf)) | ((with_reducible refine mt_eq (fun _ => ?_) (fun _ => ?_)) <;> (conv => whnf)) | ((with_reducible refine mt_ne (fun _ => ?_) (fun _ => ?_)) <;> (conv => whnf)) | ((with_reducible refine mt_not (fun _ => ?_) (fun _ => ?_)) <;> (conv => whnf)) | ((with_reducible refine mt_any (fun _ => ?_) (fun _ => ?_)) <;> (conv => whnf)))
    · rename_i hjl hwl
      refine Exists.elim (⟨_, List.getElem?_eq_getElem (by omega)⟩ : ∃ c, p.cs[j]? = some c) fun c hcj => ?_
      have h1 := (h.cs.2 c (List.mem_of_getElem? hcj)).done.1
      unfold few at h1
      have hdl := nums_length c.done
      ((with_reducible refine ix_map hcj ?_ ?_); (focus (first | rfl | omega)); (conv => whnf))
      rw [hdl]
      repeat' (first | ((with_reducible apply rd_intro); (focus (intro K hK; (conv => whnf); first | exact hK | (intro z hz; rw [wrapI (by omega)] at hz; subst hz; exact hK))); (conv => whnf)) | ((with_reducible apply gd_and); (focus ((conv => whnf) <;> first | rfl | (intro K hK; (conv => whnf); first | exact hK | (intro z hz; rw [wrapI (by omega)] at hz; subst hz; exact hK)))); (conv => whnf)) | ((with_reducible apply z_wrap); (focus omega); (conv => whnf)) | ((with_reducible refine mt_dec (fun _ => ?_) (fun _ => ?_)) <;> (conv => whnf)) | ((with_reducible refine mt_eq (fun _ => ?_) (fun _ => ?_)) <;> (conv => whnf)) | ((with_reducible refine mt_ne (fun _ => ?_) (fun _ => ?_)) <;> (conv => whnf)) | ((with_reducible refine mt_not (fun _ => ?_) (fun _ => ?_)) <;> (conv => whnf)) | ((with_reducible refine mt_any (fun _ => ?_) (fun _ => ?_)) <;> (conv => whnf)))
      · exact ⟨⟨_, rfl, by intro h; cases h⟩, rfl⟩
      · exact ⟨_, j + 1, rfl, rfl, ⟨by omega, by omega, by omega⟩, by omega⟩
    all_goals
      refine (heavyD_ok p.d h.d).mono ?_
      rintro _ _ ⟨⟨b, rfl, hb⟩, rfl⟩
      cases b with
      | true =>
        conv => whnf
        exact ⟨⟨_, rfl, by intro h; cases h⟩, rfl⟩
      | false =>
        conv => whnf
        rw [hil]
        exact ⟨⟨_, rfl, fun h2 => ⟨hb rfl, by have := of_decide_eq_false h2; omega⟩⟩, rfl⟩
end Go.Proofs.Ytoeppembokpjkaa

namespace Go.Proofs.Ytoeppembokpjkaa
open Go.Ab Go.RowKit Go.MapKept
attribute [local irreducible] ACalls AW ADraw Into fltB fnear
set_option maxRecDepth 100000
theorem Valid.tiny {d : Dag} (h : Valid d) : Go.Proofs.Ytoeppembokpjkaa.tiny d.certs ∧ ∀ c ∈ d.certs, c.tiny := by
  have hn := of_decide_eq_true h.nodes
  refine ⟨by have := h.len; unfold Go.Proofs.Ytoeppembokpjkaa.tiny; omega, fun c hc => ?_⟩
  have h1 := h.certs c hc
  refine ⟨?_, ?_, ?_⟩
  · have := h1.head.bats.1; unfold Go.Proofs.Ytoeppembokpjkaa.tiny; omega
  · have := h1.head.pars.1; unfold Go.Proofs.Ytoeppembokpjkaa.tiny; omega
  · have := rise_len2 (show riseB c.sigs 1 65536 from ⟨h1.sigs.1, fun x hx => by have := h1.sigs.2 x hx; omega⟩)
    unfold Go.Proofs.Ytoeppembokpjkaa.tiny; omega
theorem copyCerts_row (l : List Cert) (hl : tiny l) (h : ∀ c ∈ l, c.tiny) : ACalls Try.prog 39 [.d (.sl 6 (certsD l))] [] (fun av L => av = .arr 0 ∧ L = [.row 46 6 (certsD l) false]) := by
  have hx := certsD_length l
  unfold tiny at hl
  refine acalls_go ttOk zOk foOk Try.func39 rfl Try.ntmps39 rfl true rfl ?_
  conv => whnf
  refine loop_go ttOk zOk foOk (σ := Nat) (fun k => ([(0, .d (.sl 6 (certsD l))), (3, .arr 0), (4, .d (.int .i64 k))], [.row 46 6 (certsD (l.take k)) false])) (fun k => k ≤ l.length) (fun k => l.length - k) [0, 3, 4] ?_ ?_
  · conv => whnf
    exact ⟨0, rfl, rfl, by omega⟩
  · intro k hk
    conv => whnf
    rw [hx]
    repeat' (first | ((with_reducible apply rd_intro); (focus (intro K hK; (conv => whnf); first | exact hK | (intro z hz; rw [wrapI (by omega)] at hz; subst hz; exact hK))); (conv => whnf)) | ((with_reducible apply gd_and); (focus ((conv => whnf) <;> first | rfl | (intro K hK; (conv => whnf); first | exact hK | (intro z hz; rw [wrapI (by omega)] at hz; subst hz; exact hK)))); (conv => whnf)) | ((with_reducible apply z_wrap); (focus omega); (conv => whnf)) | ((with_reducible refine mt_dec (fun _ => ?_) (fun _ => ?_)) <;> (conv => whnf)) | ((with_reducible refine mt_eq (fun _ => ?_) (fun _ => ?_)) <;> (conv => whnf)) | ((with_reducible refine mt_ne (fun _ => ?_) (fun _ => ?_)) <;> (conv => whnf)) | ((with_reducible refine mt_not (fun _ => ?_) (fun _ => ?_)) <;> (conv => whnf)) | ((with_reducible refine mt_any (fun _ => ?_) (fun _ => ?_)) <;> (conv => whnf)))
    · rename_i h2
      refine Exists.elim (⟨_, List.getElem?_eq_getElem (by omega)⟩ : ∃ a, l[k]? = some a) fun a ha => ?_
      have hkn := certsD_length (l.take k)
      refine ⟨by omega, a.cs, certsD_at ha, ?_⟩
      conv => whnf
      repeat' (first | ((with_reducible apply rd_intro); (focus (intro K hK; (conv => whnf); first | exact hK | (intro z hz; rw [wrapI (by omega)] at hz; subst hz; exact hK))); (conv => whnf)) | ((with_reducible apply gd_and); (focus ((conv => whnf) <;> first | rfl | (intro K hK; (conv => whnf); first | exact hK | (intro z hz; rw [wrapI (by omega)] at hz; subst hz; exact hK)))); (conv => whnf)) | ((with_reducible apply z_wrap); (focus omega); (conv => whnf)) | ((with_reducible refine mt_dec (fun _ => ?_) (fun _ => ?_)) <;> (conv => whnf)) | ((with_reducible refine mt_eq (fun _ => ?_) (fun _ => ?_)) <;> (conv => whnf)) | ((with_reducible refine mt_ne (fun _ => ?_) (fun _ => ?_)) <;> (conv => whnf)) | ((with_reducible refine mt_not (fun _ => ?_) (fun _ => ?_)) <;> (conv => whnf)) | ((with_reducible refine mt_any (fun _ => ?_) (fun _ => ?_)) <;> (conv => whnf)))
      refine (copyCert_ok a (h a (List.mem_of_getElem? ha))).mono ?_
      rintro _ _ ⟨rfl, rfl⟩
      conv => whnf
      repeat' (first | ((with_reducible apply rd_intro); (focus (intro K hK; (conv => whnf); first | exact hK | (intro z hz; rw [wrapI (by omega)] at hz; subst hz; exact hK))); (conv => whnf)) | ((with_reducible apply gd_and); (focus ((conv => whnf) <;> first | rfl | (intro K hK; (conv => whnf); first | exact hK | (intro z hz; rw [wrapI (by omega)] at hz; subst hz; exact hK)))); (conv => whnf)) | ((with_reducible apply z_wrap); (focus omega); (conv => whnf)) | ((with_reducible refine mt_dec (fun _ => ?_) (fun _ => ?_)) <;> (conv => whnf)) | ((with_reducible refine mt_eq (fun _ => ?_) (fun _ => ?_)) <;> (conv => whnf)) | ((with_reducible refine mt_ne (fun _ => ?_) (fun _ => ?_)) <;> (conv => whnf)) | ((with_reducible refine mt_not (fun _ => ?_) (fun _ => ?_)) <;> (conv => whnf)) | ((with_reducible refine mt_any (fun _ => ?_) (fun _ => ?_)) <;> (conv => whnf)))
      refine ⟨by simp [hkn]; omega, ?_⟩
      conv => whnf
      repeat' (first | ((with_reducible apply rd_intro); (focus (intro K hK; (conv => whnf); first | exact hK | (intro z hz; rw [wrapI (by omega)] at hz; subst hz; exact hK))); (conv => whnf)) | ((with_reducible apply gd_and); (focus ((conv => whnf) <;> first | rfl | (intro K hK; (conv => whnf); first | exact hK | (intro z hz; rw [wrapI (by omega)] at hz; subst hz; exact hK)))); (conv => whnf)) | ((with_reducible apply z_wrap); (focus omega); (conv => whnf)) | ((with_reducible refine mt_dec (fun _ => ?_) (fun _ => ?_)) <;> (conv => whnf)) | ((with_reducible refine mt_eq (fun _ => ?_) (fun _ => ?_)) <;> (conv => whnf)) | ((with_reducible refine mt_ne (fun _ => ?_) (fun _ => ?_)) <;> (conv => whnf)) | ((with_reducible refine mt_not (fun _ => ?_) (fun _ => ?_)) <;> (conv => whnf)) | ((with_reducible refine mt_any (fun _ => ?_) (fun _ => ?_)) <;> (conv => whnf)))
      refine ⟨k + 1, rfl, ?_, by omega, by omega⟩
      rw [List.take_add_one, ha]
      simp [certsD, Cert.cs]
    · rename_i h2
      rw [List.take_of_length_le (by omega)]
      exact ⟨rfl, rfl⟩
theorem rAt_none (d : Dag) (hd : few d.certs) (r a : Int) (hno : ∀ c ∈ d.certs, ¬ (c.round = r ∧ c.author = a)) : ACalls Try.prog 62 [d.av, .d (.int .i64 r), .d (.int .i64 a)] [] (fun av L => av = .d (.int .i64 (-1)) ∧ L = []) := by
  have hcl := certsD_length d.certs
  unfold few at hd
  refine acalls_go ttOk zOk foOk Try.func62 rfl Try.ntmps62 rfl false rfl ?_
  conv => whnf
  refine loop_go ttOk zOk foOk (σ := Nat) (fun j => ([(1, .d (.int .i64 r)), (2, .d (.int .i64 a)), (3, .ptr 0 0), (7, .d (.int .i64 j))], [.cells d.cells])) (fun j => j ≤ d.certs.length) (fun j => d.certs.length - j) [1, 2, 3, 7] ?_ ?_
  · conv => whnf
    exact ⟨0, rfl, rfl, Nat.zero_le _⟩
  · intro j hj
    conv => whnf
    rw [hcl]
    repeat' (first | ((with_reducible apply rd_intro); (focus (intro K hK; (conv => whnf); first | exact hK | (intro z hz; rw [wrapI (by omega)] at hz; subst hz; exact hK))); (conv => whnf)) | ((with_reducible apply gd_and); (focus ((conv => whnf) <;> first | rfl | (intro K hK; (conv => whnf); first | exact hK | (intro z hz; rw [wrapI (by omega)] at hz; subst hz; exact hK)))); (conv => whnf)) | ((with_reducible apply z_wrap); (focus omega); (conv => whnf)) | ((with_reducible refine mt_dec (fun _ => ?_) (fun _ => ?_)) <;> (conv => whnf)) | ((with_reducible refine mt_eq (fun _ => ?_) (fun _ => ?_)) <;> (conv => whnf)) | ((with_reducible refine mt_ne (fun _ => ?_) (fun _ => ?_)) <;> (conv => whnf)) | ((with_reducible refine mt_not (fun _ => ?_) (fun _ => ?_)) <;> (conv => whnf)) | ((with_reducible refine mt_any (fun _ => ?_) (fun _ => ?_)) <;> (conv => whnf)))
    · rename_i h
      refine Exists.elim (⟨_, List.getElem?_eq_getElem (by omega)⟩ : ∃ c, d.certs[j]? = some c) fun c hc => ?_
      have hn := hno c (List.mem_of_getElem? hc)
      refine ⟨by omega, c.cs, certsD_at hc, ?_⟩
      conv => whnf
      repeat' (first | ((with_reducible apply rd_intro); (focus (intro K hK; (conv => whnf); first | exact hK | (intro z hz; rw [wrapI (by omega)] at hz; subst hz; exact hK))); (conv => whnf)) | ((with_reducible apply gd_and); (focus ((conv => whnf) <;> first | rfl | (intro K hK; (conv => whnf); first | exact hK | (intro z hz; rw [wrapI (by omega)] at hz; subst hz; exact hK)))); (conv => whnf)) | ((with_reducible apply z_wrap); (focus omega); (conv => whnf)) | ((with_reducible refine mt_dec (fun _ => ?_) (fun _ => ?_)) <;> (conv => whnf)) | ((with_reducible refine mt_eq (fun _ => ?_) (fun _ => ?_)) <;> (conv => whnf)) | ((with_reducible refine mt_ne (fun _ => ?_) (fun _ => ?_)) <;> (conv => whnf)) | ((with_reducible refine mt_not (fun _ => ?_) (fun _ => ?_)) <;> (conv => whnf)) | ((with_reducible refine mt_any (fun _ => ?_) (fun _ => ?_)) <;> (conv => whnf)))
      · rename_i h2
        refine ⟨by omega, c.cs, certsD_at hc, ?_⟩
        conv => whnf
        repeat' (first | ((with_reducible apply rd_intro); (focus (intro K hK; (conv => whnf); first | exact hK | (intro z hz; rw [wrapI (by omega)] at hz; subst hz; exact hK))); (conv => whnf)) | ((with_reducible apply gd_and); (focus ((conv => whnf) <;> first | rfl | (intro K hK; (conv => whnf); first | exact hK | (intro z hz; rw [wrapI (by omega)] at hz; subst hz; exact hK)))); (conv => whnf)) | ((with_reducible apply z_wrap); (focus omega); (conv => whnf)) | ((with_reducible refine mt_dec (fun _ => ?_) (fun _ => ?_)) <;> (conv => whnf)) | ((with_reducible refine mt_eq (fun _ => ?_) (fun _ => ?_)) <;> (conv => whnf)) | ((with_reducible refine mt_ne (fun _ => ?_) (fun _ => ?_)) <;> (conv => whnf)) | ((with_reducible refine mt_not (fun _ => ?_) (fun _ => ?_)) <;> (conv => whnf)) | ((with_reducible refine mt_any (fun _ => ?_) (fun _ => ?_)) <;> (conv => whnf)))
        · rename_i h3; exact absurd ⟨h2, h3⟩ hn
        · exact ⟨j + 1, rfl, rfl, by omega, by omega⟩
      · exact ⟨j + 1, rfl, rfl, by omega, by omega⟩
    · exact ⟨rfl, rfl⟩
/-- a certificate that comes behind all that are there -/
theorem addLast_row (d : Dag) (hl : tiny d.certs) (ht : ∀ c ∈ d.certs, c.tiny) (c : Cert) (hct : c.tiny) (hfl : fewL c) (hok : okCert d.nodes c) (hlow : d.low < c.round) (hbef : ∀ y ∈ d.certs, y.before c.round c.author = true) (hdig : ∀ y ∈ d.certs, y.digest ≠ c.digest) :
    ACalls Try.prog 40 [d.av, c.av] [] (fun av L => (lacksI d c ≠ [] ∧ av = .tup [d.av, .d (.int .i64 7)] ∧ L = []) ∨ (lacksI d c = [] ∧ av = .tup [.agg [.d (.int .i64 d.nodes), .d (.int .i64 d.low), .arr 0], .d (.int .i64 0)] ∧ L = [.row 46 6 (certsD (d.certs ++ [c])) false])) := by
  have hcl := certsD_length d.certs
  have hl' := hl
  unfold tiny at hl
  have hfd : few d.certs := by unfold few; omega
  refine acalls_go ttOk zOk foOk Try.func40 rfl Try.ntmps40 rfl true rfl ?_
  conv => whnf
  refine (rCert_ok c hfl d.nodes).mono ?_
  rintro _ _ ⟨rfl, rfl⟩
  rw [@decide_eq_true _ (Classical.propDecidable _) hok]
  conv => whnf
  repeat' (first | ((with_reducible apply rd_intro); (focus (intro K hK; (conv => whnf); first | exact hK | (intro z hz; rw [wrapI (by omega)] at hz; subst hz; exact hK))); (conv => whnf)) | ((with_reducible apply gd_and); (focus ((conv => whnf) <;> first | rfl | (intro K hK; (conv => whnf); first | exact hK | (intro z hz; rw [wrapI (by omega)] at hz; subst hz; exact hK)))); (conv => whnf)) | ((with_reducible apply z_wrap); (focus omega); (conv => whnf)) | ((with_reducible refine mt_dec (fun _ => ?_) (fun _ => ?_)) <;> (conv => whnf)) | ((with_reducible refine mt_eq (fun _ => ?_) (fun _ => ?_)) <;> (conv => whnf)) | ((with_reducible refine mt_ne (fun _ => ?_) (fun _ => ?_)) <;> (conv => whnf)) | ((with_reducible refine mt_not (fun _ => ?_) (fun _ => ?_)) <;> (conv => whnf)) | ((with_reducible refine mt_any (fun _ => ?_) (fun _ => ?_)) <;> (conv => whnf)))
  · rename_i h; exact absurd hlow (by omega)
  · refine (rAt_none d hfd c.round c.author ?_).mono ?_
    · intro y hy h
      have := before_iff.1 (hbef y hy)
      omega
    · rintro _ _ ⟨rfl, rfl⟩
      conv => whnf
      refine (rFind_ok d hfd c.digest).mono ?_
      rintro _ _ ⟨rfl, rfl⟩
      rw [show getI d.certs c.digest = -1 by rw [getI, getC_no hdig]; rfl]
      conv => whnf
      repeat' (first | ((with_reducible apply rd_intro); (focus (intro K hK; (conv => whnf); first | exact hK | (intro z hz; rw [wrapI (by omega)] at hz; subst hz; exact hK))); (conv => whnf)) | ((with_reducible apply gd_and); (focus ((conv => whnf) <;> first | rfl | (intro K hK; (conv => whnf); first | exact hK | (intro z hz; rw [wrapI (by omega)] at hz; subst hz; exact hK)))); (conv => whnf)) | ((with_reducible apply z_wrap); (focus omega); (conv => whnf)) | ((with_reducible refine mt_dec (fun _ => ?_) (fun _ => ?_)) <;> (conv => whnf)) | ((with_reducible refine mt_eq (fun _ => ?_) (fun _ => ?_)) <;> (conv => whnf)) | ((with_reducible refine mt_ne (fun _ => ?_) (fun _ => ?_)) <;> (conv => whnf)) | ((with_reducible refine mt_not (fun _ => ?_) (fun _ => ?_)) <;> (conv => whnf)) | ((with_reducible refine mt_any (fun _ => ?_) (fun _ => ?_)) <;> (conv => whnf)))
      refine (rLacks_ok d hfd c (by have := hct.pars; unfold tiny at this; omega) hok.head.round).mono ?_
      rintro _ _ ⟨rfl, rfl⟩
      have hll := nums_length (lacksI d c)
      conv => whnf
      repeat' (first | ((with_reducible apply rd_intro); (focus (intro K hK; (conv => whnf); first | exact hK | (intro z hz; rw [wrapI (by omega)] at hz; subst hz; exact hK))); (conv => whnf)) | ((with_reducible apply gd_and); (focus ((conv => whnf) <;> first | rfl | (intro K hK; (conv => whnf); first | exact hK | (intro z hz; rw [wrapI (by omega)] at hz; subst hz; exact hK)))); (conv => whnf)) | ((with_reducible apply z_wrap); (focus omega); (conv => whnf)) | ((with_reducible refine mt_dec (fun _ => ?_) (fun _ => ?_)) <;> (conv => whnf)) | ((with_reducible refine mt_eq (fun _ => ?_) (fun _ => ?_)) <;> (conv => whnf)) | ((with_reducible refine mt_ne (fun _ => ?_) (fun _ => ?_)) <;> (conv => whnf)) | ((with_reducible refine mt_not (fun _ => ?_) (fun _ => ?_)) <;> (conv => whnf)) | ((with_reducible refine mt_any (fun _ => ?_) (fun _ => ?_)) <;> (conv => whnf)))
      · rename_i h
        exact .inl ⟨fun e => by rw [hll, e] at h; simp at h, rfl, rfl⟩
      · rename_i h
        have hlk : lacksI d c = [] := List.length_eq_zero_iff.1 (by omega)
        refine loop_go ttOk zOk foOk (σ := Nat) (fun j => ([(2, .ptr 0 0), (3, .ptr 1 0), (4, .ptr 2 0), (8, .d (.int .i64 j))], [.cells d.cells, .cells c.cells, .cells [.d (.int .i64 0), .d (.int .i64 0), .d .nils]])) (fun j => j ≤ d.certs.length) (fun j => d.certs.length - j) [2, 3, 4, 8] ?_ ?_
        · conv => whnf
          exact ⟨0, rfl, rfl, Nat.zero_le _⟩
        · intro j hj
          conv => whnf
          ((with_reducible refine draw_pl ttOk zOk foOk mixedOk pl40x14 ?_ ?_); (focus kernel_rfl); (conv => whnf))
          repeat' (first | ((with_reducible apply rd_intro); (focus (intro K hK; (conv => whnf); first | exact hK | (intro z hz; rw [wrapI (by omega)] at hz; subst hz; exact hK))); (conv => whnf)) | ((with_reducible apply gd_and); (focus ((conv => whnf) <;> first | rfl | (intro K hK; (conv => whnf); first | exact hK | (intro z hz; rw [wrapI (by omega)] at hz; subst hz; exact hK)))); (conv => whnf)) | ((with_reducible apply z_wrap); (focus omega); (conv => whnf)) | ((with_reducible refine mt_dec (fun _ => ?_) (fun _ => ?_)) <;> (conv => whnf)) | ((with_reducible refine mt_eq (fun _ => ?_) (fun _ => ?_)) <;> (conv => whnf)) | ((with_reducible refine mt_ne (fun _ => ?_) (fun _ => ?_)) <;> (conv => whnf)) | ((with_reducible refine mt_not (fun _ => ?_) (fun _ => ?_)) <;> (conv => whnf)) | ((with_reducible refine mt_any (fun _ => ?_) (fun _ => ?_)) <;> (conv => whnf)))
          · rename_i hjl
            refine Exists.elim (⟨_, List.getElem?_eq_getElem (by omega)⟩ : ∃ y, d.certs[j]? = some y) fun y hy => ?_
            have hb := hbef y (List.mem_of_getElem? hy)
            ((with_reducible apply rd_intro); (focus (intro K hK; (conv => whnf); exact ⟨by omega, y.cs, certsD_at hy, hK⟩)); (conv => whnf))
            repeat' (first | ((with_reducible apply rd_intro); (focus (intro K hK; (conv => whnf); first | exact hK | (intro z hz; rw [wrapI (by omega)] at hz; subst hz; exact hK))); (conv => whnf)) | ((with_reducible apply gd_and); (focus ((conv => whnf) <;> first | rfl | (intro K hK; (conv => whnf); first | exact hK | (intro z hz; rw [wrapI (by omega)] at hz; subst hz; exact hK)))); (conv => whnf)) | ((with_reducible apply z_wrap); (focus omega); (conv => whnf)) | ((with_reducible refine mt_dec (fun _ => ?_) (fun _ => ?_)) <;> (conv => whnf)) | ((with_reducible refine mt_eq (fun _ => ?_) (fun _ => ?_)) <;> (conv => whnf)) | ((with_reducible refine mt_ne (fun _ => ?_) (fun _ => ?_)) <;> (conv => whnf)) | ((with_reducible refine mt_not (fun _ => ?_) (fun _ => ?_)) <;> (conv => whnf)) | ((with_reducible refine mt_any (fun _ => ?_) (fun _ => ?_)) <;> (conv => whnf)))
            ((with_reducible apply rd_intro); (focus (intro K hK; (conv => whnf); exact ⟨by omega, y.cs, certsD_at hy, hK⟩)); (conv => whnf))
            repeat' (first | ((with_reducible apply rd_intro); (focus (intro K hK; (conv => whnf); first | exact hK | (intro z hz; rw [wrapI (by omega)] at hz; subst hz; exact hK))); (conv => whnf)) | ((with_reducible apply gd_and); (focus ((conv => whnf) <;> first | rfl | (intro K hK; (conv => whnf); first | exact hK | (intro z hz; rw [wrapI (by omega)] at hz; subst hz; exact hK)))); (conv => whnf)) | ((with_reducible apply z_wrap); (focus omega); (conv => whnf)) | ((with_reducible refine mt_dec (fun _ => ?_) (fun _ => ?_)) <;> (conv => whnf)) | ((with_reducible refine mt_eq (fun _ => ?_) (fun _ => ?_)) <;> (conv => whnf)) | ((with_reducible refine mt_ne (fun _ => ?_) (fun _ => ?_)) <;> (conv => whnf)) | ((with_reducible refine mt_not (fun _ => ?_) (fun _ => ?_)) <;> (conv => whnf)) | ((with_reducible refine mt_any (fun _ => ?_) (fun _ => ?_)) <;> (conv => whnf)))
            refine (rBefore_ok y.round y.author c.round c.author).mono ?_
            rintro _ _ ⟨rfl, rfl⟩
            rw [show decide (y.round < c.round ∨ y.round = c.round ∧ y.author < c.author) = true from hb]
            conv => whnf
            repeat' (first | ((with_reducible apply rd_intro); (focus (intro K hK; (conv => whnf); first | exact hK | (intro z hz; rw [wrapI (by omega)] at hz; subst hz; exact hK))); (conv => whnf)) | ((with_reducible apply gd_and); (focus ((conv => whnf) <;> first | rfl | (intro K hK; (conv => whnf); first | exact hK | (intro z hz; rw [wrapI (by omega)] at hz; subst hz; exact hK)))); (conv => whnf)) | ((with_reducible apply z_wrap); (focus omega); (conv => whnf)) | ((with_reducible refine mt_dec (fun _ => ?_) (fun _ => ?_)) <;> (conv => whnf)) | ((with_reducible refine mt_eq (fun _ => ?_) (fun _ => ?_)) <;> (conv => whnf)) | ((with_reducible refine mt_ne (fun _ => ?_) (fun _ => ?_)) <;> (conv => whnf)) | ((with_reducible refine mt_not (fun _ => ?_) (fun _ => ?_)) <;> (conv => whnf)) | ((with_reducible refine mt_any (fun _ => ?_) (fun _ => ?_)) <;> (conv => whnf)))
            exact ⟨j + 1, rfl, rfl, by omega, by omega⟩
          · rename_i hjl
            have hje : j = d.certs.length := by omega
            subst hje
            ((with_reducible refine draw_pl ttOk zOk foOk mixedOk pl40x17 ?_ ?_); (focus kernel_rfl); (conv => whnf))
            repeat' (first | ((with_reducible apply rd_intro); (focus (intro K hK; (conv => whnf); first | exact hK | (intro z hz; rw [wrapI (by omega)] at hz; subst hz; exact hK))); (conv => whnf)) | ((with_reducible apply gd_and); (focus ((conv => whnf) <;> first | rfl | (intro K hK; (conv => whnf); first | exact hK | (intro z hz; rw [wrapI (by omega)] at hz; subst hz; exact hK)))); (conv => whnf)) | ((with_reducible apply z_wrap); (focus omega); (conv => whnf)) | ((with_reducible refine mt_dec (fun _ => ?_) (fun _ => ?_)) <;> (conv => whnf)) | ((with_reducible refine mt_eq (fun _ => ?_) (fun _ => ?_)) <;> (conv => whnf)) | ((with_reducible refine mt_ne (fun _ => ?_) (fun _ => ?_)) <;> (conv => whnf)) | ((with_reducible refine mt_not (fun _ => ?_) (fun _ => ?_)) <;> (conv => whnf)) | ((with_reducible refine mt_any (fun _ => ?_) (fun _ => ?_)) <;> (conv => whnf)))
            ((with_reducible apply rd_intro); (focus (intro K hK; (conv => whnf); exact ⟨by omega, by omega, by omega, hK⟩)); (conv => whnf))
            repeat' (first | ((with_reducible apply rd_intro); (focus (intro K hK; (conv => whnf); first | exact hK | (intro z hz; rw [wrapI (by omega)] at hz; subst hz; exact hK))); (conv => whnf)) | ((with_reducible apply gd_and); (focus ((conv => whnf) <;> first | rfl | (intro K hK; (conv => whnf); first | exact hK | (intro z hz; rw [wrapI (by omega)] at hz; subst hz; exact hK)))); (conv => whnf)) | ((with_reducible apply z_wrap); (focus omega); (conv => whnf)) | ((with_reducible refine mt_dec (fun _ => ?_) (fun _ => ?_)) <;> (conv => whnf)) | ((with_reducible refine mt_eq (fun _ => ?_) (fun _ => ?_)) <;> (conv => whnf)) | ((with_reducible refine mt_ne (fun _ => ?_) (fun _ => ?_)) <;> (conv => whnf)) | ((with_reducible refine mt_not (fun _ => ?_) (fun _ => ?_)) <;> (conv => whnf)) | ((with_reducible refine mt_any (fun _ => ?_) (fun _ => ?_)) <;> (conv => whnf)))
            have hsl : List.drop (Int.toNat 0) (List.take ((d.certs.length : Int)).toNat (certsD d.certs)) = certsD d.certs := by
              rw [show (Int.toNat 0) = 0 from rfl, List.drop_zero, show ((d.certs.length : Int)).toNat = d.certs.length from rfl, List.take_of_length_le (by omega)]
            rw [hsl]
            refine (copyCerts_row d.certs hl' ht).mono ?_
            rintro _ _ ⟨rfl, rfl⟩
            conv => whnf
            repeat' (first | ((with_reducible apply rd_intro); (focus (intro K hK; (conv => whnf); first | exact hK | (intro z hz; rw [wrapI (by omega)] at hz; subst hz; exact hK))); (conv => whnf)) | ((with_reducible apply gd_and); (focus ((conv => whnf) <;> first | rfl | (intro K hK; (conv => whnf); first | exact hK | (intro z hz; rw [wrapI (by omega)] at hz; subst hz; exact hK)))); (conv => whnf)) | ((with_reducible apply z_wrap); (focus omega); (conv => whnf)) | ((with_reducible refine mt_dec (fun _ => ?_) (fun _ => ?_)) <;> (conv => whnf)) | ((with_reducible refine mt_eq (fun _ => ?_) (fun _ => ?_)) <;> (conv => whnf)) | ((with_reducible refine mt_ne (fun _ => ?_) (fun _ => ?_)) <;> (conv => whnf)) | ((with_reducible refine mt_not (fun _ => ?_) (fun _ => ?_)) <;> (conv => whnf)) | ((with_reducible refine mt_any (fun _ => ?_) (fun _ => ?_)) <;> (conv => whnf)))
            refine (copyCert_ok c hct).mono ?_
            rintro _ _ ⟨rfl, rfl⟩
            conv => whnf
            repeat' (first | ((with_reducible apply rd_intro); (focus (intro K hK; (conv => whnf); first | exact hK | (intro z hz; rw [wrapI (by omega)] at hz; subst hz; exact hK))); (conv => whnf)) | ((with_reducible apply gd_and); (focus ((conv => whnf) <;> first | rfl | (intro K hK; (conv => whnf); first | exact hK | (intro z hz; rw [wrapI (by omega)] at hz; subst hz; exact hK)))); (conv => whnf)) | ((with_reducible apply z_wrap); (focus omega); (conv => whnf)) | ((with_reducible refine mt_dec (fun _ => ?_) (fun _ => ?_)) <;> (conv => whnf)) | ((with_reducible refine mt_eq (fun _ => ?_) (fun _ => ?_)) <;> (conv => whnf)) | ((with_reducible refine mt_ne (fun _ => ?_) (fun _ => ?_)) <;> (conv => whnf)) | ((with_reducible refine mt_not (fun _ => ?_) (fun _ => ?_)) <;> (conv => whnf)) | ((with_reducible refine mt_any (fun _ => ?_) (fun _ => ?_)) <;> (conv => whnf)))
            refine ⟨by simp; omega, ?_⟩
            conv => whnf
            repeat' (first | ((with_reducible apply rd_intro); (focus (intro K hK; (conv => whnf); first | exact hK | (intro z hz; rw [wrapI (by omega)] at hz; subst hz; exact hK))); (conv => whnf)) | ((with_reducible apply gd_and); (focus ((conv => whnf) <;> first | rfl | (intro K hK; (conv => whnf); first | exact hK | (intro z hz; rw [wrapI (by omega)] at hz; subst hz; exact hK)))); (conv => whnf)) | ((with_reducible apply z_wrap); (focus omega); (conv => whnf)) | ((with_reducible refine mt_dec (fun _ => ?_) (fun _ => ?_)) <;> (conv => whnf)) | ((with_reducible refine mt_eq (fun _ => ?_) (fun _ => ?_)) <;> (conv => whnf)) | ((with_reducible refine mt_ne (fun _ => ?_) (fun _ => ?_)) <;> (conv => whnf)) | ((with_reducible refine mt_not (fun _ => ?_) (fun _ => ?_)) <;> (conv => whnf)) | ((with_reducible refine mt_any (fun _ => ?_) (fun _ => ?_)) <;> (conv => whnf)))
            ((with_reducible refine draw_pl ttOk zOk foOk mixedOk pl40x18 ?_ ?_); (focus kernel_rfl); (conv => whnf))
            repeat' (first | ((with_reducible apply rd_intro); (focus (intro K hK; (conv => whnf); first | exact hK | (intro z hz; rw [wrapI (by omega)] at hz; subst hz; exact hK))); (conv => whnf)) | ((with_reducible apply gd_and); (focus ((conv => whnf) <;> first | rfl | (intro K hK; (conv => whnf); first | exact hK | (intro z hz; rw [wrapI (by omega)] at hz; subst hz; exact hK)))); (conv => whnf)) | ((with_reducible apply z_wrap); (focus omega); (conv => whnf)) | ((with_reducible refine mt_dec (fun _ => ?_) (fun _ => ?_)) <;> (conv => whnf)) | ((with_reducible refine mt_eq (fun _ => ?_) (fun _ => ?_)) <;> (conv => whnf)) | ((with_reducible refine mt_ne (fun _ => ?_) (fun _ => ?_)) <;> (conv => whnf)) | ((with_reducible refine mt_not (fun _ => ?_) (fun _ => ?_)) <;> (conv => whnf)) | ((with_reducible refine mt_any (fun _ => ?_) (fun _ => ?_)) <;> (conv => whnf)))
            ((with_reducible apply rd_intro); (focus (intro K hK; (conv => whnf); exact ⟨by omega, by omega, by omega, hK⟩)); (conv => whnf))
            repeat' (first | ((with_reducible apply rd_intro); (focus (intro K hK; (conv => whnf); first | exact hK | (intro z hz; rw [wrapI (by omega)] at hz; subst hz; exact hK))); (conv => whnf)) | ((with_reducible apply gd_and); (focus ((conv => whnf) <;> first | rfl | (intro K hK; (conv => whnf); first | exact hK | (intro z hz; rw [wrapI (by omega)] at hz; subst hz; exact hK)))); (conv => whnf)) | ((with_reducible apply z_wrap); (focus omega); (conv => whnf)) | ((with_reducible refine mt_dec (fun _ => ?_) (fun _ => ?_)) <;> (conv => whnf)) | ((with_reducible refine mt_eq (fun _ => ?_) (fun _ => ?_)) <;> (conv => whnf)) | ((with_reducible refine mt_ne (fun _ => ?_) (fun _ => ?_)) <;> (conv => whnf)) | ((with_reducible refine mt_not (fun _ => ?_) (fun _ => ?_)) <;> (conv => whnf)) | ((with_reducible refine mt_any (fun _ => ?_) (fun _ => ?_)) <;> (conv => whnf)))
            have hs2 : List.drop ((d.certs.length : Int)).toNat (List.take ((certsD d.certs).length : Int).toNat (certsD d.certs)) = certsD [] := by
              rw [show ((d.certs.length : Int)).toNat = d.certs.length from rfl, show ((certsD d.certs).length : Int).toNat = (certsD d.certs).length from rfl, List.take_length, List.drop_of_length_le (by omega)]
              rfl
            rw [hs2]
            refine (copyCerts_ok [] (by unfold tiny; simp) (by simp)).mono ?_
            rintro _ _ ⟨rfl, rfl⟩
            conv => whnf
            repeat' (first | ((with_reducible apply rd_intro); (focus (intro K hK; (conv => whnf); first | exact hK | (intro z hz; rw [wrapI (by omega)] at hz; subst hz; exact hK))); (conv => whnf)) | ((with_reducible apply gd_and); (focus ((conv => whnf) <;> first | rfl | (intro K hK; (conv => whnf); first | exact hK | (intro z hz; rw [wrapI (by omega)] at hz; subst hz; exact hK)))); (conv => whnf)) | ((with_reducible apply z_wrap); (focus omega); (conv => whnf)) | ((with_reducible refine mt_dec (fun _ => ?_) (fun _ => ?_)) <;> (conv => whnf)) | ((with_reducible refine mt_eq (fun _ => ?_) (fun _ => ?_)) <;> (conv => whnf)) | ((with_reducible refine mt_ne (fun _ => ?_) (fun _ => ?_)) <;> (conv => whnf)) | ((with_reducible refine mt_not (fun _ => ?_) (fun _ => ?_)) <;> (conv => whnf)) | ((with_reducible refine mt_any (fun _ => ?_) (fun _ => ?_)) <;> (conv => whnf)))
            refine ⟨by simp [certsD]; omega, ?_⟩
            conv => whnf
            repeat' (first | ((with_reducible apply rd_intro); (focus (intro K hK; (conv => whnf); first | exact hK | (intro z hz; rw [wrapI (by omega)] at hz; subst hz; exact hK))); (conv => whnf)) | ((with_reducible apply gd_and); (focus ((conv => whnf) <;> first | rfl | (intro K hK; (conv => whnf); first | exact hK | (intro z hz; rw [wrapI (by omega)] at hz; subst hz; exact hK)))); (conv => whnf)) | ((with_reducible apply z_wrap); (focus omega); (conv => whnf)) | ((with_reducible refine mt_dec (fun _ => ?_) (fun _ => ?_)) <;> (conv => whnf)) | ((with_reducible refine mt_eq (fun _ => ?_) (fun _ => ?_)) <;> (conv => whnf)) | ((with_reducible refine mt_ne (fun _ => ?_) (fun _ => ?_)) <;> (conv => whnf)) | ((with_reducible refine mt_not (fun _ => ?_) (fun _ => ?_)) <;> (conv => whnf)) | ((with_reducible refine mt_any (fun _ => ?_) (fun _ => ?_)) <;> (conv => whnf)))
            refine .inr ⟨hlk, rfl, ?_⟩
            simp [certsD, Cert.cs]
/-- what Add tells, as data -/
def addAV (d : Dag) (c : Cert) : AV := if lacksI d c = [] then .tup [(Dag.mk d.nodes d.low (d.certs ++ [c])).av, .d (.int .i64 0)] else .tup [d.av, .d (.int .i64 7)]
theorem addLast_ok (d : Dag) (hl : tiny d.certs) (ht : ∀ c ∈ d.certs, c.tiny) (c : Cert) (hct : c.tiny) (hfl : fewL c) (hok : okCert d.nodes c) (hlow : d.low < c.round) (hbef : ∀ y ∈ d.certs, y.before c.round c.author = true) (hdig : ∀ y ∈ d.certs, y.digest ≠ c.digest) :
    ACalls Try.prog 40 [d.av, c.av] [] (fun av L => av = addAV d c ∧ L = []) := by
  refine acalls_data (addLast_row d hl ht c hct hfl hok hlow hbef hdig) ?_
  rintro _ _ (⟨h, rfl, rfl⟩ | ⟨h, rfl, rfl⟩)
  · rw [addAV, if_neg h]
    conv => whnf
    exact ⟨rfl, rfl⟩
  · rw [addAV, if_pos h]
    conv => whnf
    exact ⟨rfl, rfl⟩
/-- a DAG without one of its certificates, and all that stands on it -/
def woL (d : Dag) (k : Nat) : Nat → List Cert
  | 0 => []
  | j + 1 => match d.certs[j]? with
    | some c => if j = k then woL d k j else if lacksI ⟨d.nodes, d.low, woL d k j⟩ c = [] then woL d k j ++ [c] else woL d k j
    | none => woL d k j
theorem woL_sub (d : Dag) (k : Nat) : ∀ j, (woL d k j).Sublist (d.certs.take j)
  | 0 => by simp [woL]
  | j + 1 => by
    have ih := woL_sub d k j
    unfold woL
    split
    · rename_i c hc
      rw [List.take_add_one, hc]
      split
      · exact ih.trans (List.sublist_append_left ..)
      · split
        · exact List.Sublist.append ih (List.Sublist.refl _)
        · exact ih.trans (List.sublist_append_left ..)
    · rename_i hc
      rw [List.take_add_one, hc]
      simpa using ih
theorem woL_here {d : Dag} (h : Valid d) (k : Nat) : ∀ j, ∀ c ∈ woL d k j, c.round > d.low + 1 → ∀ x ∈ c.pars, ∃ c' ∈ woL d k j, c'.digest = x ∧ c'.round = c.round - 1
  | 0 => by simp [woL]
  | j + 1 => by
    have ih := woL_here h k j
    unfold woL
    split
    · rename_i c hc
      split
      · exact ih
      · split
        · rename_i hl
          intro y hy hr x hx
          rcases List.mem_append.1 hy with hy | hy
          · obtain ⟨c', h1, h2⟩ := ih y hy hr x hx
            exact ⟨c', List.mem_append_left _ h1, h2⟩
          · simp at hy
            subst hy
            obtain ⟨c', h1, h2⟩ := lacks_nil hl hr x hx
            exact ⟨c', List.mem_append_left _ h1, h2⟩
        · exact ih
    · exact ih
theorem woL_valid {d : Dag} (h : Valid d) (k j : Nat) : Valid ⟨d.nodes, d.low, woL d k j⟩ := by
  have hs : (woL d k j).Sublist d.certs := (woL_sub d k j).trans (List.take_sublist ..)
  refine ⟨h.nodes, h.low, Nat.le_trans hs.length_le h.len, fun c hc => h.certs c (hs.subset hc), fun c hc => h.above c (hs.subset hc), h.sorted.sublist hs, h.dig.sublist (hs.map _), woL_here h k j⟩
end Go.Proofs.Ytoeppembokpjkaa

namespace Go.Proofs.Ytoeppembokpjkaa
open Go.Ab Go.RowKit Go.MapKept
attribute [local irreducible] ACalls AW ADraw Into fltB fnear
set_option maxRecDepth 100000
/-! ## cursor.Step of a DAG that may be, its low 0 -/
def outs (d : Dag) : List Int := (finW d c0).outs
theorem Valid.part {d : Dag} (h : Valid d) (h0 : d.low = 0) (n : Nat) : Valid ⟨d.nodes, 0, d.certs.take n⟩ := by
  have hm : ∀ c ∈ d.certs.take n, c ∈ d.certs := fun c hc => List.mem_of_mem_take hc
  refine ⟨h.nodes, by show (0 : Int) ≤ 0 ∧ (0 : Int) ≤ 1099511627776; decide, by show (d.certs.take n).length ≤ 65536; have := h.len; have := List.length_take_le' n d.certs; omega, fun c hc => h.certs c (hm c hc), fun c hc => by have := h.above c (hm c hc); rw [h0] at this; exact this, h.sorted.sublist (List.take_sublist ..), h.dig.sublist ((List.take_sublist ..).map _), ?_⟩
  intro c hc hr x hx
  obtain ⟨c', h1, h2, h3⟩ := h.here c (hm c hc) (by rw [h0]; exact hr) x hx
  refine ⟨c', ?_, h2, h3⟩
  obtain ⟨i, hi, rfl⟩ := List.mem_take_iff_getElem.1 hc
  obtain ⟨k, hk⟩ := List.getElem?_of_mem h1
  obtain ⟨hkl, rfl⟩ := List.getElem?_eq_some_iff.1 hk
  refine List.mem_take_iff_getElem.2 ⟨k, ?_, rfl⟩
  rcases Nat.lt_trichotomy k i with h4 | h4 | h4
  · omega
  · subst h4; omega
  · have := List.pairwise_iff_getElem.1 h.sorted i k (by omega) hkl h4
    have := before_iff.1 this
    omega
/-- a first step in a DAG whose low is 0 -/
theorem first_ok (d : Dag) (h : Valid d) (h0 : d.low = 0) : ACalls Try.prog 12 [d.av, .agg [.d (.int .i64 0), .d .nils, .d (.int .i64 0)]] [] (fun av L => av = (finW d c0).res ∧ L = [.row 3 1 (nums (finW d c0).c.done) false]) := by
  refine (step_ok d h.well (dagMay_ok d h) c0 .nils (.inl ⟨rfl, rfl⟩) c0_may).mono ?_
  rintro av L (⟨h, _⟩ | ⟨_, rfl, rfl⟩)
  · exact absurd h.1 (by omega)
  · exact ⟨rfl, rfl⟩
theorem finW_few {d : Dag} (h : Valid d) (h0 : d.low = 0) : few (finW d c0).outs := by
  have := (goF_okay h (topR d.certs).toNat ⟨c0, []⟩ (start_okay c0_may) (by decide) (by decide)).1.outs' h.well
  show (Wk.goF d (topR d.certs).toNat ⟨c0, []⟩).outs.length ≤ _
  omega
theorem Sub.part {d : Dag} (h : Valid d) (h0 : d.low = 0) (n : Nat) : Sub ⟨d.nodes, 0, d.certs.take n⟩ d := ⟨h.part h0 n, h, rfl, h0, rfl, List.take_sublist ..⟩
theorem c0_in (A : Dag) : inDag A ⟨c0, []⟩ := by intro x hx; cases hx
theorem sub_outs {A D : Dag} (h : Sub A D) : outs A <+: outs D := by
  have := (fin_on h (c0_in A) (by decide) (by decide)).2
  unfold outs
  rw [this]
  exact List.prefix_append ..
theorem Dag.eta {d : Dag} {l : Int} (h : d.low = l) : d = ⟨d.nodes, l, d.certs⟩ := by cases d; cases h; rfl
end Go.Proofs.Ytoeppembokpjkaa

namespace Go.Proofs.Ytoeppembokpjkaa
open Go.Ab Go.RowKit Go.MapKept
attribute [local irreducible] ACalls AW ADraw Into fltB fnear
set_option maxRecDepth 100000
/-! ## cursors that a part gave -/
theorem goF_up {d : Dag} (h : Valid d) : ∀ (n : Nat) (w : Wk), 0 ≤ w.c.round → w.c.round % 2 = 0 → w.c.round ≤ (Wk.goF d n w).c.round
  | 0, w, _, _ => Int.le_refl _
  | n + 1, w, h2, h3 => by
    rw [Wk.goF]
    split
    · rename_i hp
      have hsp := nextC_spec h.well h2 h3 hp
      have hall := backI_all h.well hsp.1 hsp.2.2.2.2.1
      have hr : (w.putL d (backI d w.c.round (nextC d w.c.round))).c.round = nextC d w.c.round := putL_round h hsp.2.2.2.2.1 hall.2.2
      have := goF_up h n (w.putL d (backI d w.c.round (nextC d w.c.round))) (by rw [hr]; omega) (by rw [hr]; exact hsp.2.2.2.1)
      rw [hr] at this
      omega
    · exact Int.le_refl _
theorem putA_count {d : Dag} {w : Wk} (hw : w.c.count = w.outs.length) (a : Int) (hl : (w.putA d a).outs.length ≤ 1099511627776) : (w.putA d a).c.count = (w.putA d a).outs.length := by
  unfold Wk.putA at hl ⊢
  split at hl
  · split at hl
    · rename_i i _ _ c _
      have e : (w.put d i c).outs.length = w.outs.length + (behindI d i c.round w.c.done).length := List.length_append ..
      rw [e] at hl
      show min (w.c.count + ((behindI d i c.round w.c.done).length : Int)) 1099511627776 = ((w.put d i c).outs.length : Int)
      rw [e]
      omega
    · exact hw
  · exact hw
theorem putL_count {d : Dag} : ∀ (l : List Int) (w : Wk), w.c.count = w.outs.length → (w.putL d l).outs.length ≤ 1099511627776 → (w.putL d l).c.count = (w.putL d l).outs.length
  | [], w, h, _ => h
  | a :: l, w, h, hl => by
    have h1 := (putL_outs d l (w.putA d a)).length_le
    have h2 : ((w.putA d a).putL d l).outs.length ≤ 1099511627776 := hl
    exact putL_count l (w.putA d a) (putA_count h a (by omega)) h2
theorem goF_count {d : Dag} : ∀ (n : Nat) (w : Wk), w.c.count = w.outs.length → (Wk.goF d n w).outs.length ≤ 1099511627776 → (Wk.goF d n w).c.count = (Wk.goF d n w).outs.length
  | 0, w, h, _ => h
  | n + 1, w, h, hl => by
    rw [Wk.goF] at hl ⊢
    split at hl
    · rename_i hp
      rw [if_pos hp]
      have h1 := (goF_outs d n (w.putL d (backI d w.c.round (nextC d w.c.round)))).length_le
      exact goF_count n _ (putL_count _ w h (by omega)) hl
    · rename_i hp
      rw [if_neg hp]; exact h
theorem fin_count {d : Dag} (h : Valid d) : (finW d c0).c.count = (finW d c0).outs.length := by
  have h1 := (goF_okay h (topR d.certs).toNat ⟨c0, []⟩ (start_okay c0_may) (by decide) (by decide)).1.outs' h.well
  exact goF_count _ ⟨c0, []⟩ rfl (by omega)
theorem fin_len {d : Dag} (h : Valid d) : (finW d c0).outs.length ≤ 4294967296 := (goF_okay h (topR d.certs).toNat ⟨c0, []⟩ (start_okay c0_may) (by decide) (by decide)).1.outs' h.well
theorem goF_in {d : Dag} (h : Valid d) (h0 : d.low = 0) (n : Nat) (w : Wk) (hw : inDag d w) (h2 : 0 ≤ w.c.round) (h3 : w.c.round % 2 = 0) : inDag d (Wk.goF d n w) := (sub_run (Sub.refl h h0) n w hw h2 h3).2
theorem fin_may {d : Dag} (h : Valid d) (h0 : d.low = 0) : curMay (finW d c0).c := by
  obtain ⟨h1, h2, h3, h4⟩ := goF_okay h (topR d.certs).toNat ⟨c0, []⟩ (start_okay c0_may) (by decide) (by decide)
  have h5 := goF_in h h0 (topR d.certs).toNat ⟨c0, []⟩ (c0_in d) (by decide) (by decide)
  have h6 := fin_count h
  have h7 := h1.outs' h.well
  have htop := h.well.top
  refine ⟨⟨h2, ?_, h3⟩, ⟨h1.fine.rising, fun x hx => ?_⟩, ?_⟩
  · have h8 : (finW d c0).c.round ≤ max 0 (topR d.certs) := h4
    omega
  · obtain ⟨c, hc, rfl⟩ := List.mem_map.1 (h5 x hx)
    have := (h.certs c hc).digest
    omega
  · rw [h6]
    have h8 : (finW d c0).outs.length ≤ 4294967296 := h7
    omega
/-- a step in a DAG whose low is 0 -/
theorem any_ok (d : Dag) (h : Valid d) (h0 : d.low = 0) (c : Cursor) (dn : DV) (hdn : isDone dn c.done) (hc : curMay c) : ACalls Try.prog 12 [d.av, .agg [.d (.int .i64 c.round), .d dn, .d (.int .i64 c.count)]] [] (fun av L => av = (finW d c).res ∧ L = [.row 3 1 (nums (finW d c).c.done) false]) := by
  refine (step_ok d h.well (dagMay_ok d h) c dn hdn hc).mono ?_
  rintro av L (⟨h, _⟩ | ⟨_, rfl, rfl⟩)
  · exact absurd h.1 (by omega)
  · exact ⟨rfl, rfl⟩
/-- what a step hands back, as data -/
def Wk.out (w : Wk) : AV := .tup [.agg [.d (.int .i64 w.c.round), .d (.sl 1 (nums w.c.done)), .d (.int .i64 w.c.count)], .d (.sl 1 (nums w.outs)), .d (.int .i64 0)]
theorem any_data (d : Dag) (h : Valid d) (h0 : d.low = 0) (c : Cursor) (dn : DV) (hdn : isDone dn c.done) (hc : curMay c) : ACalls Try.prog 12 [d.av, .agg [.d (.int .i64 c.round), .d dn, .d (.int .i64 c.count)]] [] (fun av L => av = (finW d c).out ∧ L = []) := by
  refine acalls_data (any_ok d h h0 c dn hdn hc) ?_
  rintro _ _ ⟨rfl, rfl⟩
  rw [Wk.res]
  conv => whnf
  exact ⟨rfl, rfl⟩
/-- the first certificates -/
def pt (d : Dag) (n : Nat) : Dag := ⟨d.nodes, 0, d.certs.take n⟩
theorem pt_valid {d : Dag} (h : Valid d) (h0 : d.low = 0) (n : Nat) : Valid (pt d n) := h.part h0 n
theorem pt_all {d : Dag} (h0 : d.low = 0) {n : Nat} (hn : d.certs.length ≤ n) : pt d n = d := by
  unfold pt
  rw [List.take_of_length_le hn]
  exact (Dag.eta h0).symm
theorem pt_sub {d : Dag} (h : Valid d) (h0 : d.low = 0) {m n : Nat} (hmn : m ≤ n) : Sub (pt d m) (pt d n) := by
  refine ⟨pt_valid h h0 m, pt_valid h h0 n, rfl, rfl, rfl, ?_⟩
  show (d.certs.take m).Sublist (d.certs.take n)
  rw [show d.certs.take m = (d.certs.take n).take m by rw [List.take_take, Nat.min_eq_left hmn]]
  exact List.take_sublist ..
theorem fin_in {A : Dag} (h : Valid A) (h0 : A.low = 0) : inDag A ⟨(finW A c0).c, []⟩ := goF_in h h0 (topR A.certs).toNat ⟨c0, []⟩ (c0_in A) (by decide) (by decide)
/-- from one part to a greater one -/
theorem part_on {A D : Dag} (h : Sub A D) : (finW D (finW A c0).c).c = (finW D c0).c ∧ (finW D c0).outs = (finW A c0).outs ++ (finW D (finW A c0).c).outs ∧ (finW A c0).c.round ≤ (finW D c0).c.round := by
  obtain ⟨h1, h2⟩ := fin_on h (c0_in A) (show 0 ≤ c0.round by decide) (by decide)
  refine ⟨h1, h2, ?_⟩
  rw [← h1]
  have hm := fin_may h.va h.la
  exact goF_up h.vd (topR D.certs).toNat ⟨(finW A c0).c, []⟩ hm.round.1 hm.round.2.2
theorem pt_zero (d : Dag) : finW (pt d 0) c0 = ⟨c0, []⟩ := rfl
theorem eqCursor_ok (r q : Int) (xs ys : List Int) (a b : Int) (hm : few xs) : ACalls Try.prog 19 [.agg [.d (.int .i64 r), .d (.sl 1 (nums xs)), .d (.int .i64 a)], .agg [.d (.int .i64 q), .d (.sl 1 (nums ys)), .d (.int .i64 b)]] [] (fun av L => av = .d (.bool (decide (r = q ∧ xs = ys ∧ a = b))) ∧ L = []) := by
  refine acalls_go ttOk zOk foOk Try.func19 rfl Try.ntmps19 rfl false rfl ?_
  conv => whnf
  repeat' (first | ((with_reducible apply z_wrap); (focus omega); (conv => whnf)) | ((with_reducible refine mt_dec (fun _ => ?_) (fun _ => ?_)) <;> (conv => whnf)) | ((with_reducible refine mt_eq (fun _ => ?_) (fun _ => ?_)) <;> (conv => whnf)) | ((with_reducible refine mt_ne (fun _ => ?_) (fun _ => ?_)) <;> (conv => whnf)) | ((with_reducible refine mt_not (fun _ => ?_) (fun _ => ?_)) <;> (conv => whnf)) | ((with_reducible refine mt_any (fun _ => ?_) (fun _ => ?_)) <;> (conv => whnf)))
  · rename_i h1
    refine (eqNumbers_ok xs ys hm).mono ?_
    rintro _ _ ⟨rfl, rfl⟩
    by_cases h2 : xs = ys
    · rw [decide_eq_true h2]
      conv => whnf
      repeat' (first | ((with_reducible apply z_wrap); (focus omega); (conv => whnf)) | ((with_reducible refine mt_dec (fun _ => ?_) (fun _ => ?_)) <;> (conv => whnf)) | ((with_reducible refine mt_eq (fun _ => ?_) (fun _ => ?_)) <;> (conv => whnf)) | ((with_reducible refine mt_ne (fun _ => ?_) (fun _ => ?_)) <;> (conv => whnf)) | ((with_reducible refine mt_not (fun _ => ?_) (fun _ => ?_)) <;> (conv => whnf)) | ((with_reducible refine mt_any (fun _ => ?_) (fun _ => ?_)) <;> (conv => whnf)))
      exact ⟨by by_cases h3 : a = b <;> simp [h1, h2, h3], rfl⟩
    · rw [decide_eq_false h2]
      conv => whnf
      exact ⟨by rw [decide_eq_false (fun h => h2 h.2.1)]; rfl, rfl⟩
  · rename_i h1
    exact ⟨by rw [decide_eq_false (fun h => h1 h.1)]; rfl, rfl⟩
end Go.Proofs.Ytoeppembokpjkaa

namespace Go.Proofs.Ytoeppembokpjkaa
open Go.Ab Go.RowKit
/-! ## where a DAG's first step ends -/
theorem top_small {d : Dag} (h : Valid d) {s : Int} (hs : s % 2 = 0) (hq : ∀ q, s < q → q % 2 = 0 → settled d q = false) (h0 : d.low = 0) (h1 : 0 ≤ s) : ¬ nextC d s > 0 := by
  intro hp
  have hsp := nextC_spec h.well h1 hs hp
  have := hq _ hsp.1 hsp.2.2.2.1
  rw [hsp.2.2.1] at this; cases this
theorem fin_zero {d : Dag} (h : Valid d) (h0 : d.low = 0) (hq : ∀ q, 0 < q → q % 2 = 0 → settled d q = false) : finW d c0 = ⟨c0, []⟩ := goF_end (top_small h rfl hq h0 (by decide)) _
theorem put_self {d : Dag} (h : Valid d) {w : Wk} (hw : Once d w) {i : Nat} {c : Cert} (hi : d.certs[i]? = some c) : c.digest ∈ (w.put d i c).outs := by
  show c.digest ∈ w.outs ++ behindI d i c.round w.c.done
  by_cases h1 : c.digest ∈ w.c.done
  · exact List.mem_append_left _ (hw.fresh _ h1)
  · refine List.mem_append_right _ (List.mem_filter.2 ⟨List.mem_reverse.2 (show c.digest ∈ downI d i (c.round - 8) from ?_), by simpa using h1⟩)
    exact (anc_down h.sorted h.dig hi (.refl) (by omega)).1
theorem fin_at {d : Dag} (h : Valid d) (h0 : d.low = 0) {s : Int} (hs : settled d s = true) (hs2 : s % 2 = 0) (hs0 : 0 < s) (hq : ∀ q, s < q → q % 2 = 0 → settled d q = false) : (finW d c0).c.round = s ∧ 0 < (finW d c0).outs.length := by
  have hn := of_decide_eq_true h.nodes
  have hne := settled_anchor (show 0 < d.nodes by omega) hs
  have hall := backI_all h.well (after := 0) hs0 hne
  have hrun := run_pass h h0 hs hs2 _ ⟨c0, []⟩ (Nat.le_refl _) (by decide) (by decide) hs0
  have hr : ((Wk.mk c0 []).putL d (backI d 0 s)).c.round = s := putL_round h hne hall.2.2
  have hfin : finW d c0 = (Wk.mk c0 []).putL d (backI d 0 s) := by
    rw [finW_run, hrun]
    exact goF_end (by show ¬ nextC d ((Wk.mk c0 []).putL d (backI d 0 s)).c.round > 0; rw [hr]; exact top_small h hs2 hq h0 (by omega)) _
  refine ⟨by rw [hfin, hr], ?_⟩
  cases hb : backI d 0 s with
  | nil => rw [hb] at hall; cases hall.2.2
  | cons a l =>
    obtain ⟨q, q1, q2, e, q3⟩ := hall.1 a (by rw [hb]; simp)
    obtain ⟨c, hc, hcr, _⟩ := anchor_cert h.well q3
    rw [← e] at hc
    obtain ⟨_, hcd, i, hi1, hi2⟩ := certOf_some hc
    have hon : Once d ⟨c0, []⟩ := ⟨fun x hx => (by cases hx), List.nodup_nil, fun x hx => (by cases hx), fun x hx => (by cases hx), fun x hx => (by cases hx), List.Pairwise.nil⟩
    have h1 := put_self h hon hi2
    have e2 : (Wk.mk c0 []).putA d a = (Wk.mk c0 []).put d i c := putA_eq hi1 hi2
    rw [hfin, hb]
    show 0 < (((Wk.mk c0 []).putA d a).putL d l).outs.length
    rw [← e2] at h1
    exact List.length_pos_of_mem ((putL_outs d l _).subset h1)
/-! ## the law's DAGs -/
def wtS (n : Nat) : List Int := (List.range n).map fun i : Nat => (i : Int) + 1
def wtP (n r : Nat) : List Int := (List.range n).map fun i : Nat => ((n * (r - 1) + i + 1 : Nat) : Int)
def wtC (n r a : Nat) : Cert := ⟨a, r, [], if r ≤ 1 then [] else wtP n (r - 1), ((n * (r - 1) + a : Nat) : Int), wtS n⟩
def wtL (n m : Nat) : List Cert := (List.range m).map fun i => wtC n (i / n + 1) (i % n + 1)
def wtD (n m : Nat) : Dag := ⟨n, 0, wtL n m⟩
def wtW (n r a : Nat) : Int := if 3 ≤ r then (if r % 2 = 1 ∧ a < n / 3 + 1 then (r : Int) - 1 - ((r : Int) + 1) % 2 - 2 else (r : Int) - 1 - ((r : Int) + 1) % 2) else 0
/-! ### they may be -/
def riseBB (l : List Int) (a b : Int) : Bool := decide (l.Pairwise fun x y => x < y) && l.all fun x => decide (a ≤ x) && decide (x ≤ b)
theorem riseBB_ok {l : List Int} {a b : Int} (h : riseBB l a b = true) : riseB l a b := by
  simp only [riseBB, Bool.and_eq_true, decide_eq_true_eq, List.all_eq_true] at h
  exact ⟨h.1, h.2⟩
def okB (n : Int) (c : Cert) : Bool :=
  (isN n && decide (1 ≤ c.author ∧ c.author ≤ n) && decide (1 ≤ c.round ∧ c.round ≤ 1099511627776)) &&
  ((decide ((c.bats.length : Int) ≤ 8) && riseBB c.bats 1 65536) && (decide ((c.pars.length : Int) ≤ n) && riseBB c.pars 1 65536)) &&
  (decide (c.round = 1 → c.pars = []) && decide (c.round ≠ 1 → (c.pars.length : Int) ≥ quo n)) &&
  (decide (1 ≤ c.digest ∧ c.digest ≤ 65536) && riseBB c.sigs 1 n && decide ((c.sigs.length : Int) ≥ quo n))
theorem okB_ok {n : Int} {c : Cert} (h : okB n c = true) : okCert n c := by
  simp only [okB, Bool.and_eq_true, decide_eq_true_eq] at h
  obtain ⟨⟨⟨⟨⟨h1, h2⟩, h3⟩, ⟨⟨h4, h5⟩, h6, h7⟩⟩, h8, h9⟩, ⟨h10, h11⟩, h12⟩ := h
  exact ⟨⟨h1, h2, h3, ⟨h4, riseBB_ok h5⟩, ⟨h6, riseBB_ok h7⟩, h8, h9⟩, h10, riseBB_ok h11, h12⟩
def validB (d : Dag) : Bool :=
  (isN d.nodes && decide (0 ≤ d.low ∧ d.low ≤ 1099511627776) && decide (d.certs.length ≤ 65536)) &&
  (d.certs.all (fun c => okB d.nodes c && decide (d.low < c.round)) && decide (d.certs.Pairwise fun x y => x.before y.round y.author = true)) &&
  (decide ((d.certs.map (·.digest)).Nodup) && d.certs.all fun c => c.pars.all fun x => d.certs.any fun c' => decide (c'.digest = x) && decide (c'.round = c.round - 1))
theorem validB_ok {d : Dag} (h : validB d = true) : Valid d := by
  simp only [validB, Bool.and_eq_true, decide_eq_true_eq, List.all_eq_true, List.any_eq_true] at h
  obtain ⟨⟨⟨⟨h1, h2⟩, h3⟩, h4, h5⟩, h6, h7⟩ := h
  refine ⟨h1, h2, h3, fun c hc => okB_ok (h4 c hc).1, fun c hc => (h4 c hc).2, h5, h6, fun c hc _ x hx => ?_⟩
  obtain ⟨c', k1, k2, k3⟩ := h7 c hc x hx
  exact ⟨c', k1, k2, k3⟩
theorem wtL_len (n m : Nat) : (wtL n m).length = m := by simp [wtL]
theorem wtL_take {n m k : Nat} (h : m ≤ k) : (wtL n k).take m = wtL n m := by
  unfold wtL
  rw [← List.map_take, List.take_range, Nat.min_eq_left h]
theorem wtL_succ (n m : Nat) : wtL n (m + 1) = wtL n m ++ [wtC n (m / n + 1) (m % n + 1)] := by
  unfold wtL
  rw [List.range_succ, List.map_append]; rfl
def wtN (n : Nat) : Prop := n = 1 ∨ n = 4 ∨ n = 7
theorem wt_full {n : Nat} (hn : wtN n) : Valid (wtD n (7 * n)) := by
  rcases hn with rfl | rfl | rfl <;> exact validB_ok (by decide +kernel)
theorem wt_valid {n m : Nat} (hn : wtN n) (hm : m ≤ 7 * n) : Valid (wtD n m) := by
  have := (wt_full hn).part rfl m
  rw [show (wtD n (7 * n)).certs.take m = wtL n m from wtL_take hm] at this
  exact this
/-! ### how far it goes -/
def wtB (n r a : Nat) : Bool :=
  (decide (wtW n r a = 0) || (settled (wtD n (n * (r - 1) + a)) (wtW n r a) && decide (wtW n r a % 2 = 0 ∧ 0 < wtW n r a))) &&
  [2, 4, 6].all fun q => decide (q ≤ wtW n r a) || !settled (wtD n (n * (r - 1) + a)) q
theorem wtB_ok : ∀ n ∈ [1, 4, 7], ∀ r ∈ [1, 2, 3, 4, 5, 6, 7], ∀ a ∈ List.range' 1 n, wtB n r a = true := by decide +kernel
theorem wt_top {n m : Nat} (hn : wtN n) (hm : m ≤ 7 * n) : topR (wtD n m).certs ≤ 7 := by
  unfold topR
  cases hg : (wtD n m).certs.getLast? with
  | none => decide
  | some c =>
    show c.round ≤ 7
    have hc : c ∈ wtL n m := List.mem_of_getLast? hg
    obtain ⟨i, hi, rfl⟩ := List.mem_map.1 hc
    have hi := List.mem_range.1 hi
    show ((i / n + 1 : Nat) : Int) ≤ 7
    have : i / n < 7 := by
      rw [Nat.div_lt_iff_lt_mul (by rcases hn with rfl | rfl | rfl <;> decide)]
      omega
    omega
theorem wt_fin {n r a : Nat} (hn : wtN n) (hr : 1 ≤ r ∧ r ≤ 7) (ha : 1 ≤ a ∧ a ≤ n) : (finW (wtD n (n * (r - 1) + a)) c0).c.round = wtW n r a ∧ (0 < (finW (wtD n (n * (r - 1) + a)) c0).outs.length ↔ 0 < wtW n r a) := by
  have hr7 : r ∈ [1, 2, 3, 4, 5, 6, 7] := by
    obtain ⟨h1, h2⟩ := hr
    have : r = 1 ∨ r = 2 ∨ r = 3 ∨ r = 4 ∨ r = 5 ∨ r = 6 ∨ r = 7 := by omega
    rcases this with rfl | rfl | rfl | rfl | rfl | rfl | rfl <;> decide
  have hb := wtB_ok n (by rcases hn with rfl | rfl | rfl <;> decide) r hr7 a (by rw [List.mem_range'_1]; omega)
  have hm : n * (r - 1) + a ≤ 7 * n := by
    have : n * (r - 1) ≤ n * 6 := Nat.mul_le_mul_left n (by omega)
    omega
  have hv := wt_valid hn hm
  have ht := wt_top hn hm
  obtain ⟨D, hD⟩ : ∃ D, wtD n (n * (r - 1) + a) = D := ⟨_, rfl⟩
  have hlow : D.low = 0 := by rw [← hD]; rfl
  unfold wtB at hb
  rw [hD] at hv ht hb ⊢
  rw [Bool.and_eq_true, List.all_eq_true, Bool.or_eq_true, decide_eq_true_iff] at hb
  obtain ⟨hb1, hb2⟩ := hb
  have hq : ∀ q, wtW n r a < q → 0 < q → q % 2 = 0 → settled D q = false := by
    intro q h1 h2 h3
    cases hs : settled D q with
    | false => rfl
    | true =>
      have h4 := settled_top hv hs
      have h5 : q = 2 ∨ q = 4 ∨ q = 6 := by omega
      have := hb2 q (by rcases h5 with rfl | rfl | rfl <;> simp)
      rw [hs, Bool.not_true, Bool.or_false, decide_eq_true_iff] at this
      omega
  rcases hb1 with h0 | h0
  · rw [h0] at hq ⊢
    rw [fin_zero hv hlow fun q h1 h2 => hq q h1 h1 h2]
    exact ⟨rfl, by simp⟩
  · rw [Bool.and_eq_true, decide_eq_true_iff] at h0
    obtain ⟨h1, h2, h3⟩ := h0
    obtain ⟨k1, k2⟩ := fin_at hv hlow h1 h2 h3 fun q h4 h5 => hq q h4 (by omega) h5
    exact ⟨k1, fun _ => h3, fun _ => k2⟩
/-! ### the next certificate -/
def wtA (n r : Nat) : List Int := if r ≤ 1 then [] else wtP n (r - 1)
theorem wtL_next {n r a : Nat} (hr : 1 ≤ r) (ha : a < n) : wtL n (n * (r - 1) + a + 1) = wtL n (n * (r - 1) + a) ++ [wtC n r (a + 1)] := by
  have h1 : (n * (r - 1) + a) / n = r - 1 := by
    rw [Nat.mul_add_div (by omega), Nat.div_eq_of_lt ha]; omega
  have h2 : (n * (r - 1) + a) % n = a := by
    rw [Nat.mul_add_mod, Nat.mod_eq_of_lt ha]
  rw [wtL_succ, h1, h2, show r - 1 + 1 = r by omega]
theorem wt_next {n r a : Nat} (hr : 1 ≤ r) (ha : a < n) : certsD (wtL n (n * (r - 1) + a + 1)) = certsD (wtL n (n * (r - 1) + a)) ++ [[.int .i64 ((a : Int) + 1), .int .i64 (r : Int), .sl 1 [], .sl 1 (nums (wtA n r)), .int .i64 ((n * (r - 1) + a + 1 : Nat) : Int), .sl 1 (nums (wtS n))]] := by
  rw [wtL_next hr ha]
  unfold certsD
  rw [List.map_append]
  rfl
theorem wt_step {n r a : Nat} (hn : wtN n) (hr : 1 ≤ r ∧ r ≤ 7) (ha : a < n) : ∃ (done : List Int) (cnt : Int) (os : List Int), ACalls Try.prog 12 [.agg [.d (.int .i64 (n : Int)), .d (.int .i64 0), .d (.sl 6 (certsD (wtL n (n * (r - 1) + a)) ++ [[.int .i64 ((a : Int) + 1), .int .i64 (r : Int), .sl 1 [], .sl 1 (nums (wtA n r)), .int .i64 ((n * (r - 1) + a + 1 : Nat) : Int), .sl 1 (nums (wtS n))]]))], .agg [.d (.int .i64 0), .d .nils, .d (.int .i64 0)]] [] (fun av L => av = .tup [.agg [.d (.int .i64 (wtW n r (a + 1))), .d (.sl 1 (nums done)), .d (.int .i64 cnt)], .d (.sl 1 (nums os)), .d (.int .i64 0)] ∧ L = []) ∧ (0 < os.length ↔ 0 < wtW n r (a + 1)) := by
  have hm : n * (r - 1) + (a + 1) ≤ 7 * n := by
    have : n * (r - 1) ≤ n * 6 := Nat.mul_le_mul_left n (by omega)
    omega
  have hv := wt_valid hn hm
  obtain ⟨h1, h2⟩ := wt_fin hn hr (a := a + 1) (by omega)
  refine ⟨(finW (wtD n (n * (r - 1) + (a + 1))) c0).c.done, (finW (wtD n (n * (r - 1) + (a + 1))) c0).c.count, (finW (wtD n (n * (r - 1) + (a + 1))) c0).outs, ?_, h2⟩
  rw [← wt_next hr.1 ha, ← h1]
  exact any_data (wtD n (n * (r - 1) + (a + 1))) hv rfl c0 .nils (.inl ⟨rfl, rfl⟩) c0_may
end Go.Proofs.Ytoeppembokpjkaa

namespace Go.Proofs.Ytoeppembokpjkaa
open Go.Ab Go.RowKit Go.MapKept
attribute [local irreducible] ACalls AW ADraw Into fltB fnear
set_option maxRecDepth 100000
/-! ## the page's In; a cursor's Check -/
def inC (l : List Int) (x : Int) : Option Nat := l.findIdx? fun y => decide (y = x)
def inI (l : List Int) (x : Int) : Int := (inC l x).elim (-1) fun i => (i : Int)
theorem inC_no {l : List Int} {x : Int} (h : ∀ c ∈ l, c ≠ x) : inC l x = none := by
  unfold inC
  rw [List.findIdx?_eq_none_iff]
  intro c hc
  simp [h c hc]
theorem inC_here {l : List Int} {x : Int} {j : Nat} (hc : l[j]? = some x) (h : ∀ c ∈ l.take j, c ≠ x) : inC l x = some j := by
  unfold inC
  rw [List.findIdx?_eq_some_iff_getElem]
  obtain ⟨hj, rfl⟩ := List.getElem?_eq_some_iff.1 hc
  refine ⟨hj, by simp, fun i hi => ?_⟩
  have := h l[i] (List.mem_take_iff_getElem.2 ⟨i, by omega, rfl⟩)
  simpa using this
theorem inI_not {l : List Int} {x : Int} (h : x ∉ l) : inI l x = -1 := by
  rw [inI, inC_no (l := l) (x := x) fun c hc e => h (by rw [← e]; exact hc)]; rfl
theorem inI_in {l : List Int} {x : Int} (h : x ∈ l) : 0 ≤ inI l x := by
  unfold inI
  cases hc : inC l x with
  | none =>
    unfold inC at hc
    rw [List.findIdx?_eq_none_iff] at hc
    have := hc x h
    simp at this
  | some i => show (0 : Int) ≤ (i : Int); omega
theorem inI_iff {l : List Int} {x : Int} : inI l x ≥ 0 ↔ x ∈ l := by
  constructor
  · intro h
    refine Classical.byContradiction fun hn => ?_
    rw [inI_not hn] at h; omega
  · exact inI_in
theorem inI_range (l : List Int) (x : Int) : -1 ≤ inI l x ∧ inI l x < max 1 (l.length : Int) := by
  unfold inI
  cases hc : inC l x with
  | none => show (-1 : Int) ≤ -1 ∧ (-1 : Int) < _; omega
  | some i =>
    unfold inC at hc
    rw [List.findIdx?_eq_some_iff_getElem] at hc
    obtain ⟨hj, _⟩ := hc
    show (-1 : Int) ≤ (i : Int) ∧ (i : Int) < _; omega
theorem in_ok (l : List Int) (hl : few l) (x : Int) : ACalls Try.prog 24 [.d (.sl 1 (nums l)), .d (.int .i64 x)] [] (fun av L => av = .d (.int .i64 (inI l x)) ∧ L = []) := by
  have hcl := nums_length l
  unfold few at hl
  refine acalls_go ttOk zOk foOk Try.func24 rfl Try.ntmps24 rfl false rfl ?_
  conv => whnf
  refine loop_go ttOk zOk foOk (σ := Nat) (fun j => ([(0, .d (.sl 1 (nums l))), (1, .d (.int .i64 x)), (5, .d (.int .i64 j))], [])) (fun j => j ≤ l.length ∧ ∀ c ∈ l.take j, c ≠ x) (fun j => l.length - j) [0, 1, 5] ?_ ?_
  · conv => whnf
    exact ⟨0, rfl, rfl, Nat.zero_le _, by simp⟩
  · rintro j ⟨hj, hall⟩
    conv => whnf
    rw [hcl]
    repeat' (first | ((with_reducible apply z_wrap); (focus omega); (conv => whnf)) | ((with_reducible refine mt_dec (fun _ => ?_) (fun _ => ?_)) <;> (conv => whnf)) | ((with_reducible refine mt_eq (fun _ => ?_) (fun _ => ?_)) <;> (conv => whnf)) | ((with_reducible refine mt_ne (fun _ => ?_) (fun _ => ?_)) <;> (conv => whnf)) | ((with_reducible refine mt_not (fun _ => ?_) (fun _ => ?_)) <;> (conv => whnf)) | ((with_reducible refine mt_any (fun _ => ?_) (fun _ => ?_)) <;> (conv => whnf)))
    · rename_i h
      refine Exists.elim (⟨_, List.getElem?_eq_getElem (by omega)⟩ : ∃ c, l[j]? = some c) fun c hc => ?_
      refine ⟨by omega, [.int .i64 c], nums_at hc, ?_⟩
      conv => whnf
      repeat' (first | ((with_reducible apply z_wrap); (focus omega); (conv => whnf)) | ((with_reducible refine mt_dec (fun _ => ?_) (fun _ => ?_)) <;> (conv => whnf)) | ((with_reducible refine mt_eq (fun _ => ?_) (fun _ => ?_)) <;> (conv => whnf)) | ((with_reducible refine mt_ne (fun _ => ?_) (fun _ => ?_)) <;> (conv => whnf)) | ((with_reducible refine mt_not (fun _ => ?_) (fun _ => ?_)) <;> (conv => whnf)) | ((with_reducible refine mt_any (fun _ => ?_) (fun _ => ?_)) <;> (conv => whnf)))
      · rename_i h2
        rw [inI, inC_here (by rw [hc, h2]) hall]
        exact ⟨rfl, rfl⟩
      · rename_i h2
        refine ⟨j + 1, rfl, rfl, ⟨by omega, fun y hy => ?_⟩, by omega⟩
        rw [List.take_add_one, hc] at hy
        rcases List.mem_append.1 hy with hy | hy
        · exact hall y hy
        · simp at hy; rw [hy]; exact h2
    · rename_i h
      rw [List.take_of_length_le (by omega)] at hall
      rw [inI, inC_no hall]
      exact ⟨rfl, rfl⟩
theorem curCheck_ok (c : Cursor) (dn : DV) (hdn : isDone dn c.done) (h : curMay c) : ACalls Try.prog 22 [.agg [.d (.int .i64 c.round), .d dn, .d (.int .i64 c.count)]] [] (fun av L => av = .d (.int .i64 0) ∧ L = []) := by
  have hm := curMay_ok c dn hdn h
  refine acalls_go ttOk zOk foOk Try.func22 rfl Try.ntmps22 rfl false rfl ?_
  conv => whnf
  refine hm.mono ?_
  rintro _ _ ⟨rfl, rfl⟩
  conv => whnf
  exact ⟨rfl, rfl⟩
end Go.Proofs.Ytoeppembokpjkaa
