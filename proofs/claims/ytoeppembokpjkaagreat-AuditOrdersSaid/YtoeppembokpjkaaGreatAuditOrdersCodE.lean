/- Part of the proof of AuditOrders: the contracts of the functions. -/
import Derived.Test.YtoeppembokpjkaaGreatAuditOrdersCodD

set_option linter.unusedVariables false
set_option linter.unusedSimpArgs false
namespace Go.Proofs.YtoeppembokpjkaaGreat
open Go.Ab Go.RowKit Go.MapKept
attribute [local irreducible] ACalls AW ADraw Into fltB fnear
set_option maxRecDepth 100000
/-! ## the page's anchors, votes, and what is settled -/
theorem rLeader_ok (n r : Int) (hn : 0 < n ∧ n ≤ 16) (hr : 2 ≤ r ∧ r ≤ 1099511627777) : ACalls Tryz.prog 99 [.d (.int .i64 n), .d (.int .i64 r)] [] (fun av L => av = .d (.int .i64 (leadI n r)) ∧ L = []) := by
  have h1 := Int.emod_nonneg (r / 2 - 1) (show n ≠ 0 by omega)
  have h2 := Int.emod_lt_of_pos (r / 2 - 1) hn.1
  refine acalls_go ttOk zOk foOk Tryz.func99 rfl Tryz.ntmps99 rfl false rfl ?_
  conv => whnf
  refine ⟨by decide, ?_⟩
  intro z hz
  have : z = r / 2 := by rw [hz, Int.tdiv_eq_ediv_of_nonneg (by omega), wrapI (by omega)]
  clear hz
  subst this
  conv => whnf
  ((with_reducible apply z_wrap); (focus omega); (conv => whnf))
  refine ⟨by omega, ?_⟩
  intro z hz
  have : z = (r / 2 - 1) % n := by rw [hz, Int.tmod_eq_emod_of_nonneg (by omega)]
  clear hz
  subst this
  conv => whnf
  ((with_reducible apply z_wrap); (focus omega); (conv => whnf))
  exact ⟨rfl, rfl⟩
theorem rFew_ok (n : Int) (hn : 0 < n ∧ n ≤ 16) : ACalls Tryz.prog 98 [.d (.int .i64 n)] [] (fun av L => av = .d (.int .i64 (n / 3 + 1)) ∧ L = []) := by
  refine acalls_go ttOk zOk foOk Tryz.func98 rfl Tryz.ntmps98 rfl false rfl ?_
  conv => whnf
  refine ⟨by decide, ?_⟩
  intro z hz
  have : z = n / 3 := by rw [hz, Int.tdiv_eq_ediv_of_nonneg (by omega), wrapI (by omega)]
  clear hz
  subst this
  conv => whnf
  ((with_reducible apply z_wrap); (focus omega); (conv => whnf))
  exact ⟨rfl, rfl⟩
def atX (l : List Cert) (r a : Int) : Option Nat := l.findIdx? fun c => decide (c.round = r ∧ c.author = a)
def atI (l : List Cert) (r a : Int) : Int := (atX l r a).elim (-1) fun i => (i : Int)
theorem atX_no {l : List Cert} {r a : Int} (h : ∀ c ∈ l, ¬ (c.round = r ∧ c.author = a)) : atX l r a = none := by
  unfold atX
  rw [List.findIdx?_eq_none_iff]
  intro c hc
  simpa using h c hc
theorem atX_here {l : List Cert} {r a : Int} {j : Nat} {c : Cert} (hc : l[j]? = some c) (hx : c.round = r ∧ c.author = a) (h : ∀ c ∈ l.take j, ¬ (c.round = r ∧ c.author = a)) : atX l r a = some j := by
  unfold atX
  rw [List.findIdx?_eq_some_iff_getElem]
  obtain ⟨hj, rfl⟩ := List.getElem?_eq_some_iff.1 hc
  refine ⟨hj, by simpa using hx, fun i hi => ?_⟩
  have := h l[i] (List.mem_take_iff_getElem.2 ⟨i, by omega, rfl⟩)
  simpa using this
theorem atC_of {l : List Cert} {r a : Int} : atC l r a = (atX l r a).bind fun i => l[i]? := by
  unfold atC atX
  induction l with
  | nil => rfl
  | cons c l ih =>
    rw [List.find?_cons, List.findIdx?_cons]
    cases hc : decide (c.round = r ∧ c.author = a) with
    | true => rfl
    | false =>
      rw [if_neg Bool.false_ne_true, ih]
      cases List.findIdx? (fun c => decide (c.round = r ∧ c.author = a)) l with
      | none => rfl
      | some i => rfl
theorem rAt_ok (d : Dag) (hd : few d.certs) (r a : Int) : ACalls Tryz.prog 86 [d.av, .d (.int .i64 r), .d (.int .i64 a)] [] (fun av L => av = .d (.int .i64 (atI d.certs r a)) ∧ L = []) := by
  have hcl := certsD_length d.certs
  unfold few at hd
  refine acalls_go ttOk zOk foOk Tryz.func86 rfl Tryz.ntmps86 rfl false rfl ?_
  conv => whnf
  refine loop_go ttOk zOk foOk (σ := Nat) (fun j => ([(1, .d (.int .i64 r)), (2, .d (.int .i64 a)), (3, .ptr 0 0), (7, .d (.int .i64 j))], [.cells d.cells])) (fun j => j ≤ d.certs.length ∧ ∀ c ∈ d.certs.take j, ¬ (c.round = r ∧ c.author = a)) (fun j => d.certs.length - j) [1, 2, 3, 7] ?_ ?_
  · conv => whnf
    exact ⟨0, rfl, rfl, Nat.zero_le _, by simp⟩
  · rintro j ⟨hj, hall⟩
    conv => whnf
    rw [hcl]
    repeat' (first | ((with_reducible apply rd_intro); (focus (intro K hK; (conv => whnf); first | exact hK | (intro z hz; rw [wrapI (by omega)] at hz; subst hz; exact hK))); (conv => whnf)) | ((with_reducible apply gd_and); (focus ((conv => whnf) <;> first | rfl | (intro K hK; (conv => whnf); first | exact hK | (intro z hz; rw [wrapI (by omega)] at hz; subst hz; exact hK)))); (conv => whnf)) | ((with_reducible apply z_wrap); (focus omega); (conv => whnf)) | ((with_reducible first | apply mt_dec | apply mt_eq | apply mt_ne | apply mt_not | apply mt_any) <;> (intro _; conv => whnf)))
    · rename_i h
      refine Exists.elim (⟨_, List.getElem?_eq_getElem (by omega)⟩ : ∃ c, d.certs[j]? = some c) fun c hc => ?_
      have hon : ¬ (c.round = r ∧ c.author = a) → ∀ y ∈ d.certs.take (j + 1), ¬ (y.round = r ∧ y.author = a) := by
        intro hn y hy
        rw [List.take_add_one, hc] at hy
        rcases List.mem_append.1 hy with hy | hy
        · exact hall y hy
        · simp at hy; rw [hy]; exact hn
      refine ⟨by omega, c.cs, certsD_at hc, ?_⟩
      conv => whnf
      repeat' (first | ((with_reducible apply rd_intro); (focus (intro K hK; (conv => whnf); first | exact hK | (intro z hz; rw [wrapI (by omega)] at hz; subst hz; exact hK))); (conv => whnf)) | ((with_reducible apply gd_and); (focus ((conv => whnf) <;> first | rfl | (intro K hK; (conv => whnf); first | exact hK | (intro z hz; rw [wrapI (by omega)] at hz; subst hz; exact hK)))); (conv => whnf)) | ((with_reducible apply z_wrap); (focus omega); (conv => whnf)) | ((with_reducible first | apply mt_dec | apply mt_eq | apply mt_ne | apply mt_not | apply mt_any) <;> (intro _; conv => whnf)))
      · rename_i h1
        refine ⟨by omega, c.cs, certsD_at hc, ?_⟩
        conv => whnf
        repeat' (first | ((with_reducible apply rd_intro); (focus (intro K hK; (conv => whnf); first | exact hK | (intro z hz; rw [wrapI (by omega)] at hz; subst hz; exact hK))); (conv => whnf)) | ((with_reducible apply gd_and); (focus ((conv => whnf) <;> first | rfl | (intro K hK; (conv => whnf); first | exact hK | (intro z hz; rw [wrapI (by omega)] at hz; subst hz; exact hK)))); (conv => whnf)) | ((with_reducible apply z_wrap); (focus omega); (conv => whnf)) | ((with_reducible first | apply mt_dec | apply mt_eq | apply mt_ne | apply mt_not | apply mt_any) <;> (intro _; conv => whnf)))
        · rename_i h2
          rw [atI, atX_here hc ⟨h1, h2⟩ hall]
          exact ⟨rfl, rfl⟩
        · rename_i h2
          exact ⟨j + 1, rfl, rfl, ⟨by omega, hon fun h => h2 h.2⟩, by omega⟩
      · rename_i h1
        exact ⟨j + 1, rfl, rfl, ⟨by omega, hon fun h => h1 h.1⟩, by omega⟩
    · rename_i h
      rw [List.take_of_length_le (by omega)] at hall
      rw [atI, atX_no hall]
      exact ⟨rfl, rfl⟩
theorem rAnchor_ok (d : Dag) (hd : few d.certs) (hn : 0 < d.nodes ∧ d.nodes ≤ 16) (r : Int) (hr : 2 ≤ r ∧ r ≤ 1099511627777) : ACalls Tryz.prog 74 [d.av, .d (.int .i64 r)] [] (fun av L => av = .d (.int .i64 (anchorI d r)) ∧ L = []) := by
  have hcl := certsD_length d.certs
  have hat := rAt_ok d hd r (leadI d.nodes r)
  unfold few at hd
  obtain ⟨a, hla⟩ : ∃ a, leadI d.nodes r = a := ⟨_, rfl⟩
  have hle := rLeader_ok d.nodes r hn hr
  rw [hla] at hle hat
  rw [anchorI, hla, atC_of]
  unfold atI at hat
  refine acalls_go ttOk zOk foOk Tryz.func74 rfl Tryz.ntmps74 rfl false rfl ?_
  conv => whnf
  cases hx : atX d.certs r a with
  | none =>
    rw [hx] at hat
    ((with_reducible refine draw_pl ttOk zOk foOk mixedOk pl74x1 ?_ ?_); (focus kernel_rfl); (conv => whnf))
    repeat' (first | ((with_reducible apply rd_intro); (focus (intro K hK; (conv => whnf); first | exact hK | (intro z hz; rw [wrapI (by omega)] at hz; subst hz; exact hK))); (conv => whnf)) | ((with_reducible apply gd_and); (focus ((conv => whnf) <;> first | rfl | (intro K hK; (conv => whnf); first | exact hK | (intro z hz; rw [wrapI (by omega)] at hz; subst hz; exact hK)))); (conv => whnf)) | ((with_reducible apply z_wrap); (focus omega); (conv => whnf)) | ((with_reducible first | apply mt_dec | apply mt_eq | apply mt_ne | apply mt_not | apply mt_any) <;> (intro _; conv => whnf)))
    refine hle.mono ?_
    rintro _ _ ⟨rfl, rfl⟩
    conv => whnf
    repeat' (first | ((with_reducible apply rd_intro); (focus (intro K hK; (conv => whnf); first | exact hK | (intro z hz; rw [wrapI (by omega)] at hz; subst hz; exact hK))); (conv => whnf)) | ((with_reducible apply gd_and); (focus ((conv => whnf) <;> first | rfl | (intro K hK; (conv => whnf); first | exact hK | (intro z hz; rw [wrapI (by omega)] at hz; subst hz; exact hK)))); (conv => whnf)) | ((with_reducible apply z_wrap); (focus omega); (conv => whnf)) | ((with_reducible first | apply mt_dec | apply mt_eq | apply mt_ne | apply mt_not | apply mt_any) <;> (intro _; conv => whnf)))
    refine hat.mono ?_
    rintro _ _ ⟨rfl, rfl⟩
    conv => whnf
    repeat' (first | ((with_reducible apply rd_intro); (focus (intro K hK; (conv => whnf); first | exact hK | (intro z hz; rw [wrapI (by omega)] at hz; subst hz; exact hK))); (conv => whnf)) | ((with_reducible apply gd_and); (focus ((conv => whnf) <;> first | rfl | (intro K hK; (conv => whnf); first | exact hK | (intro z hz; rw [wrapI (by omega)] at hz; subst hz; exact hK)))); (conv => whnf)) | ((with_reducible apply z_wrap); (focus omega); (conv => whnf)) | ((with_reducible first | apply mt_dec | apply mt_eq | apply mt_ne | apply mt_not | apply mt_any) <;> (intro _; conv => whnf)))
    · exact ⟨rfl, rfl⟩
  | some i =>
    simp only [hx, Option.elim] at hat
    have hi := (List.findIdx?_eq_some_iff_getElem.1 hx).1
    refine Exists.elim (⟨_, List.getElem?_eq_getElem hi⟩ : ∃ c, d.certs[i]? = some c) fun c hc => ?_
    rw [show ((some i).bind fun i => d.certs[i]?) = some c from hc]
    ((with_reducible refine draw_pl ttOk zOk foOk mixedOk pl74x1 ?_ ?_); (focus kernel_rfl); (conv => whnf))
    repeat' (first | ((with_reducible apply rd_intro); (focus (intro K hK; (conv => whnf); first | exact hK | (intro z hz; rw [wrapI (by omega)] at hz; subst hz; exact hK))); (conv => whnf)) | ((with_reducible apply gd_and); (focus ((conv => whnf) <;> first | rfl | (intro K hK; (conv => whnf); first | exact hK | (intro z hz; rw [wrapI (by omega)] at hz; subst hz; exact hK)))); (conv => whnf)) | ((with_reducible apply z_wrap); (focus omega); (conv => whnf)) | ((with_reducible first | apply mt_dec | apply mt_eq | apply mt_ne | apply mt_not | apply mt_any) <;> (intro _; conv => whnf)))
    refine hle.mono ?_
    rintro _ _ ⟨rfl, rfl⟩
    conv => whnf
    repeat' (first | ((with_reducible apply rd_intro); (focus (intro K hK; (conv => whnf); first | exact hK | (intro z hz; rw [wrapI (by omega)] at hz; subst hz; exact hK))); (conv => whnf)) | ((with_reducible apply gd_and); (focus ((conv => whnf) <;> first | rfl | (intro K hK; (conv => whnf); first | exact hK | (intro z hz; rw [wrapI (by omega)] at hz; subst hz; exact hK)))); (conv => whnf)) | ((with_reducible apply z_wrap); (focus omega); (conv => whnf)) | ((with_reducible first | apply mt_dec | apply mt_eq | apply mt_ne | apply mt_not | apply mt_any) <;> (intro _; conv => whnf)))
    refine hat.mono ?_
    rintro _ _ ⟨rfl, rfl⟩
    conv => whnf
    repeat' (first | ((with_reducible apply rd_intro); (focus (intro K hK; (conv => whnf); first | exact hK | (intro z hz; rw [wrapI (by omega)] at hz; subst hz; exact hK))); (conv => whnf)) | ((with_reducible apply gd_and); (focus ((conv => whnf) <;> first | rfl | (intro K hK; (conv => whnf); first | exact hK | (intro z hz; rw [wrapI (by omega)] at hz; subst hz; exact hK)))); (conv => whnf)) | ((with_reducible apply z_wrap); (focus omega); (conv => whnf)) | ((with_reducible first | apply mt_dec | apply mt_eq | apply mt_ne | apply mt_not | apply mt_any) <;> (intro _; conv => whnf)))
    refine ⟨by omega, c.cs, certsD_at hc, ?_⟩
    conv => whnf
    exact ⟨rfl, rfl⟩
theorem rVotes_ok (d : Dag) (hd : few d.certs) (hn : 0 < d.nodes ∧ d.nodes ≤ 16) (hp : fewC d) (r : Int) (hr : 2 ≤ r ∧ r ≤ 1099511627776) : ACalls Tryz.prog 97 [d.av, .d (.int .i64 r)] [] (fun av L => av = .d (.int .i64 (votes d r)) ∧ L = []) := by
  have hcl := certsD_length d.certs
  have han := rAnchor_ok d hd hn r ⟨hr.1, by omega⟩
  unfold few at hd
  obtain ⟨a, ha⟩ : ∃ a, anchorI d r = a := ⟨_, rfl⟩
  rw [ha] at han
  have hv : ∀ l : List Cert, ((ofR l (r + 1)).filter fun c => decide (a > 0 ∧ a ∈ c.pars)) = l.filter fun c => decide (a > 0 ∧ a ∈ c.pars) && decide (c.round = r + 1) := by
    intro l; rw [ofR, List.filter_filter]
  rw [votes, ha, hv]
  refine acalls_go ttOk zOk foOk Tryz.func97 rfl Tryz.ntmps97 rfl false rfl ?_
  conv => whnf
  refine han.mono ?_
  rintro _ _ ⟨rfl, rfl⟩
  conv => whnf
  refine loop_go ttOk zOk foOk (σ := Nat) (fun j => ([(1, .d (.int .i64 r)), (2, .ptr 0 0), (5, .d (.int .i64 a)), (6, .d (.int .i64 (((d.certs.take j).filter fun c => decide (a > 0 ∧ a ∈ c.pars) && decide (c.round = r + 1)).length : Nat))), (7, .d (.int .i64 j))], [.cells d.cells])) (fun j => j ≤ d.certs.length) (fun j => d.certs.length - j) [1, 2, 5, 6, 7] ?_ ?_
  · conv => whnf
    exact ⟨0, rfl, rfl, Nat.zero_le _⟩
  · intro j hj
    have hlen : ((d.certs.take j).filter fun c => decide (a > 0 ∧ a ∈ c.pars) && decide (c.round = r + 1)).length ≤ j := by
      have h1 := List.length_filter_le (fun c : Cert => decide (a > 0 ∧ a ∈ c.pars) && decide (c.round = r + 1)) (d.certs.take j)
      rw [List.length_take] at h1
      omega
    conv => whnf
    rw [hcl]
    repeat' (first | ((with_reducible apply rd_intro); (focus (intro K hK; (conv => whnf); first | exact hK | (intro z hz; rw [wrapI (by omega)] at hz; subst hz; exact hK))); (conv => whnf)) | ((with_reducible apply gd_and); (focus ((conv => whnf) <;> first | rfl | (intro K hK; (conv => whnf); first | exact hK | (intro z hz; rw [wrapI (by omega)] at hz; subst hz; exact hK)))); (conv => whnf)) | ((with_reducible apply z_wrap); (focus omega); (conv => whnf)) | ((with_reducible first | apply mt_dec | apply mt_eq | apply mt_ne | apply mt_not | apply mt_any) <;> (intro _; conv => whnf)))
    · rename_i h ha0
      refine Exists.elim (⟨_, List.getElem?_eq_getElem (by omega)⟩ : ∃ c, d.certs[j]? = some c) fun c hc => ?_
      refine ⟨by omega, c.cs, certsD_at hc, ?_⟩
      conv => whnf
      repeat' (first | ((with_reducible apply rd_intro); (focus (intro K hK; (conv => whnf); first | exact hK | (intro z hz; rw [wrapI (by omega)] at hz; subst hz; exact hK))); (conv => whnf)) | ((with_reducible apply gd_and); (focus ((conv => whnf) <;> first | rfl | (intro K hK; (conv => whnf); first | exact hK | (intro z hz; rw [wrapI (by omega)] at hz; subst hz; exact hK)))); (conv => whnf)) | ((with_reducible apply z_wrap); (focus omega); (conv => whnf)) | ((with_reducible first | apply mt_dec | apply mt_eq | apply mt_ne | apply mt_not | apply mt_any) <;> (intro _; conv => whnf)))
      · rename_i h1
        refine ⟨by omega, c.cs, certsD_at hc, ?_⟩
        conv => whnf
        repeat' (first | ((with_reducible apply rd_intro); (focus (intro K hK; (conv => whnf); first | exact hK | (intro z hz; rw [wrapI (by omega)] at hz; subst hz; exact hK))); (conv => whnf)) | ((with_reducible apply gd_and); (focus ((conv => whnf) <;> first | rfl | (intro K hK; (conv => whnf); first | exact hK | (intro z hz; rw [wrapI (by omega)] at hz; subst hz; exact hK)))); (conv => whnf)) | ((with_reducible apply z_wrap); (focus omega); (conv => whnf)) | ((with_reducible first | apply mt_dec | apply mt_eq | apply mt_ne | apply mt_not | apply mt_any) <;> (intro _; conv => whnf)))
        refine (in_ok c.pars (hp c (List.mem_of_getElem? hc)) a).mono ?_
        rintro _ _ ⟨rfl, rfl⟩
        conv => whnf
        repeat' (first | ((with_reducible apply rd_intro); (focus (intro K hK; (conv => whnf); first | exact hK | (intro z hz; rw [wrapI (by omega)] at hz; subst hz; exact hK))); (conv => whnf)) | ((with_reducible apply gd_and); (focus ((conv => whnf) <;> first | rfl | (intro K hK; (conv => whnf); first | exact hK | (intro z hz; rw [wrapI (by omega)] at hz; subst hz; exact hK)))); (conv => whnf)) | ((with_reducible apply z_wrap); (focus omega); (conv => whnf)) | ((with_reducible first | apply mt_dec | apply mt_eq | apply mt_ne | apply mt_not | apply mt_any) <;> (intro _; conv => whnf)))
        · rename_i h2
          have h2' : a ∈ c.pars := inI_iff.1 h2
          refine ⟨j + 1, ?_, rfl, by omega, by omega⟩
          rw [List.take_add_one, hc]
          simp only [Option.toList_some, List.filter_append, List.length_append, List.filter_cons, h1, h2', ha0]
          rfl
        · rename_i h2
          have h2' : ¬ a ∈ c.pars := fun h => h2 (inI_iff.2 h)
          refine ⟨j + 1, ?_, rfl, by omega, by omega⟩
          rw [List.take_add_one, hc]
          simp only [Option.toList_some, List.filter_append, List.length_append, List.filter_cons, h2', and_false, decide_false, Bool.false_and]
          rfl
      · rename_i h1
        refine ⟨j + 1, ?_, rfl, by omega, by omega⟩
        rw [List.take_add_one, hc]
        simp only [Option.toList_some, List.filter_append, List.length_append, List.filter_cons, h1, decide_false, Bool.and_false]
        rfl
    · rename_i h ha0
      have e : ∀ l : List Cert, (l.filter fun c => decide (a > 0 ∧ a ∈ c.pars) && decide (c.round = r + 1)) = [] := fun l => List.filter_eq_nil_iff.2 fun c _ => by simp [ha0]
      rw [e, e]
      exact ⟨rfl, rfl⟩
    · rename_i h
      rw [List.take_of_length_le (by omega)]
      exact ⟨rfl, rfl⟩
theorem rDirect_ok (d : Dag) (hd : few d.certs) (hn : 0 < d.nodes ∧ d.nodes ≤ 16) (h3 : d.nodes % 3 = 1) (hp : fewC d) (r : Int) (hr : 2 ≤ r ∧ r ≤ 1099511627776) : ACalls Tryz.prog 73 [d.av, .d (.int .i64 r)] [] (fun av L => av = .d (.bool (settled d r)) ∧ L = []) := by
  have han := rAnchor_ok d hd hn r ⟨hr.1, by omega⟩
  have hvo := rVotes_ok d hd hn hp r hr
  have hfe := rFew_ok d.nodes hn
  have hv0 : ¬ anchorI d r > 0 → votes d r = 0 := by
    intro h
    unfold votes
    rw [List.filter_eq_nil_iff.2 fun c _ => by simp [h]]; rfl
  refine acalls_go ttOk zOk foOk Tryz.func73 rfl Tryz.ntmps73 rfl false rfl ?_
  conv => whnf
  ((with_reducible refine draw_pl ttOk zOk foOk mixedOk pl73x1 ?_ ?_); (focus kernel_rfl); (conv => whnf))
  repeat' (first | ((with_reducible apply rd_intro); (focus (intro K hK; (conv => whnf); first | exact hK | (intro z hz; rw [wrapI (by omega)] at hz; subst hz; exact hK))); (conv => whnf)) | ((with_reducible apply gd_and); (focus ((conv => whnf) <;> first | rfl | (intro K hK; (conv => whnf); first | exact hK | (intro z hz; rw [wrapI (by omega)] at hz; subst hz; exact hK)))); (conv => whnf)) | ((with_reducible apply z_wrap); (focus omega); (conv => whnf)) | ((with_reducible first | apply mt_dec | apply mt_eq | apply mt_ne | apply mt_not | apply mt_any) <;> (intro _; conv => whnf)))
  refine han.mono ?_
  rintro _ _ ⟨rfl, rfl⟩
  conv => whnf
  repeat' (first | ((with_reducible apply rd_intro); (focus (intro K hK; (conv => whnf); first | exact hK | (intro z hz; rw [wrapI (by omega)] at hz; subst hz; exact hK))); (conv => whnf)) | ((with_reducible apply gd_and); (focus ((conv => whnf) <;> first | rfl | (intro K hK; (conv => whnf); first | exact hK | (intro z hz; rw [wrapI (by omega)] at hz; subst hz; exact hK)))); (conv => whnf)) | ((with_reducible apply z_wrap); (focus omega); (conv => whnf)) | ((with_reducible first | apply mt_dec | apply mt_eq | apply mt_ne | apply mt_not | apply mt_any) <;> (intro _; conv => whnf)))
  · refine hvo.mono ?_
    rintro _ _ ⟨rfl, rfl⟩
    conv => whnf
    repeat' (first | ((with_reducible apply rd_intro); (focus (intro K hK; (conv => whnf); first | exact hK | (intro z hz; rw [wrapI (by omega)] at hz; subst hz; exact hK))); (conv => whnf)) | ((with_reducible apply gd_and); (focus ((conv => whnf) <;> first | rfl | (intro K hK; (conv => whnf); first | exact hK | (intro z hz; rw [wrapI (by omega)] at hz; subst hz; exact hK)))); (conv => whnf)) | ((with_reducible apply z_wrap); (focus omega); (conv => whnf)) | ((with_reducible first | apply mt_dec | apply mt_eq | apply mt_ne | apply mt_not | apply mt_any) <;> (intro _; conv => whnf)))
    refine hfe.mono ?_
    rintro _ _ ⟨rfl, rfl⟩
    conv => whnf
    repeat' (first | ((with_reducible apply rd_intro); (focus (intro K hK; (conv => whnf); first | exact hK | (intro z hz; rw [wrapI (by omega)] at hz; subst hz; exact hK))); (conv => whnf)) | ((with_reducible apply gd_and); (focus ((conv => whnf) <;> first | rfl | (intro K hK; (conv => whnf); first | exact hK | (intro z hz; rw [wrapI (by omega)] at hz; subst hz; exact hK)))); (conv => whnf)) | ((with_reducible apply z_wrap); (focus omega); (conv => whnf)) | ((with_reducible first | apply mt_dec | apply mt_eq | apply mt_ne | apply mt_not | apply mt_any) <;> (intro _; conv => whnf)))
    exact ⟨boolEq (by unfold settled; rw [decide_eq_true_iff, decide_eq_true_iff]; omega), rfl⟩
  · rename_i h0
    refine ⟨?_, rfl⟩
    rw [settled, hv0 h0, decide_eq_false (by omega)]
    rfl
end Go.Proofs.YtoeppembokpjkaaGreat

namespace Go.Proofs.YtoeppembokpjkaaGreat
open Go.Ab Go.RowKit
/-! ## what lies below a certificate -/
theorem mem_addS {x : Int} : ∀ {ps ks : List Int}, x ∈ addS ks ps ↔ x ∈ ks ∨ x ∈ ps
  | [], ks => by simp [addS]
  | p :: ps, ks => by
    show x ∈ addS (insS ks p) ps ↔ _
    rw [mem_addS, mem_insS, List.mem_cons]
    constructor
    · rintro ((h | h) | h)
      · exact .inl h
      · exact .inr (.inl h)
      · exact .inr (.inr h)
    · rintro (h | h | h)
      · exact .inl (.inl h)
      · exact .inl (.inr h)
      · exact .inr h
def desc (l : List Cert) : Prop := l.Pairwise fun x y => y.round ≤ x.round
theorem downL_low {dl low : Int} : ∀ {l : List Cert} {ks : List Int}, (∀ c ∈ l, c.round ≤ low) → downL dl low l ks = []
  | [], _, _ => rfl
  | c :: r, ks, h => by rw [downL, if_pos (h c (by simp))]
theorem downL_skip {dl low : Int} : ∀ {l1 l2 : List Cert} {ks : List Int}, desc (l1 ++ l2) → (∀ c ∈ l1, c.digest ∉ ks) → downL dl low (l1 ++ l2) ks = downL dl low l2 ks
  | [], _, _, _, _ => rfl
  | c :: r, l2, ks, hd, h => by
    have hd' := List.pairwise_cons.1 hd
    rw [List.cons_append, downL]
    by_cases h1 : c.round ≤ low
    · rw [if_pos h1, downL_low]
      intro y hy
      have := hd'.1 y (List.mem_append_right _ hy)
      omega
    · rw [if_neg h1, if_neg (h c (by simp))]
      exact downL_skip hd'.2 fun y hy => h y (by simp [hy])
theorem desc_rev {l : List Cert} (h : sortedC l) : desc l.reverse := by
  unfold desc
  rw [List.pairwise_reverse]
  exact h.imp fun h => by have := before_iff.1 h; omega
theorem dig_at {d : Dag} (hd : (d.certs.map (·.digest)).Nodup) {i : Nat} {c : Cert} (h : d.certs[i]? = some c) : ∀ x ∈ d.certs.drop (i + 1), x.digest ≠ c.digest := by
  intro x hx e
  obtain ⟨hi, rfl⟩ := List.getElem?_eq_some_iff.1 h
  have h1 : d.certs = d.certs.take (i + 1) ++ d.certs.drop (i + 1) := (List.take_append_drop ..).symm
  rw [h1, List.map_append, List.nodup_append] at hd
  exact hd.2.2 d.certs[i].digest (List.mem_map.2 ⟨d.certs[i], List.mem_take_iff_getElem.2 ⟨i, by omega, rfl⟩, rfl⟩) x.digest (List.mem_map.2 ⟨x, hx, rfl⟩) e.symm
theorem downI_eq {d : Dag} (hs : sortedC d.certs) (hd : (d.certs.map (·.digest)).Nodup) {i : Nat} {c : Cert} (h : d.certs[i]? = some c) (low : Int) : downI d i low = downL d.low low d.certs.reverse [c.digest] := by
  unfold downI
  rw [h]
  have e : d.certs.reverse = (d.certs.drop (i + 1)).reverse ++ (d.certs.take (i + 1)).reverse := by
    rw [← List.reverse_append, List.take_append_drop]
  have hdsc := desc_rev hs
  rw [e] at hdsc ⊢
  rw [downL_skip hdsc]
  · rfl
  · intro x hx
    have := dig_at hd h x (List.mem_reverse.1 hx)
    simpa using this
/-- certificates that are no one's below do not matter -/
theorem downL_filter {dl low : Int} (S : Int → Bool) : ∀ {l : List Cert} {ks : List Int}, (∀ k ∈ ks, S k = true) → (∀ c ∈ l, S c.digest = true → c.round > dl + 1 → ∀ x ∈ c.pars, S x = true) → desc l → downL dl low l ks = downL dl low (l.filter fun c => S c.digest) ks
  | [], _, _, _, _ => rfl
  | c :: r, ks, hk, hc, hd => by
    have hd' := List.pairwise_cons.1 hd
    by_cases h1 : c.round ≤ low
    · rw [downL_low, downL_low]
      · intro y hy
        rcases List.mem_cons.1 (List.mem_filter.1 hy).1 with rfl | hy
        · exact h1
        · have := hd'.1 y hy; omega
      · intro y hy
        rcases List.mem_cons.1 hy with rfl | hy
        · exact h1
        · have := hd'.1 y hy; omega
    · have hr : ∀ y ∈ r, S y.digest = true → y.round > dl + 1 → ∀ x ∈ y.pars, S x = true := fun y hy => hc y (by simp [hy])
      cases hS : S c.digest with
      | false =>
        rw [List.filter_cons, hS]
        rw [downL, if_neg h1, if_neg (fun h => by rw [hk _ h] at hS; cases hS)]
        exact downL_filter S hk hr hd'.2
      | true =>
        rw [List.filter_cons, hS, if_pos rfl, downL, downL, if_neg h1, if_neg h1]
        by_cases h2 : c.digest ∈ ks
        · rw [if_pos h2, if_pos h2]
          congr 1
          refine downL_filter S ?_ hr hd'.2
          split
          · rename_i h3
            intro k hk'
            rcases mem_addS.1 hk' with h4 | h4
            · exact hk k h4
            · exact hc c (by simp) hS h3 k h4
          · exact hk
        · rw [if_neg h2, if_neg h2]
          exact downL_filter S hk hr hd'.2
/-- a certificate's ancestors -/
inductive Anc (d : Dag) (x : Cert) : Cert → Prop
  | refl : Anc d x x
  | step {z y : Cert} : Anc d x z → z.round > d.low + 1 → y ∈ d.certs → y.digest ∈ z.pars → y.round < z.round → Anc d x y
theorem Anc.cons {d : Dag} {x p y : Cert} (hx : x.round > d.low + 1) (hp : p ∈ d.certs) (hxp : p.digest ∈ x.pars) (hr : p.round < x.round) (h : Anc d p y) : Anc d x y := by
  induction h with
  | refl => exact .step .refl hx hp hxp hr
  | step _ h1 h2 h3 h4 ih => exact .step ih h1 h2 h3 h4
end Go.Proofs.YtoeppembokpjkaaGreat

namespace Go.Proofs.YtoeppembokpjkaaGreat
open Go.Ab Go.RowKit
/-! ## a part of a DAG -/
structure Sub (A D : Dag) : Prop where
  va : Valid A
  vd : Valid D
  la : A.low = 0
  ld : D.low = 0
  nodes : A.nodes = D.nodes
  sub : A.certs.Sublist D.certs
theorem place_inj {l : List Cert} (hs : sortedC l) {x y : Cert} (hx : x ∈ l) (hy : y ∈ l) (hr : x.round = y.round) (ha : x.author = y.author) : x = y := by
  obtain ⟨i, hi⟩ := List.getElem?_of_mem hx
  obtain ⟨j, hj⟩ := List.getElem?_of_mem hy
  obtain ⟨hi', rfl⟩ := List.getElem?_eq_some_iff.1 hi
  obtain ⟨hj', rfl⟩ := List.getElem?_eq_some_iff.1 hj
  rcases Nat.lt_trichotomy i j with h | h | h
  · have := before_iff.1 (List.pairwise_iff_getElem.1 hs i j hi' hj' h); omega
  · subst h; rfl
  · have := before_iff.1 (List.pairwise_iff_getElem.1 hs j i hj' hi' h); omega
theorem atC_some {l : List Cert} (hs : sortedC l) {r a : Int} {c : Cert} : atC l r a = some c ↔ c ∈ l ∧ c.round = r ∧ c.author = a := by
  constructor
  · intro h
    have h1 := List.find?_some h
    simp only [decide_eq_true_eq] at h1
    exact ⟨List.mem_of_find?_eq_some h, h1⟩
  · rintro ⟨h1, h2, h3⟩
    cases hc : atC l r a with
    | none =>
      unfold atC at hc
      rw [List.find?_eq_none] at hc
      have := hc c h1
      simp [h2, h3] at this
    | some c' =>
      have h4 := List.find?_some hc
      simp only [decide_eq_true_eq] at h4
      rw [place_inj hs h1 (List.mem_of_find?_eq_some hc) (by omega) (by omega)]
theorem sub_filter {l m : List Cert} (h : l.Sublist m) (hn : (m.map (·.digest)).Nodup) : l = m.filter fun c => decide (c.digest ∈ l.map (·.digest)) := by
  induction h with
  | slnil => rfl
  | @cons l m x h ih =>
    have hn' := List.nodup_cons.1 hn
    have hx : x.digest ∉ l.map (·.digest) := fun hx => hn'.1 ((h.map _).subset hx)
    rw [List.filter_cons, if_neg (by simpa using hx)]
    exact ih hn'.2
  | @cons_cons l m x h ih =>
    have hn' := List.nodup_cons.1 hn
    rw [List.filter_cons, if_pos (by simp)]
    congr 1
    refine (ih hn'.2).trans (List.filter_congr fun c hc => ?_)
    have : c.digest ≠ x.digest := fun e => hn'.1 (List.mem_map.2 ⟨c, hc, e⟩)
    simp [this]
theorem Sub.mem {A D : Dag} (h : Sub A D) {c : Cert} (hc : c ∈ A.certs) : c ∈ D.certs := h.sub.subset hc
theorem Sub.cert {A D : Dag} (h : Sub A D) {x : Int} {c : Cert} (hc : certOf A x = some c) : certOf D x = some c := by
  obtain ⟨h1, rfl, _⟩ := certOf_some hc
  exact certOf_mem h.vd.dig (h.mem h1)
/-- what lies below a certificate of the part is the same in the whole -/
theorem Sub.down {A D : Dag} (h : Sub A D) {i j : Nat} {c : Cert} (hi : A.certs[i]? = some c) (hj : D.certs[j]? = some c) (low : Int) : downI A i low = downI D j low := by
  rw [downI_eq h.va.sorted h.va.dig hi, downI_eq h.vd.sorted h.vd.dig hj, h.la, h.ld]
  have hf := sub_filter h.sub h.vd.dig
  have hmem : ∀ {y : Cert}, y ∈ D.certs → y.digest ∈ A.certs.map (·.digest) → y ∈ A.certs := by
    intro y hy hy2
    obtain ⟨z, hz, e⟩ := List.mem_map.1 hy2
    rw [← dig_inj h.vd.dig (h.mem hz) hy e]; exact hz
  have h1 := downL_filter (dl := 0) (low := low) (fun x => decide (x ∈ A.certs.map (·.digest))) (l := D.certs.reverse) (ks := [c.digest]) (fun k hk => by
      simp only [List.mem_singleton] at hk
      rw [hk, decide_eq_true_eq]
      exact List.mem_map.2 ⟨c, List.mem_of_getElem? hi, rfl⟩) (fun y hy hy2 hyr x hx => by
      have hyA := hmem (List.mem_reverse.1 hy) (of_decide_eq_true hy2)
      obtain ⟨c', h3, h4, _⟩ := h.va.here y hyA (by rw [h.la]; exact hyr) x hx
      exact decide_eq_true (List.mem_map.2 ⟨c', h3, h4⟩)) (desc_rev h.vd.sorted)
  rw [h1, List.filter_reverse, ← hf]
theorem Sub.behind {A D : Dag} (h : Sub A D) {i j : Nat} {c : Cert} (hi : A.certs[i]? = some c) (hj : D.certs[j]? = some c) (done : List Int) : behindI A i c.round done = behindI D j c.round done := by
  unfold behindI riseI
  rw [h.down hi hj]
theorem Sub.keepB {A D : Dag} (h : Sub A D) {x : Int} (hx : x ∈ A.certs.map (·.digest)) (r : Int) : keepB A r x = keepB D r x := by
  obtain ⟨c, hc, rfl⟩ := List.mem_map.1 hx
  have h1 := certOf_mem h.va.dig hc
  have h2 := h.cert h1
  unfold certOf at h1 h2
  unfold Go.Proofs.YtoeppembokpjkaaGreat.keepB
  rw [h1, h2]
theorem behind_digs {A : Dag} {i : Nat} {r : Int} {done : List Int} : ∀ x ∈ behindI A i r done, x ∈ A.certs.map (·.digest) := by
  intro x hx
  have h1 := List.mem_reverse.1 (List.mem_filter.1 hx).1
  have h2 := (down_sub A.low (r - 8) (A.certs.take (i + 1)).reverse ((A.certs[i]?).toList.map (·.digest))).subset h1
  rw [List.map_reverse, List.mem_reverse] at h2
  exact ((List.take_sublist ..).map _).subset h2
def inDag (A : Dag) (w : Wk) : Prop := ∀ x ∈ w.c.done, x ∈ A.certs.map (·.digest)
theorem Wk.put_in {A : Dag} {w : Wk} (hw : inDag A w) (i : Nat) (c : Cert) : inDag A (w.put A i c) := by
  intro x hx
  have h1 : x ∈ sortI (keepI A c.round (w.c.done ++ behindI A i c.round w.c.done)) := hx
  rw [sortI, List.mem_mergeSort] at h1
  have h2 := (List.mem_filter.1 h1).1
  rcases List.mem_append.1 h2 with h2 | h2
  · exact hw x h2
  · exact behind_digs x h2
theorem Sub.put {A D : Dag} (h : Sub A D) {w : Wk} (hw : inDag A w) {i j : Nat} {c : Cert} (hi : A.certs[i]? = some c) (hj : D.certs[j]? = some c) : w.put A i c = w.put D j c := by
  unfold Wk.put
  rw [h.behind hi hj]
  have : keepI A c.round (w.c.done ++ behindI D j c.round w.c.done) = keepI D c.round (w.c.done ++ behindI D j c.round w.c.done) := by
    refine List.filter_congr fun x hx => ?_
    refine h.keepB ?_ c.round
    rcases List.mem_append.1 hx with h2 | h2
    · exact hw x h2
    · rw [← h.behind hi hj] at h2; exact behind_digs x h2
  rw [this]
theorem Sub.putA {A D : Dag} (h : Sub A D) {w : Wk} (hw : inDag A w) {a : Int} {c : Cert} (ha : certOf A a = some c) : w.putA A a = w.putA D a ∧ inDag A (w.putA A a) := by
  obtain ⟨_, _, i, h1, h2⟩ := certOf_some ha
  obtain ⟨_, _, j, h3, h4⟩ := certOf_some (h.cert ha)
  rw [putA_eq h1 h2, putA_eq h3 h4]
  exact ⟨h.put hw h2 h4, Wk.put_in hw i c⟩
theorem Sub.putL {A D : Dag} (h : Sub A D) : ∀ {l : List Int} {w : Wk}, inDag A w → (∀ a ∈ l, ∃ c, certOf A a = some c) → w.putL A l = w.putL D l ∧ inDag A (w.putL A l)
  | [], w, hw, _ => ⟨rfl, hw⟩
  | a :: l, w, hw, ha => by
    obtain ⟨c, hc⟩ := ha a (by simp)
    obtain ⟨h1, h2⟩ := h.putA hw hc
    obtain ⟨h3, h4⟩ := h.putL (l := l) h2 fun b hb => ha b (by simp [hb])
    refine ⟨?_, h4⟩
    show (w.putA A a).putL A l = (w.putA D a).putL D l
    rw [← h1]; exact h3
/-- anchors -/
theorem anchor_at {d : Dag} (h : Valid d) {r : Int} : anchorI d r ≠ 0 ↔ ∃ c ∈ d.certs, c.round = r ∧ c.author = leadI d.nodes r := by
  rw [anchor_pos h.well]
  constructor
  · intro h1
    obtain ⟨c, hc⟩ := Option.isSome_iff_exists.1 h1
    exact ⟨c, (atC_some h.sorted).1 hc⟩
  · rintro ⟨c, hc⟩
    rw [(atC_some h.sorted).2 hc]; rfl
theorem anchor_is {d : Dag} (h : Valid d) {c : Cert} (hc : c ∈ d.certs) (ha : c.author = leadI d.nodes c.round) : anchorI d c.round = c.digest := by
  unfold anchorI
  rw [(atC_some h.sorted).2 ⟨hc, rfl, ha⟩]; rfl
theorem Sub.anchor {A D : Dag} (h : Sub A D) {r : Int} (ha : anchorI A r ≠ 0) : anchorI D r = anchorI A r := by
  obtain ⟨c, h1, rfl, h3⟩ := (anchor_at h.va).1 ha
  rw [anchor_is h.va h1 h3, anchor_is h.vd (h.mem h1) (by rw [← h.nodes]; exact h3)]
theorem votes_pos {d : Dag} {r : Int} (h : votes d r ≠ 0) : anchorI d r > 0 := by
  have h1 : 0 < ((ofR d.certs (r + 1)).filter fun c => decide (anchorI d r > 0 ∧ anchorI d r ∈ c.pars)).length := Nat.pos_of_ne_zero h
  obtain ⟨c, hc⟩ := List.exists_mem_of_length_pos h1
  have := (List.mem_filter.1 hc).2
  simp only [decide_eq_true_eq] at this
  exact this.1
theorem Sub.votes {A D : Dag} (h : Sub A D) (r : Int) : votes A r ≤ votes D r := by
  rcases Nat.eq_zero_or_pos (Go.Proofs.YtoeppembokpjkaaGreat.votes A r) with h0 | h0
  · omega
  · have h1 := votes_pos (Nat.ne_of_gt h0)
    have h2 := h.anchor (r := r) (by omega)
    unfold Go.Proofs.YtoeppembokpjkaaGreat.votes
    rw [h2]
    exact ((h.sub.filter _).filter _).length_le
theorem settled_votes {d : Dag} (h : Valid d) {r : Int} (hs : settled d r = true) : (votes d r : Int) > (d.nodes - 1) / 3 ∧ votes d r ≠ 0 := by
  have hn := of_decide_eq_true h.nodes
  have := of_decide_eq_true hs
  exact ⟨this, by omega⟩
theorem Sub.settled {A D : Dag} (h : Sub A D) {r : Int} (hs : settled A r = true) : settled D r = true := by
  have h1 := (settled_votes h.va hs).1
  have h2 := h.votes r
  have h3 := h.nodes
  exact decide_eq_true (by rw [← h3]; omega)
theorem top_le {d : Dag} (h : Valid d) {c : Cert} (hc : c ∈ d.certs) : c.round ≤ topR d.certs := by
  unfold topR
  cases hg : d.certs.getLast? with
  | none => rw [List.getLast?_eq_none_iff] at hg; rw [hg] at hc; cases hc
  | some z =>
    show c.round ≤ z.round
    obtain ⟨m, hm⟩ := List.getLast?_eq_some_iff.1 hg
    have hs := h.sorted
    rw [hm] at hs hc
    rcases List.mem_append.1 hc with hc | hc
    · have := before_iff.1 ((List.pairwise_append.1 hs).2.2 c hc z (by simp))
      omega
    · simp at hc; rw [hc]; exact Int.le_refl _
theorem settled_top {d : Dag} (h : Valid d) {r : Int} (hs : settled d r = true) : r < topR d.certs := by
  have h1 := (settled_votes h hs).2
  have h2 : 0 < ((ofR d.certs (r + 1)).filter fun c => decide (anchorI d r > 0 ∧ anchorI d r ∈ c.pars)).length := Nat.pos_of_ne_zero h1
  obtain ⟨c, hc⟩ := List.exists_mem_of_length_pos h2
  have h3 := List.mem_filter.1 (List.mem_filter.1 hc).1
  have h4 := top_le h h3.1
  have := of_decide_eq_true h3.2
  omega
/-- the next settled round is the least one -/
theorem nextR_le {d : Dag} (h : Valid d) {q : Int} (hq : settled d q = true) : ∀ r : Int, 0 < r → r ≤ q → r % 2 = q % 2 → nextR d r > 0 ∧ nextR d r ≤ q := by
  intro r
  induction r using nextR.induct (d := d) with
  | case1 r hr => intro _ h1 _; have := settled_top h hq; omega
  | case2 r hr hs => intro h0 h1 _; rw [next_here hr hs]; exact ⟨h0, h1⟩
  | case3 r hr hs ih =>
    intro h0 h1 h2
    have hs' : settled d r = false := by simpa using hs
    rw [next_on hr hs']
    refine ih (by omega) ?_ (by omega)
    rcases Int.lt_or_eq_of_le h1 with h3 | h3
    · omega
    · subst h3; rw [hq] at hs'; cases hs'
end Go.Proofs.YtoeppembokpjkaaGreat

namespace Go.Proofs.YtoeppembokpjkaaGreat
open Go.Ab Go.RowKit
theorem anchor_idx {d : Dag} (h : Valid d) {r : Int} (ha : anchorI d r ≠ 0) : ∃ k a, getC d.certs (anchorI d r) = some k ∧ d.certs[k]? = some a ∧ a.digest = anchorI d r ∧ a.round = r ∧ a.author = leadI d.nodes r := by
  obtain ⟨c, h1, h2, h3⟩ := anchor_cert h.well ha
  obtain ⟨_, h4, k, h5, h6⟩ := certOf_some h1
  exact ⟨k, c, h5, h6, h4, h2, h3⟩
theorem Sub.backR {A D : Dag} (h : Sub A D) (after : Int) : ∀ (r : Int) (i j : Nat) (x : Cert), A.certs[i]? = some x → D.certs[j]? = some x → backR A after r i = backR D after r j := by
  intro r i
  induction r, i using backR.induct (d := A) (after := after) with
  | case1 r i h1 =>
    intro j x hi hj
    rw [back_end h1, back_end (by rw [h.ld, ← h.la]; exact h1)]
  | case2 r i h1 h2 ih =>
    intro j x hi hj
    have h1' : ¬ (r - 2 ≤ after ∨ r - 2 ≤ D.low) := by rw [h.ld, ← h.la]; exact h1
    rw [back_no h1 h2, ih j x hi hj]
    by_cases h3 : anchorI D (r - 2) = 0
    · rw [back_no h1' h3]
    · obtain ⟨k, a, k1, k2, k3, k4, k5⟩ := anchor_idx h.vd h3
      rw [back_yes h1' h3 k1, if_neg]
      intro hre
      unfold reachJ at hre
      rw [k2] at hre
      have hre := of_decide_eq_true hre
      rw [← h.down hi hj] at hre
      have h4 := (down_sub A.low (a.round - 1) (A.certs.take (i + 1)).reverse ((A.certs[i]?).toList.map (·.digest))).subset hre
      rw [List.map_reverse, List.mem_reverse] at h4
      have h5 := ((List.take_sublist ..).map _).subset h4
      obtain ⟨z, hz, hze⟩ := List.mem_map.1 h5
      have hza := dig_inj h.vd.dig (h.mem hz) (List.mem_of_getElem? k2) hze
      subst hza
      exact (anchor_at h.va).2 ⟨z, hz, k4, by rw [h.nodes]; exact k5⟩ h2
  | case3 r i h1 h2 h3 =>
    obtain ⟨j, c, h4, _⟩ := anchor_get h2
    rw [h3] at h4; cases h4
  | case4 r i h1 h2 k h3 h4 ih =>
    intro j x hi hj
    have h1' : ¬ (r - 2 ≤ after ∨ r - 2 ≤ D.low) := by rw [h.ld, ← h.la]; exact h1
    obtain ⟨k', a, k1, k2, k3, k4, k5⟩ := anchor_idx h.va h2
    rw [h3] at k1; cases k1
    have h5 := h.anchor h2
    obtain ⟨m, b, m1, m2, m3, m4, m5⟩ := anchor_idx h.vd (r := r - 2) (by rw [h5]; exact h2)
    have hab := dig_inj h.vd.dig (h.mem (List.mem_of_getElem? k2)) (List.mem_of_getElem? m2) (by rw [k3, m3, h5])
    subst hab
    rw [back_yes h1 h2 h3, if_pos h4, back_yes h1' (by rw [h5]; exact h2) m1, if_pos, h5, ih m a k2 m2]
    unfold reachJ at h4 ⊢
    rw [k2] at h4; rw [m2]
    have h4 := of_decide_eq_true h4
    rw [h.down hi hj] at h4
    exact decide_eq_true h4
  | case5 r i h1 h2 k h3 h4 ih =>
    intro j x hi hj
    have h1' : ¬ (r - 2 ≤ after ∨ r - 2 ≤ D.low) := by rw [h.ld, ← h.la]; exact h1
    obtain ⟨k', a, k1, k2, k3, k4, k5⟩ := anchor_idx h.va h2
    rw [h3] at k1; cases k1
    have h5 := h.anchor h2
    obtain ⟨m, b, m1, m2, m3, m4, m5⟩ := anchor_idx h.vd (r := r - 2) (by rw [h5]; exact h2)
    have hab := dig_inj h.vd.dig (h.mem (List.mem_of_getElem? k2)) (List.mem_of_getElem? m2) (by rw [k3, m3, h5])
    subst hab
    rw [back_yes h1 h2 h3, if_neg h4, back_yes h1' (by rw [h5]; exact h2) m1, if_neg, ih j x hi hj]
    intro h6
    refine h4 ?_
    unfold reachJ at h6 ⊢
    rw [m2] at h6; rw [k2]
    have h6 := of_decide_eq_true h6
    rw [← h.down hi hj] at h6
    exact decide_eq_true h6
theorem Sub.backI {A D : Dag} (h : Sub A D) (after : Int) {r : Int} (ha : anchorI A r ≠ 0) : backI A after r = backI D after r := by
  have h5 := h.anchor ha
  obtain ⟨k, a, k1, k2, k3, k4, k5⟩ := anchor_idx h.va ha
  obtain ⟨m, b, m1, m2, m3, m4, m5⟩ := anchor_idx h.vd (r := r) (by rw [h5]; exact ha)
  have hab := dig_inj h.vd.dig (h.mem (List.mem_of_getElem? k2)) (List.mem_of_getElem? m2) (by rw [k3, m3, h5])
  subst hab
  unfold Go.Proofs.YtoeppembokpjkaaGreat.backI
  rw [k1, m1, h5]
  rw [Option.getD_some, Option.getD_some, h.backR after r k m a k2 m2]
/-! ## going on -/
theorem putL_app (d : Dag) (w : Wk) (l m : List Int) : w.putL d (l ++ m) = (w.putL d l).putL d m := List.foldl_append ..
theorem putL_round {d : Dag} (h : Valid d) {w : Wk} {l : List Int} {s : Int} (ha : anchorI d s ≠ 0) (hl : l.getLast? = some (anchorI d s)) : (w.putL d l).c.round = s := by
  obtain ⟨m, rfl⟩ := List.getLast?_eq_some_iff.1 hl
  obtain ⟨k, a, k1, k2, k3, k4, k5⟩ := anchor_idx h ha
  rw [putL_app]
  show (Wk.putA d (w.putL d m) (anchorI d s)).c.round = s
  rw [putA_eq k1 k2]
  exact k4
def run (d : Dag) (w : Wk) : Wk := Wk.goF d (topR d.certs).toNat w
end Go.Proofs.YtoeppembokpjkaaGreat

namespace Go.Proofs.YtoeppembokpjkaaGreat
open Go.Ab Go.RowKit
theorem putL_okay {d : Dag} (hw : d.well) {w : Wk} {l : List Int} (h : Chain d w l) (hok : w.okay d) : (w.putL d l).okay d := by
  have : ∀ j, j ≤ l.length → goInI d [] w l false (w.putL d (l.take j)) j := by
    intro j
    induction j with
    | zero =>
      intro _
      exact goInI.start hw h hok (done0 := []) (b := false) (by intro h; cases h)
    | succ j ih =>
      intro hj
      obtain ⟨x, i, c, h1, h2, h3, h4⟩ := h.at hw (show j < l.length by omega)
      have h5 := goInI.step hw h (ih (by omega)) (by omega) h1 h2 h3 h4
      have e := h5.is
      rw [e] at h5
      exact h5
  have := (this l.length (Nat.le_refl _)).okay
  rwa [List.take_length] at this
theorem goF_okay {d : Dag} (h : Valid d) : ∀ (n : Nat) (w : Wk), w.okay d → 0 ≤ w.c.round → w.c.round % 2 = 0 → (Wk.goF d n w).okay d ∧ 0 ≤ (Wk.goF d n w).c.round ∧ (Wk.goF d n w).c.round % 2 = 0 ∧ (Wk.goF d n w).c.round ≤ max w.c.round (topR d.certs) := by
  intro n
  induction n with
  | zero => intro w h1 h2 h3; exact ⟨h1, h2, h3, by show w.c.round ≤ _; omega⟩
  | succ n ih =>
    intro w h1 h2 h3
    rw [Wk.goF]
    split
    · rename_i hp
      have hsp := nextC_spec h.well h2 h3 hp
      have hall := backI_all h.well hsp.1 hsp.2.2.2.2.1
      have hr : (w.putL d (backI d w.c.round (nextC d w.c.round))).c.round = nextC d w.c.round := putL_round h hsp.2.2.2.2.1 hall.2.2
      obtain ⟨i1, i2, i3, i4⟩ := ih _ (putL_okay h.well ⟨hall.1, hall.2.1, hall.2.2⟩ h1) (by rw [hr]; omega) (by rw [hr]; exact hsp.2.2.2.1)
      exact ⟨i1, i2, i3, by rw [hr] at i4; omega⟩
    · exact ⟨h1, h2, h3, by omega⟩
/-- what was put out ahead stands ahead -/
def Wk.pre (o : List Int) (w : Wk) : Wk := ⟨w.c, o ++ w.outs⟩
theorem Sub.refl {d : Dag} (h : Valid d) (h0 : d.low = 0) : Sub d d := ⟨h, h, h0, h0, rfl, List.Sublist.refl _⟩
end Go.Proofs.YtoeppembokpjkaaGreat

namespace Go.Proofs.YtoeppembokpjkaaGreat
open Go.Ab Go.RowKit Go.MapKept
attribute [local irreducible] ACalls AW ADraw Into fltB fnear
set_option maxRecDepth 100000
/-! ## the page's marks -/
def seenL (dl : Int) : List Cert → List Int → List Int
  | [], ks => ks
  | c :: r, ks => seenL dl r (if c.digest ∈ ks then (if c.round > dl + 1 then addS ks c.pars else ks) else ks)
theorem seenL_skip {dl : Int} : ∀ {l1 l2 : List Cert} {ks : List Int}, (∀ c ∈ l1, c.digest ∉ ks) → seenL dl (l1 ++ l2) ks = seenL dl l2 ks
  | [], _, _, _ => rfl
  | c :: r, l2, ks, h => by
    rw [List.cons_append, seenL, if_neg (h c (by simp))]
    exact seenL_skip fun y hy => h y (by simp [hy])
/-- parents stand below -/
def under (dl : Int) (l : List Cert) : Prop := ∀ z ∈ l, z.round > dl + 1 → ∀ c ∈ l, c.digest ∈ z.pars → c.round < z.round
theorem seenL_not {dl : Int} {x : Cert} : ∀ {l : List Cert} {ks : List Int}, (∀ z ∈ l, z.round > dl + 1 → x.digest ∉ z.pars) → (x.digest ∈ seenL dl l ks ↔ x.digest ∈ ks)
  | [], _, _ => Iff.rfl
  | c :: r, ks, h => by
    rw [seenL, seenL_not fun z hz => h z (by simp [hz])]
    split
    · split
      · rename_i h2
        rw [mem_addS]
        exact ⟨fun h3 => h3.elim id fun h4 => absurd h4 (h c (by simp) h2), .inl⟩
      · exact Iff.rfl
    · exact Iff.rfl
theorem downL_marks {dl low : Int} : ∀ {l : List Cert} {ks : List Int}, desc l → (l.map (·.digest)).Nodup → under dl l → downL dl low l ks = (l.filter fun c => decide (c.digest ∈ seenL dl l ks) && decide (low < c.round)).map (·.digest)
  | [], _, _, _, _ => rfl
  | x :: r, ks, hd, hn, hu => by
    have hd' := List.pairwise_cons.1 hd
    have hn' := List.nodup_cons.1 hn
    have hu' : under dl r := fun z hz h1 c hc h2 => hu z (by simp [hz]) h1 c (by simp [hc]) h2
    by_cases h1 : x.round ≤ low
    · rw [downL, if_pos h1, List.filter_eq_nil_iff.2]
      · rfl
      · intro c hc
        have : c.round ≤ low := by
          rcases List.mem_cons.1 hc with rfl | h
          · exact h1
          · have := hd'.1 c h; omega
        simp [Int.not_lt.2 this]
    · have hx : ∀ z ∈ r, z.round > dl + 1 → x.digest ∉ z.pars := by
        intro z hz h2 h3
        have h4 := hu z (by simp [hz]) h2 x (by simp) h3
        have h5 := hd'.1 z hz
        omega
      have hxl : low < x.round := by omega
      rw [downL, if_neg h1, List.filter_cons, seenL]
      by_cases hk : x.digest ∈ ks
      · have hk2 : x.digest ∈ (if x.round > dl + 1 then addS ks x.pars else ks) := by
          split
          · exact mem_addS.2 (.inl hk)
          · exact hk
        rw [if_pos hk, if_pos hk]
        obtain ⟨k', hk'⟩ : ∃ k', (if x.round > dl + 1 then addS ks x.pars else ks) = k' := ⟨_, rfl⟩
        rw [hk'] at hk2 ⊢
        rw [downL_marks hd'.2 hn'.2 hu', if_pos (by rw [decide_eq_true ((seenL_not hx).2 hk2), decide_eq_true hxl]; rfl), List.map_cons]
      · rw [if_neg hk, if_neg hk, downL_marks hd'.2 hn'.2 hu', if_neg (by rw [decide_eq_false (fun h3 => hk ((seenL_not hx).1 h3))]; simp)]
def markS (d : Dag) (c : Cert) : List Int := seenL d.low d.certs.reverse [c.digest]
def marksB (d : Dag) (ks : List Int) : List Bool := d.certs.map fun c => decide (c.digest ∈ ks)
theorem Valid.under {d : Dag} (h : Valid d) : under d.low d.certs.reverse := by
  intro z hz h1 c hc h2
  have hz := List.mem_reverse.1 hz
  have hc := List.mem_reverse.1 hc
  obtain ⟨c', k1, k2, k3⟩ := h.here z hz h1 _ h2
  have := dig_inj h.dig hc k1 k2.symm
  subst this
  omega
theorem rise_marks {d : Dag} (h : Valid d) {i : Nat} {c : Cert} (hi : d.certs[i]? = some c) (low : Int) : riseI d i low = (d.certs.filter fun y => decide (y.digest ∈ markS d c) && decide (low < y.round)).map (·.digest) := by
  have hn : (d.certs.reverse.map (·.digest)).Nodup := by rw [List.map_reverse]; exact (List.reverse_perm _).nodup_iff.2 h.dig
  rw [riseI, downI_eq h.sorted h.dig hi, downL_marks (desc_rev h.sorted) hn h.under, ← List.map_reverse, ← List.filter_reverse, List.reverse_reverse]
  rfl
theorem reach_marks {d : Dag} (h : Valid d) {i k : Nat} {c x : Cert} (hi : d.certs[i]? = some c) (hk : d.certs[k]? = some x) : reachJ d i k = decide (x.digest ∈ markS d c) := by
  unfold reachJ
  rw [hk]
  show decide _ = _
  refine decide_eq_decide.2 ?_
  have e : x.digest ∈ downI d i (x.round - 1) ↔ x.digest ∈ riseI d i (x.round - 1) := List.mem_reverse.symm
  rw [e, rise_marks h hi, List.mem_map]
  constructor
  · rintro ⟨y, hy, e⟩
    have := List.mem_filter.1 hy
    rw [← e]
    simp at this
    exact this.2.1
  · intro hx
    exact ⟨x, List.mem_filter.2 ⟨List.mem_of_getElem? hk, by simp [hx]; omega⟩, rfl⟩
theorem marks_start {d : Dag} (h : Valid d) {i : Nat} {c : Cert} (hi : d.certs[i]? = some c) : markS d c = seenL d.low (d.certs.take (i + 1)).reverse [c.digest] := by
  have e : d.certs.reverse = (d.certs.drop (i + 1)).reverse ++ (d.certs.take (i + 1)).reverse := by
    rw [← List.reverse_append, List.take_append_drop]
  rw [markS, e, seenL_skip]
  intro x hx
  have := dig_at h.dig hi x (List.mem_reverse.1 hx)
  simpa using this
theorem marks_set {d : Dag} (h : Valid d) {ks : List Int} {x : Int} {k : Nat} (hk : getC d.certs x = some k) : (marksB d ks).set k true = marksB d (insS ks x) := by
  have hk2 := hk
  unfold getC at hk2
  rw [List.findIdx?_eq_some_iff_getElem] at hk2
  obtain ⟨hkl, h1, _⟩ := hk2
  have h1 : d.certs[k].digest = x := by simpa using h1
  refine List.ext_getElem? fun j => ?_
  rcases Nat.lt_or_ge j d.certs.length with hj | hj
  · by_cases e : j = k
    · subst e
      rw [List.getElem?_set_self (by simpa [marksB] using hj)]
      simp only [marksB, List.getElem?_map, List.getElem?_eq_getElem hj, Option.map_some, Option.some.injEq]
      exact (decide_eq_true (mem_insS.2 (.inr h1))).symm
    · rw [List.getElem?_set_ne (Ne.symm e)]
      simp only [marksB, List.getElem?_map, List.getElem?_eq_getElem hj, Option.map_some, Option.some.injEq]
      refine decide_eq_decide.2 ?_
      rw [mem_insS]
      refine ⟨.inl, fun h2 => h2.elim id fun h3 => ?_⟩
      exfalso
      have h4 : (d.certs.map (·.digest))[j]? = (d.certs.map (·.digest))[k]? := by
        rw [List.getElem?_map, List.getElem?_map, List.getElem?_eq_getElem hj, List.getElem?_eq_getElem hkl]
        show some d.certs[j].digest = some d.certs[k].digest
        rw [h3, h1]
      exact e ((List.getElem?_inj (by simpa using hj) h.dig).1 h4)
  · rw [List.getElem?_eq_none (by simpa [marksB] using hj), List.getElem?_eq_none (by simpa [marksB] using hj)]
theorem marks_none {d : Dag} {ks : List Int} {x : Int} (hk : getC d.certs x = none) : marksB d (insS ks x) = marksB d ks := by
  unfold getC at hk
  rw [List.findIdx?_eq_none_iff] at hk
  refine List.map_congr_left fun c hc => decide_eq_decide.2 ?_
  have := hk c hc
  rw [mem_insS]
  refine ⟨fun h => h.elim id fun h2 => ?_, .inl⟩
  rw [h2] at this
  simp at this
def bools (l : List Bool) : List (List DV) := l.map fun b => [.bool b]
theorem bools_length (l : List Bool) : (bools l).length = l.length := List.length_map ..
theorem bools_at {l : List Bool} {k : Nat} {a : Bool} (h : l[k]? = some a) : (bools l)[k]? = some [.bool a] := by simp [bools, h]
theorem bools_set (l : List Bool) (k : Nat) (a : Bool) : (bools l).set k [.bool a] = bools (l.set k a) := by simp [bools, List.map_set]
end Go.Proofs.YtoeppembokpjkaaGreat

namespace Go.Proofs.YtoeppembokpjkaaGreat
open Go.Ab Go.RowKit Go.MapKept
attribute [local irreducible] ACalls AW ADraw Into fltB fnear
set_option maxRecDepth 100000
def mkSt (d : Dag) : Int × List Int → AF × List AB
  | (k, ks) => ([(2, .ptr 0 0), (5, .arr 1), (6, .d (.int .i64 k))], [.cells d.cells, .row 4 1 (bools (marksB d ks)) false])
def mkSp (d : Dag) (k : Int) (c : Cert) (ks : List Int) (j : Nat) : AF × List AB :=
  ([(2, .ptr 0 0), (5, .arr 1), (6, .d (.int .i64 k)), (7, .ptr 2 0), (8, .d (.int .i64 j))], [.cells d.cells, .row 4 1 (bools (marksB d ks)) false, .cells c.hcells])
theorem Valid.few' {d : Dag} (h : Valid d) : few d.certs := by have := h.len; unfold few; omega
theorem Valid.pars' {d : Dag} (h : Valid d) {c : Cert} (hc : c ∈ d.certs) : few c.pars := (h.fewL hc).pars
theorem take_snoc' {α : Type} {l : List α} {j : Nat} {c : α} (hc : l[j]? = some c) : l.take (j + 1) = l.take j ++ [c] := by rw [List.take_add_one, hc]; rfl
set_option maxHeartbeats 1000000 in
theorem marks_ok (d : Dag) (h : Valid d) (i : Nat) {c0 : Cert} (hi : d.certs[i]? = some c0) : ACalls Tryz.prog 100 [d.av, .d (.int .i64 i)] [] (fun av L => av = .d (.sl 1 (bools (marksB d (markS d c0)))) ∧ L = []) := by
  have hcl := certsD_length d.certs
  have hlen := h.len
  have hlow := h.low
  have hil : i < d.certs.length := (List.getElem?_eq_some_iff.1 hi).1
  have hml : ∀ ks, (bools (marksB d ks)).length = d.certs.length := fun ks => by rw [bools_length]; simp [marksB]
  rw [marks_start h hi]
  have hgi : getC d.certs c0.digest = some i := getC_here hi rfl fun c hc e => by
    obtain ⟨m, hm, rfl⟩ := List.mem_take_iff_getElem.1 hc
    have h4 : (d.certs.map (·.digest))[m]? = (d.certs.map (·.digest))[i]? := by
      rw [List.getElem?_map, List.getElem?_map, hi, List.getElem?_eq_getElem (by omega)]
      show some d.certs[m].digest = some c0.digest
      rw [e]
    have := (List.getElem?_inj (by simp; omega) h.dig).1 h4
    omega
  have h0 : List.replicate (((certsD d.certs).length : Int)).toNat [DV.bool false] = bools (marksB d []) := by
    rw [hcl]
    simp only [marksB, List.not_mem_nil, decide_false, bools, List.map_map]
    rw [show ((d.certs.length : Int)).toNat = d.certs.length from rfl, ← List.map_const']
    rfl
  have h1 : (bools (marksB d [])).set i [.bool true] = bools (marksB d [c0.digest]) := by
    rw [bools_set, marks_set h hgi]; rfl
  refine acalls_go ttOk zOk foOk Tryz.func100 rfl Tryz.ntmps100 rfl false rfl ?_
  conv => whnf
  refine ⟨rfl, by omega, by show _ * 1 ≤ _; omega, by omega, ?_⟩
  conv => whnf
  rw [h0]
  refine ⟨by omega, by rw [hml]; omega, ?_⟩
  conv => whnf
  refine Exists.elim (⟨_, List.getElem?_eq_getElem (by simp [marksB]; omega)⟩ : ∃ b, (marksB d [])[i]? = some b) fun b0 hb0 => ?_
  refine ⟨_, bools_at hb0, ?_⟩
  conv => whnf
  repeat' (first | ((with_reducible apply rd_intro); (focus (intro K hK; (conv => whnf); first | exact hK | (intro z hz; rw [wrapI (by omega)] at hz; subst hz; exact hK))); (conv => whnf)) | ((with_reducible apply gd_and); (focus ((conv => whnf) <;> first | rfl | (intro K hK; (conv => whnf); first | exact hK | (intro z hz; rw [wrapI (by omega)] at hz; subst hz; exact hK)))); (conv => whnf)) | ((with_reducible apply z_wrap); (focus omega); (conv => whnf)) | ((with_reducible first | apply mt_dec | apply mt_eq | apply mt_ne | apply mt_not | apply mt_any) <;> (intro _; conv => whnf)))
  refine loop_go ttOk zOk foOk (σ := Int × List Int) (mkSt d) (fun s => -1 ≤ s.1 ∧ s.1 < d.certs.length ∧ seenL d.low (d.certs.take (i + 1)).reverse [c0.digest] = seenL d.low (d.certs.take (s.1 + 1).toNat).reverse s.2) (fun s => (s.1 + 1).toNat) [2, 5, 6] ?_ ?_
  · conv => whnf
    exact ⟨((i : Int), [c0.digest]), rfl, by simp only [mkSt, ← h1]; rfl, by show -1 ≤ (i : Int); omega, by show (i : Int) < _; omega, rfl⟩
  · rintro ⟨k, ks⟩ ⟨hk1, hk2, hk3⟩
    replace hk1 : -1 ≤ k := hk1
    replace hk2 : k < d.certs.length := hk2
    replace hk3 : seenL d.low (d.certs.take (i + 1)).reverse [c0.digest] = seenL d.low (d.certs.take (k + 1).toNat).reverse ks := hk3
    conv => whnf
    repeat' (first | ((with_reducible apply rd_intro); (focus (intro K hK; (conv => whnf); first | exact hK | (intro z hz; rw [wrapI (by omega)] at hz; subst hz; exact hK))); (conv => whnf)) | ((with_reducible apply gd_and); (focus ((conv => whnf) <;> first | rfl | (intro K hK; (conv => whnf); first | exact hK | (intro z hz; rw [wrapI (by omega)] at hz; subst hz; exact hK)))); (conv => whnf)) | ((with_reducible apply z_wrap); (focus omega); (conv => whnf)) | ((with_reducible first | apply mt_dec | apply mt_eq | apply mt_ne | apply mt_not | apply mt_any) <;> (intro _; conv => whnf)))
    · rename_i hk0
      obtain ⟨m, hm⟩ : ∃ m : Nat, k = m := ⟨k.toNat, by omega⟩
      subst hm
      refine Exists.elim (⟨_, List.getElem?_eq_getElem (by omega)⟩ : ∃ c, d.certs[m]? = some c) fun c hc => ?_
      have hcm := List.mem_of_getElem? hc
      have hfp := h.pars' hcm
      have hrb := (h.certs c hcm).head.round
      have hpl := nums_length c.pars
      unfold few at hfp
      rw [show ((m : Int) + 1).toNat = m + 1 by omega, take_rev hc, seenL] at hk3
      have hmb : (marksB d ks)[m]? = some (decide (c.digest ∈ ks)) := by simp [marksB, hc]
      refine ⟨by omega, by rw [hml]; omega, ?_⟩
      conv => whnf
      refine ⟨_, bools_at hmb, ?_⟩
      conv => whnf
      by_cases hin : c.digest ∈ ks
      · rw [if_pos hin] at hk3
        rw [decide_eq_true hin]
        conv => whnf
        repeat' (first | ((with_reducible apply rd_intro); (focus (intro K hK; (conv => whnf); first | exact hK | (intro z hz; rw [wrapI (by omega)] at hz; subst hz; exact hK))); (conv => whnf)) | ((with_reducible apply gd_and); (focus ((conv => whnf) <;> first | rfl | (intro K hK; (conv => whnf); first | exact hK | (intro z hz; rw [wrapI (by omega)] at hz; subst hz; exact hK)))); (conv => whnf)) | ((with_reducible apply z_wrap); (focus omega); (conv => whnf)) | ((with_reducible first | apply mt_dec | apply mt_eq | apply mt_ne | apply mt_not | apply mt_any) <;> (intro _; conv => whnf)))
        refine ⟨by omega, c.cs, certsD_at hc, ?_⟩
        conv => whnf
        repeat' (first | ((with_reducible apply rd_intro); (focus (intro K hK; (conv => whnf); first | exact hK | (intro z hz; rw [wrapI (by omega)] at hz; subst hz; exact hK))); (conv => whnf)) | ((with_reducible apply gd_and); (focus ((conv => whnf) <;> first | rfl | (intro K hK; (conv => whnf); first | exact hK | (intro z hz; rw [wrapI (by omega)] at hz; subst hz; exact hK)))); (conv => whnf)) | ((with_reducible apply z_wrap); (focus omega); (conv => whnf)) | ((with_reducible first | apply mt_dec | apply mt_eq | apply mt_ne | apply mt_not | apply mt_any) <;> (intro _; conv => whnf)))
        by_cases hg : c.round > d.low + 1
        · rw [if_pos hg] at hk3
          refine loop_go ttOk zOk foOk (σ := Nat) (fun j => mkSp d m c (addS ks (c.pars.take j)) j) (fun j => j ≤ c.pars.length) (fun j => c.pars.length - j) [2, 5, 6, 7, 8] ?_ ?_
          · conv => whnf
            exact ⟨0, rfl, rfl, Nat.zero_le _⟩
          · intro j hj1
            conv => whnf
            repeat' (first | ((with_reducible apply rd_intro); (focus (intro K hK; (conv => whnf); first | exact hK | (intro z hz; rw [wrapI (by omega)] at hz; subst hz; exact hK))); (conv => whnf)) | ((with_reducible apply gd_and); (focus ((conv => whnf) <;> first | rfl | (intro K hK; (conv => whnf); first | exact hK | (intro z hz; rw [wrapI (by omega)] at hz; subst hz; exact hK)))); (conv => whnf)) | ((with_reducible apply z_wrap); (focus omega); (conv => whnf)) | ((with_reducible first | apply mt_dec | apply mt_eq | apply mt_ne | apply mt_not | apply mt_any) <;> (intro _; conv => whnf)))
            · rename_i hjl hg2
              refine Exists.elim (⟨_, List.getElem?_eq_getElem (by omega)⟩ : ∃ x, c.pars[j]? = some x) fun x hx => ?_
              have hsn : insS (addS ks (c.pars.take j)) x = addS ks (c.pars.take (j + 1)) := by
                rw [take_snoc' hx, addS, addS, List.foldl_append]; rfl
              ((with_reducible refine draw_pl ttOk zOk foOk mixedOk pl100x11 ?_ ?_); (focus kernel_rfl); (conv => whnf))
              repeat' (first | ((with_reducible apply rd_intro); (focus (intro K hK; (conv => whnf); first | exact hK | (intro z hz; rw [wrapI (by omega)] at hz; subst hz; exact hK))); (conv => whnf)) | ((with_reducible apply gd_and); (focus ((conv => whnf) <;> first | rfl | (intro K hK; (conv => whnf); first | exact hK | (intro z hz; rw [wrapI (by omega)] at hz; subst hz; exact hK)))); (conv => whnf)) | ((with_reducible apply z_wrap); (focus omega); (conv => whnf)) | ((with_reducible first | apply mt_dec | apply mt_eq | apply mt_ne | apply mt_not | apply mt_any) <;> (intro _; conv => whnf)))
              ((with_reducible apply rd_intro); (focus (intro K hK; (conv => whnf); exact ⟨by omega, [.int .i64 x], nums_at hx, hK⟩)); (conv => whnf))
              repeat' (first | ((with_reducible apply rd_intro); (focus (intro K hK; (conv => whnf); first | exact hK | (intro z hz; rw [wrapI (by omega)] at hz; subst hz; exact hK))); (conv => whnf)) | ((with_reducible apply gd_and); (focus ((conv => whnf) <;> first | rfl | (intro K hK; (conv => whnf); first | exact hK | (intro z hz; rw [wrapI (by omega)] at hz; subst hz; exact hK)))); (conv => whnf)) | ((with_reducible apply z_wrap); (focus omega); (conv => whnf)) | ((with_reducible first | apply mt_dec | apply mt_eq | apply mt_ne | apply mt_not | apply mt_any) <;> (intro _; conv => whnf)))
              refine (rFind_ok d h.few' x).mono ?_
              rintro _ _ ⟨rfl, rfl⟩
              conv => whnf
              repeat' (first | ((with_reducible apply rd_intro); (focus (intro K hK; (conv => whnf); first | exact hK | (intro z hz; rw [wrapI (by omega)] at hz; subst hz; exact hK))); (conv => whnf)) | ((with_reducible apply gd_and); (focus ((conv => whnf) <;> first | rfl | (intro K hK; (conv => whnf); first | exact hK | (intro z hz; rw [wrapI (by omega)] at hz; subst hz; exact hK)))); (conv => whnf)) | ((with_reducible apply z_wrap); (focus omega); (conv => whnf)) | ((with_reducible first | apply mt_dec | apply mt_eq | apply mt_ne | apply mt_not | apply mt_any) <;> (intro _; conv => whnf)))
              · rename_i h0
                cases hgx : getC d.certs x with
                | none => rw [getI, hgx] at h0; exact absurd h0 (by decide)
                | some k =>
                  have hgi : getI d.certs x = k := by rw [getI, hgx]; rfl
                  have hkl : k < d.certs.length := (List.findIdx?_eq_some_iff_getElem.1 hgx).1
                  rw [hgi]
                  refine ⟨by omega, by rw [hml]; omega, ?_⟩
                  conv => whnf
                  refine Exists.elim (⟨_, List.getElem?_eq_getElem (by simp [marksB]; omega)⟩ : ∃ b, (marksB d (addS ks (c.pars.take j)))[k]? = some b) fun b0 hb0 => ?_
                  refine ⟨_, bools_at hb0, ?_⟩
                  conv => whnf
                  repeat' (first | ((with_reducible apply rd_intro); (focus (intro K hK; (conv => whnf); first | exact hK | (intro z hz; rw [wrapI (by omega)] at hz; subst hz; exact hK))); (conv => whnf)) | ((with_reducible apply gd_and); (focus ((conv => whnf) <;> first | rfl | (intro K hK; (conv => whnf); first | exact hK | (intro z hz; rw [wrapI (by omega)] at hz; subst hz; exact hK)))); (conv => whnf)) | ((with_reducible apply z_wrap); (focus omega); (conv => whnf)) | ((with_reducible first | apply mt_dec | apply mt_eq | apply mt_ne | apply mt_not | apply mt_any) <;> (intro _; conv => whnf)))
                  refine ⟨j + 1, rfl, ?_, by omega, by omega⟩
                  simp only [mkSp, ← hsn, ← marks_set h hgx, ← bools_set]
                  rfl
              · rename_i h0
                cases hgx : getC d.certs x with
                | none =>
                  refine ⟨j + 1, rfl, ?_, by omega, by omega⟩
                  simp only [mkSp, ← hsn, marks_none hgx]
                  rfl
                | some k => rw [getI, hgx] at h0; exact absurd (show (k : Int) ≥ 0 by omega) h0
            · rename_i hjl hg2
              exact absurd hg2 (by omega)
            · rename_i hjl
              rw [List.take_of_length_le (by omega)]
              exact ⟨((m : Int) - 1, _), rfl, rfl, ⟨by show -1 ≤ (m : Int) - 1; omega, by show (m : Int) - 1 < _; omega, by rw [hk3, show ((m : Int) - 1 + 1).toNat = m by omega]⟩, by show ((m : Int) - 1 + 1).toNat < ((m : Int) + 1).toNat; omega⟩
        · rw [if_neg hg] at hk3
          refine loop_go ttOk zOk foOk (σ := Unit) (fun _ => mkSp d m c ks 0) (fun _ => True) (fun _ => 0) [2, 5, 6, 7, 8] ?_ ?_
          · conv => whnf
            exact ⟨(), rfl, rfl, trivial⟩
          · intro _ _
            conv => whnf
            repeat' (first | ((with_reducible apply rd_intro); (focus (intro K hK; (conv => whnf); first | exact hK | (intro z hz; rw [wrapI (by omega)] at hz; subst hz; exact hK))); (conv => whnf)) | ((with_reducible apply gd_and); (focus ((conv => whnf) <;> first | rfl | (intro K hK; (conv => whnf); first | exact hK | (intro z hz; rw [wrapI (by omega)] at hz; subst hz; exact hK)))); (conv => whnf)) | ((with_reducible apply z_wrap); (focus omega); (conv => whnf)) | ((with_reducible first | apply mt_dec | apply mt_eq | apply mt_ne | apply mt_not | apply mt_any) <;> (intro _; conv => whnf)))
            · rename_i hjl hg2
              exact absurd hg2 (by omega)
            · exact ⟨((m : Int) - 1, ks), rfl, rfl, ⟨by show -1 ≤ (m : Int) - 1; omega, by show (m : Int) - 1 < _; omega, by rw [hk3, show ((m : Int) - 1 + 1).toNat = m by omega]⟩, by show ((m : Int) - 1 + 1).toNat < ((m : Int) + 1).toNat; omega⟩
            · exact ⟨((m : Int) - 1, ks), rfl, rfl, ⟨by show -1 ≤ (m : Int) - 1; omega, by show (m : Int) - 1 < _; omega, by rw [hk3, show ((m : Int) - 1 + 1).toNat = m by omega]⟩, by show ((m : Int) - 1 + 1).toNat < ((m : Int) + 1).toNat; omega⟩
      · rw [if_neg hin] at hk3
        rw [decide_eq_false hin]
        conv => whnf
        repeat' (first | ((with_reducible apply rd_intro); (focus (intro K hK; (conv => whnf); first | exact hK | (intro z hz; rw [wrapI (by omega)] at hz; subst hz; exact hK))); (conv => whnf)) | ((with_reducible apply gd_and); (focus ((conv => whnf) <;> first | rfl | (intro K hK; (conv => whnf); first | exact hK | (intro z hz; rw [wrapI (by omega)] at hz; subst hz; exact hK)))); (conv => whnf)) | ((with_reducible apply z_wrap); (focus omega); (conv => whnf)) | ((with_reducible first | apply mt_dec | apply mt_eq | apply mt_ne | apply mt_not | apply mt_any) <;> (intro _; conv => whnf)))
        exact ⟨((m : Int) - 1, ks), rfl, rfl, ⟨by show -1 ≤ (m : Int) - 1; omega, by show (m : Int) - 1 < _; omega, by rw [hk3, show ((m : Int) - 1 + 1).toNat = m by omega]⟩, by show ((m : Int) - 1 + 1).toNat < ((m : Int) + 1).toNat; omega⟩
    · rename_i hk0
      rw [hk3, show (k + 1).toNat = 0 by omega]
      exact ⟨rfl, rfl⟩
end Go.Proofs.YtoeppembokpjkaaGreat

namespace Go.Proofs.YtoeppembokpjkaaGreat
open Go.Ab Go.RowKit Go.MapKept
attribute [local irreducible] ACalls AW ADraw Into fltB fnear
set_option maxRecDepth 100000
/-! ## reaching, what is below, the order -/
theorem get_at {d : Dag} (h : Valid d) {i : Nat} {c : Cert} (hi : d.certs[i]? = some c) : getC d.certs c.digest = some i := getC_here hi rfl fun c' hc e => by
  have hil : i < d.certs.length := (List.getElem?_eq_some_iff.1 hi).1
  obtain ⟨m, hm, rfl⟩ := List.mem_take_iff_getElem.1 hc
  have h4 : (d.certs.map (·.digest))[m]? = (d.certs.map (·.digest))[i]? := by
    rw [List.getElem?_map, List.getElem?_map, hi, List.getElem?_eq_getElem (by omega)]
    show some d.certs[m].digest = some c.digest
    rw [e]
  have := (List.getElem?_inj (by simp; omega) h.dig).1 h4
  omega
theorem geti_at {d : Dag} (h : Valid d) {i : Nat} {c : Cert} (hi : d.certs[i]? = some c) : getI d.certs c.digest = i := by rw [getI, get_at h hi]; rfl
theorem marksB_at {d : Dag} {ks : List Int} {i : Nat} {c : Cert} (hi : d.certs[i]? = some c) : (marksB d ks)[i]? = some (decide (c.digest ∈ ks)) := by simp [marksB, hi]
theorem rReach_ok (d : Dag) (h : Valid d) {i k : Nat} {a b : Cert} (hi : d.certs[i]? = some a) (hk : d.certs[k]? = some b) : ACalls Tryz.prog 75 [d.av, .d (.int .i64 a.digest), .d (.int .i64 b.digest)] [] (fun av L => av = .d (.bool (reachJ d i k)) ∧ L = []) := by
  have hf1 := rFind_ok d h.few' a.digest
  have hf2 := rFind_ok d h.few' b.digest
  rw [geti_at h hi] at hf1
  rw [geti_at h hk] at hf2
  have hml : (bools (marksB d (markS d a))).length = d.certs.length := by rw [bools_length]; simp [marksB]
  have hkl : k < d.certs.length := (List.getElem?_eq_some_iff.1 hk).1
  have hlen := h.len
  have hmk := marks_ok d h i hi
  rw [reach_marks h hi hk]
  refine acalls_go ttOk zOk foOk Tryz.func75 rfl Tryz.ntmps75 rfl false rfl ?_
  conv => whnf
  ((with_reducible refine draw_pl ttOk zOk foOk mixedOk pl75x1 ?_ ?_); (focus kernel_rfl); (conv => whnf))
  repeat' (first | ((with_reducible apply rd_intro); (focus (intro K hK; (conv => whnf); first | exact hK | (intro z hz; rw [wrapI (by omega)] at hz; subst hz; exact hK))); (conv => whnf)) | ((with_reducible apply gd_and); (focus ((conv => whnf) <;> first | rfl | (intro K hK; (conv => whnf); first | exact hK | (intro z hz; rw [wrapI (by omega)] at hz; subst hz; exact hK)))); (conv => whnf)) | ((with_reducible apply z_wrap); (focus omega); (conv => whnf)) | ((with_reducible first | apply mt_dec | apply mt_eq | apply mt_ne | apply mt_not | apply mt_any) <;> (intro _; conv => whnf)))
  refine hf1.mono ?_
  rintro _ _ ⟨rfl, rfl⟩
  conv => whnf
  repeat' (first | ((with_reducible apply rd_intro); (focus (intro K hK; (conv => whnf); first | exact hK | (intro z hz; rw [wrapI (by omega)] at hz; subst hz; exact hK))); (conv => whnf)) | ((with_reducible apply gd_and); (focus ((conv => whnf) <;> first | rfl | (intro K hK; (conv => whnf); first | exact hK | (intro z hz; rw [wrapI (by omega)] at hz; subst hz; exact hK)))); (conv => whnf)) | ((with_reducible apply z_wrap); (focus omega); (conv => whnf)) | ((with_reducible first | apply mt_dec | apply mt_eq | apply mt_ne | apply mt_not | apply mt_any) <;> (intro _; conv => whnf)))
  refine hmk.mono ?_
  rintro _ _ ⟨rfl, rfl⟩
  conv => whnf
  repeat' (first | ((with_reducible apply rd_intro); (focus (intro K hK; (conv => whnf); first | exact hK | (intro z hz; rw [wrapI (by omega)] at hz; subst hz; exact hK))); (conv => whnf)) | ((with_reducible apply gd_and); (focus ((conv => whnf) <;> first | rfl | (intro K hK; (conv => whnf); first | exact hK | (intro z hz; rw [wrapI (by omega)] at hz; subst hz; exact hK)))); (conv => whnf)) | ((with_reducible apply z_wrap); (focus omega); (conv => whnf)) | ((with_reducible first | apply mt_dec | apply mt_eq | apply mt_ne | apply mt_not | apply mt_any) <;> (intro _; conv => whnf)))
  refine hf2.mono ?_
  rintro _ _ ⟨rfl, rfl⟩
  conv => whnf
  repeat' (first | ((with_reducible apply rd_intro); (focus (intro K hK; (conv => whnf); first | exact hK | (intro z hz; rw [wrapI (by omega)] at hz; subst hz; exact hK))); (conv => whnf)) | ((with_reducible apply gd_and); (focus ((conv => whnf) <;> first | rfl | (intro K hK; (conv => whnf); first | exact hK | (intro z hz; rw [wrapI (by omega)] at hz; subst hz; exact hK)))); (conv => whnf)) | ((with_reducible apply z_wrap); (focus omega); (conv => whnf)) | ((with_reducible first | apply mt_dec | apply mt_eq | apply mt_ne | apply mt_not | apply mt_any) <;> (intro _; conv => whnf)))
  ((with_reducible apply rd_intro); (focus (intro K hK; (conv => whnf); exact ⟨by omega, _, bools_at (marksB_at hk), hK⟩)); (conv => whnf))
  repeat' (first | ((with_reducible apply rd_intro); (focus (intro K hK; (conv => whnf); first | exact hK | (intro z hz; rw [wrapI (by omega)] at hz; subst hz; exact hK))); (conv => whnf)) | ((with_reducible apply gd_and); (focus ((conv => whnf) <;> first | rfl | (intro K hK; (conv => whnf); first | exact hK | (intro z hz; rw [wrapI (by omega)] at hz; subst hz; exact hK)))); (conv => whnf)) | ((with_reducible apply z_wrap); (focus omega); (conv => whnf)) | ((with_reducible first | apply mt_dec | apply mt_eq | apply mt_ne | apply mt_not | apply mt_any) <;> (intro _; conv => whnf)))
  exact ⟨rfl, rfl⟩
def belowL (d : Dag) (ks : List Int) (low : Int) (j : Nat) : List Int := ((d.certs.take j).filter fun y => decide (y.digest ∈ ks) && decide (low < y.round)).map (·.digest)
theorem belowL_len (d : Dag) (ks : List Int) (low : Int) (j : Nat) : (belowL d ks low j).length ≤ j := by
  have h1 := List.length_filter_le (fun y : Cert => decide (y.digest ∈ ks) && decide (low < y.round)) (d.certs.take j)
  rw [List.length_take] at h1
  rw [belowL, List.length_map]
  omega
theorem belowL_yes {d : Dag} {ks : List Int} {low : Int} {j : Nat} {c : Cert} (hc : d.certs[j]? = some c) (h1 : c.digest ∈ ks) (h2 : low < c.round) : belowL d ks low (j + 1) = belowL d ks low j ++ [c.digest] := by
  rw [belowL, take_snoc' hc, List.filter_append, List.map_append, List.filter_cons, if_pos (by simp [h1, h2])]; rfl
theorem belowL_no {d : Dag} {ks : List Int} {low : Int} {j : Nat} {c : Cert} (hc : d.certs[j]? = some c) (h : ¬ (c.digest ∈ ks ∧ low < c.round)) : belowL d ks low (j + 1) = belowL d ks low j := by
  rw [belowL, take_snoc' hc, List.filter_append, List.map_append, List.filter_cons, if_neg (by simpa using h)]; simp [belowL]
set_option maxHeartbeats 1000000 in
theorem rBelow_ok (d : Dag) (h : Valid d) {i : Nat} {a : Cert} (hi : d.certs[i]? = some a) (low : Int) : ACalls Tryz.prog 76 [d.av, .d (.int .i64 a.digest), .d (.int .i64 low)] [] (fun av L => av = .d (.sl 1 (nums (riseI d i low))) ∧ L = []) := by
  have hf1 := rFind_ok d h.few' a.digest
  rw [geti_at h hi] at hf1
  have hcl := certsD_length d.certs
  have hlen := h.len
  have hmk := marks_ok d h i hi
  rw [rise_marks h hi]
  obtain ⟨ks, hks⟩ : ∃ ks, markS d a = ks := ⟨_, rfl⟩
  rw [hks] at hmk ⊢
  have hml : (bools (marksB d ks)).length = d.certs.length := by rw [bools_length]; simp [marksB]
  refine acalls_go ttOk zOk foOk Tryz.func76 rfl Tryz.ntmps76 rfl false rfl ?_
  conv => whnf
  ((with_reducible refine draw_pl ttOk zOk foOk mixedOk pl76x1 ?_ ?_); (focus kernel_rfl); (conv => whnf))
  repeat' (first | ((with_reducible apply rd_intro); (focus (intro K hK; (conv => whnf); first | exact hK | (intro z hz; rw [wrapI (by omega)] at hz; subst hz; exact hK))); (conv => whnf)) | ((with_reducible apply gd_and); (focus ((conv => whnf) <;> first | rfl | (intro K hK; (conv => whnf); first | exact hK | (intro z hz; rw [wrapI (by omega)] at hz; subst hz; exact hK)))); (conv => whnf)) | ((with_reducible apply z_wrap); (focus omega); (conv => whnf)) | ((with_reducible first | apply mt_dec | apply mt_eq | apply mt_ne | apply mt_not | apply mt_any) <;> (intro _; conv => whnf)))
  refine hf1.mono ?_
  rintro _ _ ⟨rfl, rfl⟩
  conv => whnf
  repeat' (first | ((with_reducible apply rd_intro); (focus (intro K hK; (conv => whnf); first | exact hK | (intro z hz; rw [wrapI (by omega)] at hz; subst hz; exact hK))); (conv => whnf)) | ((with_reducible apply gd_and); (focus ((conv => whnf) <;> first | rfl | (intro K hK; (conv => whnf); first | exact hK | (intro z hz; rw [wrapI (by omega)] at hz; subst hz; exact hK)))); (conv => whnf)) | ((with_reducible apply z_wrap); (focus omega); (conv => whnf)) | ((with_reducible first | apply mt_dec | apply mt_eq | apply mt_ne | apply mt_not | apply mt_any) <;> (intro _; conv => whnf)))
  refine hmk.mono ?_
  rintro _ _ ⟨rfl, rfl⟩
  conv => whnf
  repeat' (first | ((with_reducible apply rd_intro); (focus (intro K hK; (conv => whnf); first | exact hK | (intro z hz; rw [wrapI (by omega)] at hz; subst hz; exact hK))); (conv => whnf)) | ((with_reducible apply gd_and); (focus ((conv => whnf) <;> first | rfl | (intro K hK; (conv => whnf); first | exact hK | (intro z hz; rw [wrapI (by omega)] at hz; subst hz; exact hK)))); (conv => whnf)) | ((with_reducible apply z_wrap); (focus omega); (conv => whnf)) | ((with_reducible first | apply mt_dec | apply mt_eq | apply mt_ne | apply mt_not | apply mt_any) <;> (intro _; conv => whnf)))
  refine loop_go ttOk zOk foOk (σ := Nat) (fun j => ([(2, .d (.int .i64 low)), (3, .ptr 0 0), (7, .d (.sl 1 (bools (marksB d ks)))), (8, .arr 1), (9, .d (.int .i64 j))], [.cells d.cells, .row 3 1 (nums (belowL d ks low j)) false])) (fun j => j ≤ d.certs.length) (fun j => d.certs.length - j) [2, 3, 7, 8, 9] ?_ ?_
  · conv => whnf
    exact ⟨0, rfl, rfl, Nat.zero_le _⟩
  · intro j hj
    have hbl := belowL_len d ks low j
    conv => whnf
    repeat' (first | ((with_reducible apply rd_intro); (focus (intro K hK; (conv => whnf); first | exact hK | (intro z hz; rw [wrapI (by omega)] at hz; subst hz; exact hK))); (conv => whnf)) | ((with_reducible apply gd_and); (focus ((conv => whnf) <;> first | rfl | (intro K hK; (conv => whnf); first | exact hK | (intro z hz; rw [wrapI (by omega)] at hz; subst hz; exact hK)))); (conv => whnf)) | ((with_reducible apply z_wrap); (focus omega); (conv => whnf)) | ((with_reducible first | apply mt_dec | apply mt_eq | apply mt_ne | apply mt_not | apply mt_any) <;> (intro _; conv => whnf)))
    · rename_i hjl
      refine Exists.elim (⟨_, List.getElem?_eq_getElem (by omega)⟩ : ∃ c, d.certs[j]? = some c) fun c hc => ?_
      refine ⟨by omega, _, bools_at (marksB_at hc), ?_⟩
      by_cases h1 : c.digest ∈ ks
      · rw [decide_eq_true h1]
        conv => whnf
        repeat' (first | ((with_reducible apply rd_intro); (focus (intro K hK; (conv => whnf); first | exact hK | (intro z hz; rw [wrapI (by omega)] at hz; subst hz; exact hK))); (conv => whnf)) | ((with_reducible apply gd_and); (focus ((conv => whnf) <;> first | rfl | (intro K hK; (conv => whnf); first | exact hK | (intro z hz; rw [wrapI (by omega)] at hz; subst hz; exact hK)))); (conv => whnf)) | ((with_reducible apply z_wrap); (focus omega); (conv => whnf)) | ((with_reducible first | apply mt_dec | apply mt_eq | apply mt_ne | apply mt_not | apply mt_any) <;> (intro _; conv => whnf)))
        refine ⟨by omega, c.cs, certsD_at hc, ?_⟩
        conv => whnf
        repeat' (first | ((with_reducible apply rd_intro); (focus (intro K hK; (conv => whnf); first | exact hK | (intro z hz; rw [wrapI (by omega)] at hz; subst hz; exact hK))); (conv => whnf)) | ((with_reducible apply gd_and); (focus ((conv => whnf) <;> first | rfl | (intro K hK; (conv => whnf); first | exact hK | (intro z hz; rw [wrapI (by omega)] at hz; subst hz; exact hK)))); (conv => whnf)) | ((with_reducible apply z_wrap); (focus omega); (conv => whnf)) | ((with_reducible first | apply mt_dec | apply mt_eq | apply mt_ne | apply mt_not | apply mt_any) <;> (intro _; conv => whnf)))
        · rename_i h2
          refine ⟨by omega, c.cs, certsD_at hc, ?_⟩
          conv => whnf
          refine ⟨by rw [nums_length, List.length_singleton]; show (_ + 1) * 8 ≤ _; omega, ?_⟩
          conv => whnf
          repeat' (first | ((with_reducible apply rd_intro); (focus (intro K hK; (conv => whnf); first | exact hK | (intro z hz; rw [wrapI (by omega)] at hz; subst hz; exact hK))); (conv => whnf)) | ((with_reducible apply gd_and); (focus ((conv => whnf) <;> first | rfl | (intro K hK; (conv => whnf); first | exact hK | (intro z hz; rw [wrapI (by omega)] at hz; subst hz; exact hK)))); (conv => whnf)) | ((with_reducible apply z_wrap); (focus omega); (conv => whnf)) | ((with_reducible first | apply mt_dec | apply mt_eq | apply mt_ne | apply mt_not | apply mt_any) <;> (intro _; conv => whnf)))
          refine ⟨j + 1, rfl, ?_, by omega, by omega⟩
          simp only [belowL_yes hc h1 (show low < c.round from h2), ← nums_apps]
          rfl
        · rename_i h2
          refine ⟨j + 1, rfl, ?_, by omega, by omega⟩
          simp only [belowL_no hc (fun h => h2 h.2)]
          rfl
      · rw [decide_eq_false h1]
        conv => whnf
        repeat' (first | ((with_reducible apply rd_intro); (focus (intro K hK; (conv => whnf); first | exact hK | (intro z hz; rw [wrapI (by omega)] at hz; subst hz; exact hK))); (conv => whnf)) | ((with_reducible apply gd_and); (focus ((conv => whnf) <;> first | rfl | (intro K hK; (conv => whnf); first | exact hK | (intro z hz; rw [wrapI (by omega)] at hz; subst hz; exact hK)))); (conv => whnf)) | ((with_reducible apply z_wrap); (focus omega); (conv => whnf)) | ((with_reducible first | apply mt_dec | apply mt_eq | apply mt_ne | apply mt_not | apply mt_any) <;> (intro _; conv => whnf)))
        refine ⟨j + 1, rfl, ?_, by omega, by omega⟩
        simp only [belowL_no hc (fun h => h1 h.1)]
        rfl
    · rename_i hjl
      rw [belowL, List.take_of_length_le (by omega)]
      exact ⟨rfl, rfl⟩
theorem rise_zero {d : Dag} (h : Valid d) {i : Nat} {a : Cert} (hi : d.certs[i]? = some a) {low : Int} (hl : low < 0) : riseI d i 0 = riseI d i low := by
  rw [rise_marks h hi, rise_marks h hi]
  congr 1
  refine List.filter_congr fun c hc => ?_
  have := (h.certs c hc).head.round
  rw [decide_eq_true (show (0 : Int) < c.round by omega), decide_eq_true (show low < c.round by omega)]
set_option maxHeartbeats 1000000 in
theorem rOrder_ok (d : Dag) (h : Valid d) {i : Nat} {a : Cert} (hi : d.certs[i]? = some a) (done : List Int) (hdn : few done) (hlow : d.low = 0 ∨ d.low ≤ a.round - 8) : ACalls Tryz.prog 51 [d.av, .d (.int .i64 a.digest), .d (.sl 1 (nums done))] [] (fun av L => av = .tup [.d (.sl 1 (nums (behindI d i a.round done))), .d (.int .i64 0)] ∧ L = []) := by
  have hf1 := rFind_ok d h.few' a.digest
  rw [geti_at h hi] at hf1
  have hil : i < d.certs.length := (List.getElem?_eq_some_iff.1 hi).1
  have hcl := certsD_length d.certs
  have hlen := h.len
  have hdl := h.low
  have har := (h.certs a (List.mem_of_getElem? hi)).head.round
  have hbe := rBelow_ok d h hi (a.round - 8)
  have hbe0 := rBelow_ok d h hi 0
  have hrl := rise_len d i (a.round - 8)
  unfold behindI
  obtain ⟨l, hl⟩ : ∃ l, riseI d i (a.round - 8) = l := ⟨_, rfl⟩
  rw [hl] at hbe hrl ⊢
  have hll := nums_length l
  refine acalls_go ttOk zOk foOk Tryz.func51 rfl Tryz.ntmps51 rfl false rfl ?_
  conv => whnf
  refine hf1.mono ?_
  rintro _ _ ⟨rfl, rfl⟩
  conv => whnf
  repeat' (first | ((with_reducible apply rd_intro); (focus (intro K hK; (conv => whnf); first | exact hK | (intro z hz; rw [wrapI (by omega)] at hz; subst hz; exact hK))); (conv => whnf)) | ((with_reducible apply gd_and); (focus ((conv => whnf) <;> first | rfl | (intro K hK; (conv => whnf); first | exact hK | (intro z hz; rw [wrapI (by omega)] at hz; subst hz; exact hK)))); (conv => whnf)) | ((with_reducible apply z_wrap); (focus omega); (conv => whnf)) | ((with_reducible first | apply mt_dec | apply mt_eq | apply mt_ne | apply mt_not | apply mt_any) <;> (intro _; conv => whnf)))
  refine ⟨by omega, a.cs, certsD_at hi, ?_⟩
  conv => whnf
  repeat' (first | ((with_reducible apply rd_intro); (focus (intro K hK; (conv => whnf); first | exact hK | (intro z hz; rw [wrapI (by omega)] at hz; subst hz; exact hK))); (conv => whnf)) | ((with_reducible apply gd_and); (focus ((conv => whnf) <;> first | rfl | (intro K hK; (conv => whnf); first | exact hK | (intro z hz; rw [wrapI (by omega)] at hz; subst hz; exact hK)))); (conv => whnf)) | ((with_reducible apply z_wrap); (focus omega); (conv => whnf)) | ((with_reducible first | apply mt_dec | apply mt_eq | apply mt_ne | apply mt_not | apply mt_any) <;> (intro _; conv => whnf)))
  · rename_i h1 h2
    rcases hlow with h3 | h3 <;> omega
  · rename_i h1 h2
    have e0 : riseI d i 0 = l := by rw [rise_zero h hi (show a.round - 8 < 0 by omega), hl]
    rw [e0] at hbe0
    refine hbe0.mono ?_
    rintro _ _ ⟨rfl, rfl⟩
    conv => whnf
    refine loop_go ttOk zOk foOk (σ := Nat) (fun j => ([(2, .d (.sl 1 (nums done))), (3, .ptr 0 0), (10, .d (.sl 1 (nums l))), (11, .arr 1), (12, .d (.int .i64 j))], [.cells d.cells, .row 3 1 (nums ((l.take j).filter fun x => !decide (x ∈ done))) false])) (fun j => j ≤ l.length) (fun j => l.length - j) [2, 3, 10, 11, 12] ?_ ?_
    · conv => whnf
      exact ⟨0, rfl, rfl, Nat.zero_le _⟩
    · intro j hj
      have hfl : ((l.take j).filter fun x => !decide (x ∈ done)).length ≤ j := by
        have h1 := List.length_filter_le (fun x => !decide (x ∈ done)) (l.take j)
        rw [List.length_take] at h1
        omega
      conv => whnf
      repeat' (first | ((with_reducible apply rd_intro); (focus (intro K hK; (conv => whnf); first | exact hK | (intro z hz; rw [wrapI (by omega)] at hz; subst hz; exact hK))); (conv => whnf)) | ((with_reducible apply gd_and); (focus ((conv => whnf) <;> first | rfl | (intro K hK; (conv => whnf); first | exact hK | (intro z hz; rw [wrapI (by omega)] at hz; subst hz; exact hK)))); (conv => whnf)) | ((with_reducible apply z_wrap); (focus omega); (conv => whnf)) | ((with_reducible first | apply mt_dec | apply mt_eq | apply mt_ne | apply mt_not | apply mt_any) <;> (intro _; conv => whnf)))
      · rename_i hjl
        refine Exists.elim (⟨_, List.getElem?_eq_getElem (by omega)⟩ : ∃ x, l[j]? = some x) fun x hx => ?_
        refine ⟨by omega, [.int .i64 x], nums_at hx, ?_⟩
        conv => whnf
        repeat' (first | ((with_reducible apply rd_intro); (focus (intro K hK; (conv => whnf); first | exact hK | (intro z hz; rw [wrapI (by omega)] at hz; subst hz; exact hK))); (conv => whnf)) | ((with_reducible apply gd_and); (focus ((conv => whnf) <;> first | rfl | (intro K hK; (conv => whnf); first | exact hK | (intro z hz; rw [wrapI (by omega)] at hz; subst hz; exact hK)))); (conv => whnf)) | ((with_reducible apply z_wrap); (focus omega); (conv => whnf)) | ((with_reducible first | apply mt_dec | apply mt_eq | apply mt_ne | apply mt_not | apply mt_any) <;> (intro _; conv => whnf)))
        refine (in_ok done hdn x).mono ?_
        rintro _ _ ⟨rfl, rfl⟩
        conv => whnf
        repeat' (first | ((with_reducible apply rd_intro); (focus (intro K hK; (conv => whnf); first | exact hK | (intro z hz; rw [wrapI (by omega)] at hz; subst hz; exact hK))); (conv => whnf)) | ((with_reducible apply gd_and); (focus ((conv => whnf) <;> first | rfl | (intro K hK; (conv => whnf); first | exact hK | (intro z hz; rw [wrapI (by omega)] at hz; subst hz; exact hK)))); (conv => whnf)) | ((with_reducible apply z_wrap); (focus omega); (conv => whnf)) | ((with_reducible first | apply mt_dec | apply mt_eq | apply mt_ne | apply mt_not | apply mt_any) <;> (intro _; conv => whnf)))
        · rename_i hin
          have hin' : x ∉ done := fun h => by have := inI_iff.2 h; omega
          refine ⟨by omega, [.int .i64 x], nums_at hx, ?_⟩
          conv => whnf
          refine ⟨by rw [nums_length, List.length_singleton]; show (_ + 1) * 8 ≤ _; omega, ?_⟩
          conv => whnf
          repeat' (first | ((with_reducible apply rd_intro); (focus (intro K hK; (conv => whnf); first | exact hK | (intro z hz; rw [wrapI (by omega)] at hz; subst hz; exact hK))); (conv => whnf)) | ((with_reducible apply gd_and); (focus ((conv => whnf) <;> first | rfl | (intro K hK; (conv => whnf); first | exact hK | (intro z hz; rw [wrapI (by omega)] at hz; subst hz; exact hK)))); (conv => whnf)) | ((with_reducible apply z_wrap); (focus omega); (conv => whnf)) | ((with_reducible first | apply mt_dec | apply mt_eq | apply mt_ne | apply mt_not | apply mt_any) <;> (intro _; conv => whnf)))
          refine ⟨j + 1, rfl, ?_, by omega, by omega⟩
          rw [take_snoc' hx, List.filter_append, ← nums_apps, List.filter_cons, if_pos (by simp [hin'])]
          rfl
        · rename_i hin
          have hin' : x ∈ done := inI_iff.1 (by omega)
          refine ⟨j + 1, rfl, ?_, by omega, by omega⟩
          rw [take_snoc' hx, List.filter_append, List.filter_cons, if_neg (by simp [hin']), List.filter_nil, List.append_nil]
          rfl
      · rename_i hjl
        rw [List.take_of_length_le (by omega)]
        exact ⟨rfl, rfl⟩
  · refine hbe.mono ?_
    rintro _ _ ⟨rfl, rfl⟩
    conv => whnf
    refine loop_go ttOk zOk foOk (σ := Nat) (fun j => ([(2, .d (.sl 1 (nums done))), (3, .ptr 0 0), (10, .d (.sl 1 (nums l))), (11, .arr 1), (12, .d (.int .i64 j))], [.cells d.cells, .row 3 1 (nums ((l.take j).filter fun x => !decide (x ∈ done))) false])) (fun j => j ≤ l.length) (fun j => l.length - j) [2, 3, 10, 11, 12] ?_ ?_
    · conv => whnf
      exact ⟨0, rfl, rfl, Nat.zero_le _⟩
    · intro j hj
      have hfl : ((l.take j).filter fun x => !decide (x ∈ done)).length ≤ j := by
        have h1 := List.length_filter_le (fun x => !decide (x ∈ done)) (l.take j)
        rw [List.length_take] at h1
        omega
      conv => whnf
      repeat' (first | ((with_reducible apply rd_intro); (focus (intro K hK; (conv => whnf); first | exact hK | (intro z hz; rw [wrapI (by omega)] at hz; subst hz; exact hK))); (conv => whnf)) | ((with_reducible apply gd_and); (focus ((conv => whnf) <;> first | rfl | (intro K hK; (conv => whnf); first | exact hK | (intro z hz; rw [wrapI (by omega)] at hz; subst hz; exact hK)))); (conv => whnf)) | ((with_reducible apply z_wrap); (focus omega); (conv => whnf)) | ((with_reducible first | apply mt_dec | apply mt_eq | apply mt_ne | apply mt_not | apply mt_any) <;> (intro _; conv => whnf)))
      · rename_i hjl
        refine Exists.elim (⟨_, List.getElem?_eq_getElem (by omega)⟩ : ∃ x, l[j]? = some x) fun x hx => ?_
        refine ⟨by omega, [.int .i64 x], nums_at hx, ?_⟩
        conv => whnf
        repeat' (first | ((with_reducible apply rd_intro); (focus (intro K hK; (conv => whnf); first | exact hK | (intro z hz; rw [wrapI (by omega)] at hz; subst hz; exact hK))); (conv => whnf)) | ((with_reducible apply gd_and); (focus ((conv => whnf) <;> first | rfl | (intro K hK; (conv => whnf); first | exact hK | (intro z hz; rw [wrapI (by omega)] at hz; subst hz; exact hK)))); (conv => whnf)) | ((with_reducible apply z_wrap); (focus omega); (conv => whnf)) | ((with_reducible first | apply mt_dec | apply mt_eq | apply mt_ne | apply mt_not | apply mt_any) <;> (intro _; conv => whnf)))
        refine (in_ok done hdn x).mono ?_
        rintro _ _ ⟨rfl, rfl⟩
        conv => whnf
        repeat' (first | ((with_reducible apply rd_intro); (focus (intro K hK; (conv => whnf); first | exact hK | (intro z hz; rw [wrapI (by omega)] at hz; subst hz; exact hK))); (conv => whnf)) | ((with_reducible apply gd_and); (focus ((conv => whnf) <;> first | rfl | (intro K hK; (conv => whnf); first | exact hK | (intro z hz; rw [wrapI (by omega)] at hz; subst hz; exact hK)))); (conv => whnf)) | ((with_reducible apply z_wrap); (focus omega); (conv => whnf)) | ((with_reducible first | apply mt_dec | apply mt_eq | apply mt_ne | apply mt_not | apply mt_any) <;> (intro _; conv => whnf)))
        · rename_i hin
          have hin' : x ∉ done := fun h => by have := inI_iff.2 h; omega
          refine ⟨by omega, [.int .i64 x], nums_at hx, ?_⟩
          conv => whnf
          refine ⟨by rw [nums_length, List.length_singleton]; show (_ + 1) * 8 ≤ _; omega, ?_⟩
          conv => whnf
          repeat' (first | ((with_reducible apply rd_intro); (focus (intro K hK; (conv => whnf); first | exact hK | (intro z hz; rw [wrapI (by omega)] at hz; subst hz; exact hK))); (conv => whnf)) | ((with_reducible apply gd_and); (focus ((conv => whnf) <;> first | rfl | (intro K hK; (conv => whnf); first | exact hK | (intro z hz; rw [wrapI (by omega)] at hz; subst hz; exact hK)))); (conv => whnf)) | ((with_reducible apply z_wrap); (focus omega); (conv => whnf)) | ((with_reducible first | apply mt_dec | apply mt_eq | apply mt_ne | apply mt_not | apply mt_any) <;> (intro _; conv => whnf)))
          refine ⟨j + 1, rfl, ?_, by omega, by omega⟩
          rw [take_snoc' hx, List.filter_append, ← nums_apps, List.filter_cons, if_pos (by simp [hin'])]
          rfl
        · rename_i hin
          have hin' : x ∈ done := inI_iff.1 (by omega)
          refine ⟨j + 1, rfl, ?_, by omega, by omega⟩
          rw [take_snoc' hx, List.filter_append, List.filter_cons, if_neg (by simp [hin']), List.filter_nil, List.append_nil]
          rfl
      · rename_i hjl
        rw [List.take_of_length_le (by omega)]
        exact ⟨rfl, rfl⟩
end Go.Proofs.YtoeppembokpjkaaGreat
