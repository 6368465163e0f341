/- CursorViews: for every Ask the law returns true, and its argument reads behind the call as it read before. No condition of ours. -/
import Derived.Test.YtoeppembokpjkaaCursorViewsCodE
import Derived.Test.YtoeppembokpjkaaRows

set_option linter.unusedVariables false
set_option linter.unusedSimpArgs false
namespace Go.Proofs.Ytoeppembokpjkaa
open Go.Ab Go.RowKit Go.MapKept
attribute [local irreducible] ACalls AW ADraw Into fltB fnear
set_option maxRecDepth 100000
/-- how a list of certificates comes -/
def isC (dn : DV) (l : List Cert) : Prop := (dn = .nils ∧ l = []) ∨ dn = .sl 6 (certsD l)
theorem dag_nil {f : FuncId} {post : AV → List AB → Prop} {n low : Int} {l : List Cert} {dn : DV} (hdn : isC dn l) {r : List AV} {Lin : List AB} (h : ACalls Try.prog f ((Dag.mk n low l).av :: r) Lin post) : ACalls Try.prog f (.agg [.d (.int .i64 n), .d (.int .i64 low), .d dn] :: r) Lin post := by
  rcases hdn with ⟨rfl, rfl⟩ | rfl
  · exact acalls_args (nil_third (n := 6) (by decide)) h
  · exact h
theorem before_take {d : Dag} (h : Valid d) {j : Nat} {c : Cert} (hc : d.certs[j]? = some c) : (∀ y ∈ d.certs.take j, y.before c.round c.author = true) ∧ (∀ y ∈ d.certs.take j, y.digest ≠ c.digest) := by
  obtain ⟨hj, rfl⟩ := List.getElem?_eq_some_iff.1 hc
  refine ⟨fun y hy => ?_, fun y hy e => ?_⟩
  · obtain ⟨i, hi, rfl⟩ := List.mem_take_iff_getElem.1 hy
    exact List.pairwise_iff_getElem.1 h.sorted i j (by omega) hj (by omega)
  · obtain ⟨i, hi, rfl⟩ := List.mem_take_iff_getElem.1 hy
    have := List.pairwise_iff_getElem.1 h.dig i j (by simp; omega) (by simp; omega) (by omega)
    simp at this
    exact this e
def cD : List Cert → DV
  | [] => .nils
  | c :: l => .sl 6 (certsD (c :: l))
theorem cD_is : ∀ l : List Cert, isC (cD l) l
  | [] => .inl ⟨rfl, rfl⟩
  | _ :: _ => .inr rfl
theorem cD_snoc (l : List Cert) (c : Cert) : cD (l ++ [c]) = .sl 6 (certsD (l ++ [c])) := by cases l <;> rfl
def woSt (d : Dag) (k : Nat) : DV × Nat → AF × List AB
  | (dn, j) => ([(1, .d (.int .i64 k)), (2, .ptr 0 0), (4, .ptr 1 0), (5, .ptr 2 0), (6, .d (.int .i64 j))], [.cells d.cells, .cells [.d (.int .i64 0), .d (.int .i64 0), .d .nils], .cells [.d (.int .i64 d.nodes), .d (.int .i64 d.low), .d dn]])
theorem without_ok (d : Dag) (h : Valid d) (k : Nat) : ACalls Try.prog 18 [d.av, .d (.int .i64 k)] [] (fun av L => av = .agg [.d (.int .i64 d.nodes), .d (.int .i64 d.low), .d (cD (woL d k d.certs.length))] ∧ L = []) := by
  have hcl := certsD_length d.certs
  have hlen := h.len
  refine acalls_go ttOk zOk foOk Try.func18 rfl Try.ntmps18 rfl false rfl ?_
  conv => whnf
  refine loop_go ttOk zOk foOk (σ := DV × Nat) (woSt d k) (fun s => s.2 ≤ d.certs.length ∧ s.1 = cD (woL d k s.2)) (fun s => d.certs.length - s.2) [1, 2, 4, 5, 6] ?_ ?_
  · conv => whnf
    exact ⟨(.nils, 0), rfl, rfl, Nat.zero_le _, rfl⟩
  · rintro ⟨dn, j⟩ ⟨hj, hdn⟩
    replace hj : j ≤ d.certs.length := hj
    replace hdn : dn = cD (woL d k j) := hdn
    conv => whnf
    repeat' (first | ((with_reducible apply rd_intro); (focus (intro K hK; (conv => whnf); first | exact hK | (intro z hz; rw [wrapI (by omega)] at hz; subst hz; exact hK))); (conv => whnf)) | ((with_reducible apply gd_and); (focus ((conv => whnf) <;> first | rfl | (intro K hK; (conv => whnf); first | exact hK | (intro z hz; rw [wrapI (by omega)] at hz; subst hz; exact hK)))); (conv => whnf)) | ((with_reducible apply z_wrap); (focus omega); (conv => whnf)) | ((with_reducible refine mt_dec (fun _ => ?_) (fun _ => ?_)) <;> (conv => whnf)) | ((with_reducible refine mt_eq (fun _ => ?_) (fun _ => ?_)) <;> (conv => whnf)) | ((with_reducible refine mt_ne (fun _ => ?_) (fun _ => ?_)) <;> (conv => whnf)) | ((with_reducible refine mt_not (fun _ => ?_) (fun _ => ?_)) <;> (conv => whnf)) | ((with_reducible refine mt_any (fun _ => ?_) (fun _ => ?_)) <;> (conv => whnf)))
    · rename_i hjl hjk
      have hjk' : j = k := by omega
      refine ⟨(dn, j + 1), rfl, rfl, ⟨by show j + 1 ≤ _; omega, ?_⟩, by show _ - (j + 1) < _ - j; omega⟩
      show dn = cD (woL d k (j + 1))
      rw [show woL d k (j + 1) = woL d k j by
        show (match d.certs[j]? with | some c => _ | none => _) = _
        rw [List.getElem?_eq_getElem (show j < d.certs.length by omega)]
        simp only
        rw [if_pos hjk']]
      exact hdn
    · rename_i hjl hjk
      have hjk' : j ≠ k := by omega
      refine Exists.elim (⟨_, List.getElem?_eq_getElem (by omega)⟩ : ∃ c, d.certs[j]? = some c) fun c hc => ?_
      have hcm := List.mem_of_getElem? hc
      have hwv := woL_valid h k j
      have hws := woL_sub d k j
      obtain ⟨hb1, hb2⟩ := before_take h hc
      have hadd := addLast_ok ⟨d.nodes, d.low, woL d k j⟩ hwv.tiny.1 hwv.tiny.2 c (h.tiny.2 c hcm) (h.fewL hcm) (h.certs c hcm) (h.above c hcm) (fun y hy => hb1 y (hws.subset hy)) (fun y hy => hb2 y (hws.subset hy))
      have hw1 : woL d k (j + 1) = if lacksI ⟨d.nodes, d.low, woL d k j⟩ c = [] then woL d k j ++ [c] else woL d k j := by
        show (match d.certs[j]? with | some c => _ | none => _) = _
        rw [hc]
        simp only
        rw [if_neg hjk']
      by_cases hlk : lacksI ⟨d.nodes, d.low, woL d k j⟩ c = []
      · rw [addAV, if_pos hlk] at hadd
        rw [if_pos hlk] at hw1
        replace hadd := dag_nil (show isC dn _ by rw [hdn]; exact cD_is _) hadd
        ((with_reducible refine draw_pl ttOk zOk foOk mixedOk pl18x6 ?_ ?_); (focus kernel_rfl); (conv => whnf))
        repeat' (first | ((with_reducible apply rd_intro); (focus (intro K hK; (conv => whnf); first | exact hK | (intro z hz; rw [wrapI (by omega)] at hz; subst hz; exact hK))); (conv => whnf)) | ((with_reducible apply gd_and); (focus ((conv => whnf) <;> first | rfl | (intro K hK; (conv => whnf); first | exact hK | (intro z hz; rw [wrapI (by omega)] at hz; subst hz; exact hK)))); (conv => whnf)) | ((with_reducible apply z_wrap); (focus omega); (conv => whnf)) | ((with_reducible refine mt_dec (fun _ => ?_) (fun _ => ?_)) <;> (conv => whnf)) | ((with_reducible refine mt_eq (fun _ => ?_) (fun _ => ?_)) <;> (conv => whnf)) | ((with_reducible refine mt_ne (fun _ => ?_) (fun _ => ?_)) <;> (conv => whnf)) | ((with_reducible refine mt_not (fun _ => ?_) (fun _ => ?_)) <;> (conv => whnf)) | ((with_reducible refine mt_any (fun _ => ?_) (fun _ => ?_)) <;> (conv => whnf)))
        ((with_reducible apply rd_intro); (focus (intro K hK; (conv => whnf); exact ⟨by omega, c.cs, certsD_at hc, hK⟩)); (conv => whnf))
        repeat' (first | ((with_reducible apply rd_intro); (focus (intro K hK; (conv => whnf); first | exact hK | (intro z hz; rw [wrapI (by omega)] at hz; subst hz; exact hK))); (conv => whnf)) | ((with_reducible apply gd_and); (focus ((conv => whnf) <;> first | rfl | (intro K hK; (conv => whnf); first | exact hK | (intro z hz; rw [wrapI (by omega)] at hz; subst hz; exact hK)))); (conv => whnf)) | ((with_reducible apply z_wrap); (focus omega); (conv => whnf)) | ((with_reducible refine mt_dec (fun _ => ?_) (fun _ => ?_)) <;> (conv => whnf)) | ((with_reducible refine mt_eq (fun _ => ?_) (fun _ => ?_)) <;> (conv => whnf)) | ((with_reducible refine mt_ne (fun _ => ?_) (fun _ => ?_)) <;> (conv => whnf)) | ((with_reducible refine mt_not (fun _ => ?_) (fun _ => ?_)) <;> (conv => whnf)) | ((with_reducible refine mt_any (fun _ => ?_) (fun _ => ?_)) <;> (conv => whnf)))
        ((with_reducible apply rd_intro); (focus (intro K hK; (conv => whnf); refine (hadd).mono ?_; rintro _ _ ⟨rfl, rfl⟩; (conv => whnf); exact hK)); (conv => whnf))
        repeat' (first | ((with_reducible apply rd_intro); (focus (intro K hK; (conv => whnf); first | exact hK | (intro z hz; rw [wrapI (by omega)] at hz; subst hz; exact hK))); (conv => whnf)) | ((with_reducible apply gd_and); (focus ((conv => whnf) <;> first | rfl | (intro K hK; (conv => whnf); first | exact hK | (intro z hz; rw [wrapI (by omega)] at hz; subst hz; exact hK)))); (conv => whnf)) | ((with_reducible apply z_wrap); (focus omega); (conv => whnf)) | ((with_reducible refine mt_dec (fun _ => ?_) (fun _ => ?_)) <;> (conv => whnf)) | ((with_reducible refine mt_eq (fun _ => ?_) (fun _ => ?_)) <;> (conv => whnf)) | ((with_reducible refine mt_ne (fun _ => ?_) (fun _ => ?_)) <;> (conv => whnf)) | ((with_reducible refine mt_not (fun _ => ?_) (fun _ => ?_)) <;> (conv => whnf)) | ((with_reducible refine mt_any (fun _ => ?_) (fun _ => ?_)) <;> (conv => whnf)))
        ((with_reducible apply gd_and); (focus ((conv => whnf); intro K hK; (conv => whnf); refine (hadd).mono ?_; rintro _ _ ⟨rfl, rfl⟩; (conv => whnf); exact hK)); (conv => whnf))
        repeat' (first | ((with_reducible apply rd_intro); (focus (intro K hK; (conv => whnf); first | exact hK | (intro z hz; rw [wrapI (by omega)] at hz; subst hz; exact hK))); (conv => whnf)) | ((with_reducible apply gd_and); (focus ((conv => whnf) <;> first | rfl | (intro K hK; (conv => whnf); first | exact hK | (intro z hz; rw [wrapI (by omega)] at hz; subst hz; exact hK)))); (conv => whnf)) | ((with_reducible apply z_wrap); (focus omega); (conv => whnf)) | ((with_reducible refine mt_dec (fun _ => ?_) (fun _ => ?_)) <;> (conv => whnf)) | ((with_reducible refine mt_eq (fun _ => ?_) (fun _ => ?_)) <;> (conv => whnf)) | ((with_reducible refine mt_ne (fun _ => ?_) (fun _ => ?_)) <;> (conv => whnf)) | ((with_reducible refine mt_not (fun _ => ?_) (fun _ => ?_)) <;> (conv => whnf)) | ((with_reducible refine mt_any (fun _ => ?_) (fun _ => ?_)) <;> (conv => whnf)))
        ((with_reducible apply gd_and); (focus ((conv => whnf); intro K hK; (conv => whnf); exact ⟨by omega, c.cs, certsD_at hc, hK⟩)); (conv => whnf))
        repeat' (first | ((with_reducible apply rd_intro); (focus (intro K hK; (conv => whnf); first | exact hK | (intro z hz; rw [wrapI (by omega)] at hz; subst hz; exact hK))); (conv => whnf)) | ((with_reducible apply gd_and); (focus ((conv => whnf) <;> first | rfl | (intro K hK; (conv => whnf); first | exact hK | (intro z hz; rw [wrapI (by omega)] at hz; subst hz; exact hK)))); (conv => whnf)) | ((with_reducible apply z_wrap); (focus omega); (conv => whnf)) | ((with_reducible refine mt_dec (fun _ => ?_) (fun _ => ?_)) <;> (conv => whnf)) | ((with_reducible refine mt_eq (fun _ => ?_) (fun _ => ?_)) <;> (conv => whnf)) | ((with_reducible refine mt_ne (fun _ => ?_) (fun _ => ?_)) <;> (conv => whnf)) | ((with_reducible refine mt_not (fun _ => ?_) (fun _ => ?_)) <;> (conv => whnf)) | ((with_reducible refine mt_any (fun _ => ?_) (fun _ => ?_)) <;> (conv => whnf)))
        · exact ⟨(.sl 6 (certsD (woL d k j ++ [c])), j + 1), rfl, rfl, ⟨by show j + 1 ≤ _; omega, by show _ = cD (woL d k (j + 1)); rw [hw1]; exact (cD_snoc _ _).symm⟩, by show _ - (j + 1) < _ - j; omega⟩
      · rw [addAV, if_neg hlk] at hadd
        rw [if_neg hlk] at hw1
        replace hadd := dag_nil (show isC dn _ by rw [hdn]; exact cD_is _) hadd
        ((with_reducible refine draw_pl ttOk zOk foOk mixedOk pl18x6 ?_ ?_); (focus kernel_rfl); (conv => whnf))
        repeat' (first | ((with_reducible apply rd_intro); (focus (intro K hK; (conv => whnf); first | exact hK | (intro z hz; rw [wrapI (by omega)] at hz; subst hz; exact hK))); (conv => whnf)) | ((with_reducible apply gd_and); (focus ((conv => whnf) <;> first | rfl | (intro K hK; (conv => whnf); first | exact hK | (intro z hz; rw [wrapI (by omega)] at hz; subst hz; exact hK)))); (conv => whnf)) | ((with_reducible apply z_wrap); (focus omega); (conv => whnf)) | ((with_reducible refine mt_dec (fun _ => ?_) (fun _ => ?_)) <;> (conv => whnf)) | ((with_reducible refine mt_eq (fun _ => ?_) (fun _ => ?_)) <;> (conv => whnf)) | ((with_reducible refine mt_ne (fun _ => ?_) (fun _ => ?_)) <;> (conv => whnf)) | ((with_reducible refine mt_not (fun _ => ?_) (fun _ => ?_)) <;> (conv => whnf)) | ((with_reducible refine mt_any (fun _ => ?_) (fun _ => ?_)) <;> (conv => whnf)))
        ((with_reducible apply rd_intro); (focus (intro K hK; (conv => whnf); exact ⟨by omega, c.cs, certsD_at hc, hK⟩)); (conv => whnf))
        repeat' (first | ((with_reducible apply rd_intro); (focus (intro K hK; (conv => whnf); first | exact hK | (intro z hz; rw [wrapI (by omega)] at hz; subst hz; exact hK))); (conv => whnf)) | ((with_reducible apply gd_and); (focus ((conv => whnf) <;> first | rfl | (intro K hK; (conv => whnf); first | exact hK | (intro z hz; rw [wrapI (by omega)] at hz; subst hz; exact hK)))); (conv => whnf)) | ((with_reducible apply z_wrap); (focus omega); (conv => whnf)) | ((with_reducible refine mt_dec (fun _ => ?_) (fun _ => ?_)) <;> (conv => whnf)) | ((with_reducible refine mt_eq (fun _ => ?_) (fun _ => ?_)) <;> (conv => whnf)) | ((with_reducible refine mt_ne (fun _ => ?_) (fun _ => ?_)) <;> (conv => whnf)) | ((with_reducible refine mt_not (fun _ => ?_) (fun _ => ?_)) <;> (conv => whnf)) | ((with_reducible refine mt_any (fun _ => ?_) (fun _ => ?_)) <;> (conv => whnf)))
        ((with_reducible apply rd_intro); (focus (intro K hK; (conv => whnf); refine (hadd).mono ?_; rintro _ _ ⟨rfl, rfl⟩; (conv => whnf); exact hK)); (conv => whnf))
        repeat' (first | ((with_reducible apply rd_intro); (focus (intro K hK; (conv => whnf); first | exact hK | (intro z hz; rw [wrapI (by omega)] at hz; subst hz; exact hK))); (conv => whnf)) | ((with_reducible apply gd_and); (focus ((conv => whnf) <;> first | rfl | (intro K hK; (conv => whnf); first | exact hK | (intro z hz; rw [wrapI (by omega)] at hz; subst hz; exact hK)))); (conv => whnf)) | ((with_reducible apply z_wrap); (focus omega); (conv => whnf)) | ((with_reducible refine mt_dec (fun _ => ?_) (fun _ => ?_)) <;> (conv => whnf)) | ((with_reducible refine mt_eq (fun _ => ?_) (fun _ => ?_)) <;> (conv => whnf)) | ((with_reducible refine mt_ne (fun _ => ?_) (fun _ => ?_)) <;> (conv => whnf)) | ((with_reducible refine mt_not (fun _ => ?_) (fun _ => ?_)) <;> (conv => whnf)) | ((with_reducible refine mt_any (fun _ => ?_) (fun _ => ?_)) <;> (conv => whnf)))
        ((with_reducible apply gd_and); (focus ((conv => whnf); intro K hK; (conv => whnf); refine (hadd).mono ?_; rintro _ _ ⟨rfl, rfl⟩; (conv => whnf); exact hK)); (conv => whnf))
        repeat' (first | ((with_reducible apply rd_intro); (focus (intro K hK; (conv => whnf); first | exact hK | (intro z hz; rw [wrapI (by omega)] at hz; subst hz; exact hK))); (conv => whnf)) | ((with_reducible apply gd_and); (focus ((conv => whnf) <;> first | rfl | (intro K hK; (conv => whnf); first | exact hK | (intro z hz; rw [wrapI (by omega)] at hz; subst hz; exact hK)))); (conv => whnf)) | ((with_reducible apply z_wrap); (focus omega); (conv => whnf)) | ((with_reducible refine mt_dec (fun _ => ?_) (fun _ => ?_)) <;> (conv => whnf)) | ((with_reducible refine mt_eq (fun _ => ?_) (fun _ => ?_)) <;> (conv => whnf)) | ((with_reducible refine mt_ne (fun _ => ?_) (fun _ => ?_)) <;> (conv => whnf)) | ((with_reducible refine mt_not (fun _ => ?_) (fun _ => ?_)) <;> (conv => whnf)) | ((with_reducible refine mt_any (fun _ => ?_) (fun _ => ?_)) <;> (conv => whnf)))
        ((with_reducible apply gd_and); (focus ((conv => whnf); intro K hK; (conv => whnf); exact ⟨by omega, c.cs, certsD_at hc, hK⟩)); (conv => whnf))
        repeat' (first | ((with_reducible apply rd_intro); (focus (intro K hK; (conv => whnf); first | exact hK | (intro z hz; rw [wrapI (by omega)] at hz; subst hz; exact hK))); (conv => whnf)) | ((with_reducible apply gd_and); (focus ((conv => whnf) <;> first | rfl | (intro K hK; (conv => whnf); first | exact hK | (intro z hz; rw [wrapI (by omega)] at hz; subst hz; exact hK)))); (conv => whnf)) | ((with_reducible apply z_wrap); (focus omega); (conv => whnf)) | ((with_reducible refine mt_dec (fun _ => ?_) (fun _ => ?_)) <;> (conv => whnf)) | ((with_reducible refine mt_eq (fun _ => ?_) (fun _ => ?_)) <;> (conv => whnf)) | ((with_reducible refine mt_ne (fun _ => ?_) (fun _ => ?_)) <;> (conv => whnf)) | ((with_reducible refine mt_not (fun _ => ?_) (fun _ => ?_)) <;> (conv => whnf)) | ((with_reducible refine mt_any (fun _ => ?_) (fun _ => ?_)) <;> (conv => whnf)))
        · exact ⟨(dn, j + 1), rfl, rfl, ⟨by show j + 1 ≤ _; omega, by show _ = cD (woL d k (j + 1)); rw [hw1]; exact hdn⟩, by show _ - (j + 1) < _ - j; omega⟩
    · rename_i hjl
      have : j = d.certs.length := by omega
      subst this
      rw [← hdn]
      exact ⟨rfl, rfl⟩
end Go.Proofs.Ytoeppembokpjkaa

namespace Go.Proofs.Ytoeppembokpjkaa
open Go.Ab Go.RowKit Go.MapKept
attribute [local irreducible] ACalls AW ADraw Into fltB fnear
set_option maxRecDepth 100000
theorem nums_take (l : List Int) (n : Nat) : (nums l).take n = nums (l.take n) := by simp [nums]
theorem wo_sub {d : Dag} (h : Valid d) (h0 : d.low = 0) (k : Nat) : Sub ⟨d.nodes, d.low, woL d k d.certs.length⟩ d := ⟨woL_valid h k _, h, h0, h0, rfl, (woL_sub d k _).trans (List.take_sublist ..)⟩
/-- two beginnings of one list -/
theorem pre_min {l m all : List Int} (h1 : l <+: all) (h2 : m <+: all) {n : Nat} (hn : n ≤ l.length) (hm : n ≤ m.length) : l.take n = m.take n := by
  rw [List.prefix_iff_eq_take.1 h1, List.prefix_iff_eq_take.1 h2, List.take_take, List.take_take, Nat.min_eq_left hn, Nat.min_eq_left hm]
def viewSt (p : AskG) : List Int × Nat → AF × List AB
  | (l, j) => ([(1, .ptr 0 0), (3, .d (.sl 1 (nums l))), (4, .d (.int .i64 j))], [.cells p.cells])
set_option maxHeartbeats 1000000 in
theorem cursorViews_ok (p : AskG) (hp : p.ok) : ACalls Try.prog 4 [p.av] [] (fun av L => av = .d (.bool true) ∧ L = []) := by
  have hil := nums_length p.is
  have hcl := certsD_length p.d.certs
  refine acalls_go ttOk zOk foOk Try.func4 rfl Try.ntmps4 rfl false rfl ?_
  conv => whnf
  refine (heavy_ok p hp).mono ?_
  rintro _ _ ⟨⟨b, rfl, hb⟩, rfl⟩
  cases b with
  | true =>
    conv => whnf
    exact ⟨rfl, rfl⟩
  | false =>
    obtain ⟨hl80, hi60⟩ := hb rfl
    conv => whnf
    refine (rMayDag_ok p.d hp.d).mono ?_
    rintro _ _ ⟨⟨b, rfl, hv⟩, rfl⟩
    cases b with
    | false =>
      conv => whnf
      exact ⟨rfl, rfl⟩
    | true =>
      replace hv := hv rfl
      conv => whnf
      repeat' (first | ((with_reducible apply rd_intro); (focus (intro K hK; (conv => whnf); first | exact hK | (intro z hz; rw [wrapI (by omega)] at hz; subst hz; exact hK))); (conv => whnf)) | ((with_reducible apply gd_and); (focus ((conv => whnf) <;> first | rfl | (intro K hK; (conv => whnf); first | exact hK | (intro z hz; rw [wrapI (by omega)] at hz; subst hz; exact hK)))); (conv => whnf)) | ((with_reducible apply z_wrap); (focus omega); (conv => whnf)) | ((with_reducible refine mt_dec (fun _ => ?_) (fun _ => ?_)) <;> (conv => whnf)) | ((with_reducible refine mt_eq (fun _ => ?_) (fun _ => ?_)) <;> (conv => whnf)) | ((with_reducible refine mt_ne (fun _ => ?_) (fun _ => ?_)) <;> (conv => whnf)) | ((with_reducible refine mt_not (fun _ => ?_) (fun _ => ?_)) <;> (conv => whnf)) | ((with_reducible refine mt_any (fun _ => ?_) (fun _ => ?_)) <;> (conv => whnf)))
      · exact ⟨rfl, rfl⟩
      · exact ⟨rfl, rfl⟩
      · rename_i h0 hl0
        replace h0 : p.d.low = 0 := by omega
        have hpos : 0 < p.d.certs.length := by omega
        refine aw_seal 3 ?_
        conv => whnf
        refine loop_go ttOk zOk foOk (σ := List Int × Nat) (viewSt p) (fun s => s.2 ≤ p.is.length ∧ s.1 <+: outs p.d) (fun s => p.is.length - s.2) [1, 3, 4] ?_ ?_
        · conv => whnf
          exact ⟨([], 0), rfl, rfl, Nat.zero_le _, List.nil_prefix⟩
        · rintro ⟨la, j⟩ ⟨hj, hla⟩
          replace hj : j ≤ p.is.length := hj
          replace hla : la <+: (finW p.d c0).outs := hla
          have hlal := nums_length la
          conv => whnf
          repeat' (first | ((with_reducible apply rd_intro); (focus (intro K hK; (conv => whnf); first | exact hK | (intro z hz; rw [wrapI (by omega)] at hz; subst hz; exact hK))); (conv => whnf)) | ((with_reducible apply gd_and); (focus ((conv => whnf) <;> first | rfl | (intro K hK; (conv => whnf); first | exact hK | (intro z hz; rw [wrapI (by omega)] at hz; subst hz; exact hK)))); (conv => whnf)) | ((with_reducible apply z_wrap); (focus omega); (conv => whnf)) | ((with_reducible refine mt_dec (fun _ => ?_) (fun _ => ?_)) <;> (conv => whnf)) | ((with_reducible refine mt_eq (fun _ => ?_) (fun _ => ?_)) <;> (conv => whnf)) | ((with_reducible refine mt_ne (fun _ => ?_) (fun _ => ?_)) <;> (conv => whnf)) | ((with_reducible refine mt_not (fun _ => ?_) (fun _ => ?_)) <;> (conv => whnf)) | ((with_reducible refine mt_any (fun _ => ?_) (fun _ => ?_)) <;> (conv => whnf)))
          · rename_i hjl hj10
            refine Exists.elim (⟨_, List.getElem?_eq_getElem (by omega)⟩ : ∃ x, p.is[j]? = some x) fun x hx => ?_
            have hx64 := hp.is.2 x (List.mem_of_getElem? hx)
            have hn1 := Int.emod_nonneg (x % 18446744073709551616) (show (((certsD p.d.certs).length : Int)) ≠ 0 by omega)
            refine Exists.elim (⟨((x % 18446744073709551616) % ((certsD p.d.certs).length : Int)).toNat, (Int.toNat_of_nonneg hn1).symm⟩ : ∃ n : Nat, (x % 18446744073709551616) % ((certsD p.d.certs).length : Int) = n) fun k hk => ?_
            have hwi := within_ok x (certsD p.d.certs).length (by omega) (by omega) hx64
            rw [hk] at hwi
            have hwo := without_ok p.d hv k
            have hsub := wo_sub hv h0 k
            have hst := dag_nil (cD_is (woL p.d k p.d.certs.length)) (any_data _ hsub.va hsub.la c0 .nils (.inl ⟨rfl, rfl⟩) c0_may)
            have hpre := sub_outs hsub
            have hfl := fin_len hsub.va
            unfold outs at hpre
            ((with_reducible refine draw_pl ttOk zOk foOk mixedOk pl4x7 ?_ ?_); (focus kernel_rfl); (conv => whnf))
            repeat' (first | ((with_reducible apply rd_intro); (focus (intro K hK; (conv => whnf); first | exact hK | (intro z hz; rw [wrapI (by omega)] at hz; subst hz; exact hK))); (conv => whnf)) | ((with_reducible apply gd_and); (focus ((conv => whnf) <;> first | rfl | (intro K hK; (conv => whnf); first | exact hK | (intro z hz; rw [wrapI (by omega)] at hz; subst hz; exact hK)))); (conv => whnf)) | ((with_reducible apply z_wrap); (focus omega); (conv => whnf)) | ((with_reducible refine mt_dec (fun _ => ?_) (fun _ => ?_)) <;> (conv => whnf)) | ((with_reducible refine mt_eq (fun _ => ?_) (fun _ => ?_)) <;> (conv => whnf)) | ((with_reducible refine mt_ne (fun _ => ?_) (fun _ => ?_)) <;> (conv => whnf)) | ((with_reducible refine mt_not (fun _ => ?_) (fun _ => ?_)) <;> (conv => whnf)) | ((with_reducible refine mt_any (fun _ => ?_) (fun _ => ?_)) <;> (conv => whnf)))
            ((with_reducible apply rd_intro); (focus (intro K hK; (conv => whnf); exact ⟨by omega, [.int .i64 x], nums_at hx, hK⟩)); (conv => whnf))
            repeat' (first | ((with_reducible apply rd_intro); (focus (intro K hK; (conv => whnf); first | exact hK | (intro z hz; rw [wrapI (by omega)] at hz; subst hz; exact hK))); (conv => whnf)) | ((with_reducible apply gd_and); (focus ((conv => whnf) <;> first | rfl | (intro K hK; (conv => whnf); first | exact hK | (intro z hz; rw [wrapI (by omega)] at hz; subst hz; exact hK)))); (conv => whnf)) | ((with_reducible apply z_wrap); (focus omega); (conv => whnf)) | ((with_reducible refine mt_dec (fun _ => ?_) (fun _ => ?_)) <;> (conv => whnf)) | ((with_reducible refine mt_eq (fun _ => ?_) (fun _ => ?_)) <;> (conv => whnf)) | ((with_reducible refine mt_ne (fun _ => ?_) (fun _ => ?_)) <;> (conv => whnf)) | ((with_reducible refine mt_not (fun _ => ?_) (fun _ => ?_)) <;> (conv => whnf)) | ((with_reducible refine mt_any (fun _ => ?_) (fun _ => ?_)) <;> (conv => whnf)))
            ((with_reducible apply rd_intro); (focus (intro K hK; (conv => whnf); refine (hwi).mono ?_; rintro _ _ ⟨rfl, rfl⟩; (conv => whnf); exact hK)); (conv => whnf))
            repeat' (first | ((with_reducible apply rd_intro); (focus (intro K hK; (conv => whnf); first | exact hK | (intro z hz; rw [wrapI (by omega)] at hz; subst hz; exact hK))); (conv => whnf)) | ((with_reducible apply gd_and); (focus ((conv => whnf) <;> first | rfl | (intro K hK; (conv => whnf); first | exact hK | (intro z hz; rw [wrapI (by omega)] at hz; subst hz; exact hK)))); (conv => whnf)) | ((with_reducible apply z_wrap); (focus omega); (conv => whnf)) | ((with_reducible refine mt_dec (fun _ => ?_) (fun _ => ?_)) <;> (conv => whnf)) | ((with_reducible refine mt_eq (fun _ => ?_) (fun _ => ?_)) <;> (conv => whnf)) | ((with_reducible refine mt_ne (fun _ => ?_) (fun _ => ?_)) <;> (conv => whnf)) | ((with_reducible refine mt_not (fun _ => ?_) (fun _ => ?_)) <;> (conv => whnf)) | ((with_reducible refine mt_any (fun _ => ?_) (fun _ => ?_)) <;> (conv => whnf)))
            ((with_reducible apply rd_intro); (focus (intro K hK; (conv => whnf); refine (hwo).mono ?_; rintro _ _ ⟨rfl, rfl⟩; (conv => whnf); exact hK)); (conv => whnf))
            repeat' (first | ((with_reducible apply rd_intro); (focus (intro K hK; (conv => whnf); first | exact hK | (intro z hz; rw [wrapI (by omega)] at hz; subst hz; exact hK))); (conv => whnf)) | ((with_reducible apply gd_and); (focus ((conv => whnf) <;> first | rfl | (intro K hK; (conv => whnf); first | exact hK | (intro z hz; rw [wrapI (by omega)] at hz; subst hz; exact hK)))); (conv => whnf)) | ((with_reducible apply z_wrap); (focus omega); (conv => whnf)) | ((with_reducible refine mt_dec (fun _ => ?_) (fun _ => ?_)) <;> (conv => whnf)) | ((with_reducible refine mt_eq (fun _ => ?_) (fun _ => ?_)) <;> (conv => whnf)) | ((with_reducible refine mt_ne (fun _ => ?_) (fun _ => ?_)) <;> (conv => whnf)) | ((with_reducible refine mt_not (fun _ => ?_) (fun _ => ?_)) <;> (conv => whnf)) | ((with_reducible refine mt_any (fun _ => ?_) (fun _ => ?_)) <;> (conv => whnf)))
            ((with_reducible apply gd_and); (focus ((conv => whnf); intro K hK; (conv => whnf); refine (hwo).mono ?_; rintro _ _ ⟨rfl, rfl⟩; (conv => whnf); exact hK)); (conv => whnf))
            repeat' (first | ((with_reducible apply rd_intro); (focus (intro K hK; (conv => whnf); first | exact hK | (intro z hz; rw [wrapI (by omega)] at hz; subst hz; exact hK))); (conv => whnf)) | ((with_reducible apply gd_and); (focus ((conv => whnf) <;> first | rfl | (intro K hK; (conv => whnf); first | exact hK | (intro z hz; rw [wrapI (by omega)] at hz; subst hz; exact hK)))); (conv => whnf)) | ((with_reducible apply z_wrap); (focus omega); (conv => whnf)) | ((with_reducible refine mt_dec (fun _ => ?_) (fun _ => ?_)) <;> (conv => whnf)) | ((with_reducible refine mt_eq (fun _ => ?_) (fun _ => ?_)) <;> (conv => whnf)) | ((with_reducible refine mt_ne (fun _ => ?_) (fun _ => ?_)) <;> (conv => whnf)) | ((with_reducible refine mt_not (fun _ => ?_) (fun _ => ?_)) <;> (conv => whnf)) | ((with_reducible refine mt_any (fun _ => ?_) (fun _ => ?_)) <;> (conv => whnf)))
            ((with_reducible apply gd_and); (focus ((conv => whnf); intro K hK; (conv => whnf); refine (hwi).mono ?_; rintro _ _ ⟨rfl, rfl⟩; (conv => whnf); exact hK)); (conv => whnf))
            repeat' (first | ((with_reducible apply rd_intro); (focus (intro K hK; (conv => whnf); first | exact hK | (intro z hz; rw [wrapI (by omega)] at hz; subst hz; exact hK))); (conv => whnf)) | ((with_reducible apply gd_and); (focus ((conv => whnf) <;> first | rfl | (intro K hK; (conv => whnf); first | exact hK | (intro z hz; rw [wrapI (by omega)] at hz; subst hz; exact hK)))); (conv => whnf)) | ((with_reducible apply z_wrap); (focus omega); (conv => whnf)) | ((with_reducible refine mt_dec (fun _ => ?_) (fun _ => ?_)) <;> (conv => whnf)) | ((with_reducible refine mt_eq (fun _ => ?_) (fun _ => ?_)) <;> (conv => whnf)) | ((with_reducible refine mt_ne (fun _ => ?_) (fun _ => ?_)) <;> (conv => whnf)) | ((with_reducible refine mt_not (fun _ => ?_) (fun _ => ?_)) <;> (conv => whnf)) | ((with_reducible refine mt_any (fun _ => ?_) (fun _ => ?_)) <;> (conv => whnf)))
            ((with_reducible apply gd_and); (focus ((conv => whnf); intro K hK; (conv => whnf); exact ⟨by omega, [.int .i64 x], nums_at hx, hK⟩)); (conv => whnf))
            repeat' (first | ((with_reducible apply rd_intro); (focus (intro K hK; (conv => whnf); first | exact hK | (intro z hz; rw [wrapI (by omega)] at hz; subst hz; exact hK))); (conv => whnf)) | ((with_reducible apply gd_and); (focus ((conv => whnf) <;> first | rfl | (intro K hK; (conv => whnf); first | exact hK | (intro z hz; rw [wrapI (by omega)] at hz; subst hz; exact hK)))); (conv => whnf)) | ((with_reducible apply z_wrap); (focus omega); (conv => whnf)) | ((with_reducible refine mt_dec (fun _ => ?_) (fun _ => ?_)) <;> (conv => whnf)) | ((with_reducible refine mt_eq (fun _ => ?_) (fun _ => ?_)) <;> (conv => whnf)) | ((with_reducible refine mt_ne (fun _ => ?_) (fun _ => ?_)) <;> (conv => whnf)) | ((with_reducible refine mt_not (fun _ => ?_) (fun _ => ?_)) <;> (conv => whnf)) | ((with_reducible refine mt_any (fun _ => ?_) (fun _ => ?_)) <;> (conv => whnf)))
            obtain ⟨l, hl⟩ : ∃ l, (finW ⟨p.d.nodes, p.d.low, woL p.d k p.d.certs.length⟩ c0).outs = l := ⟨_, rfl⟩
            rw [Wk.out, hl] at hst
            rw [hl] at hpre hfl
            have hll := nums_length l
            refine hst.mono ?_
            rintro _ _ ⟨rfl, rfl⟩
            conv => whnf
            refine (num_ok 0).mono ?_
            rintro _ _ ⟨rfl, rfl⟩
            conv => whnf
            repeat' (first | ((with_reducible apply rd_intro); (focus (intro K hK; (conv => whnf); first | exact hK | (intro z hz; rw [wrapI (by omega)] at hz; subst hz; exact hK))); (conv => whnf)) | ((with_reducible apply gd_and); (focus ((conv => whnf) <;> first | rfl | (intro K hK; (conv => whnf); first | exact hK | (intro z hz; rw [wrapI (by omega)] at hz; subst hz; exact hK)))); (conv => whnf)) | ((with_reducible apply z_wrap); (focus omega); (conv => whnf)) | ((with_reducible refine mt_dec (fun _ => ?_) (fun _ => ?_)) <;> (conv => whnf)) | ((with_reducible refine mt_eq (fun _ => ?_) (fun _ => ?_)) <;> (conv => whnf)) | ((with_reducible refine mt_ne (fun _ => ?_) (fun _ => ?_)) <;> (conv => whnf)) | ((with_reducible refine mt_not (fun _ => ?_) (fun _ => ?_)) <;> (conv => whnf)) | ((with_reducible refine mt_any (fun _ => ?_) (fun _ => ?_)) <;> (conv => whnf)))
            ((with_reducible refine draw_pl ttOk zOk foOk mixedOk pl4x12 ?_ ?_); (focus kernel_rfl); (conv => whnf))
            repeat' (first | ((with_reducible apply rd_intro); (focus (intro K hK; (conv => whnf); first | exact hK | (intro z hz; rw [wrapI (by omega)] at hz; subst hz; exact hK))); (conv => whnf)) | ((with_reducible apply gd_and); (focus ((conv => whnf) <;> first | rfl | (intro K hK; (conv => whnf); first | exact hK | (intro z hz; rw [wrapI (by omega)] at hz; subst hz; exact hK)))); (conv => whnf)) | ((with_reducible apply z_wrap); (focus omega); (conv => whnf)) | ((with_reducible refine mt_dec (fun _ => ?_) (fun _ => ?_)) <;> (conv => whnf)) | ((with_reducible refine mt_eq (fun _ => ?_) (fun _ => ?_)) <;> (conv => whnf)) | ((with_reducible refine mt_ne (fun _ => ?_) (fun _ => ?_)) <;> (conv => whnf)) | ((with_reducible refine mt_not (fun _ => ?_) (fun _ => ?_)) <;> (conv => whnf)) | ((with_reducible refine mt_any (fun _ => ?_) (fun _ => ?_)) <;> (conv => whnf)))
            ((with_reducible apply rd_intro); (focus (intro K hK; (conv => whnf); exact ⟨by omega, by omega, by omega, hK⟩)); (conv => whnf))
            repeat' (first | ((with_reducible apply rd_intro); (focus (intro K hK; (conv => whnf); first | exact hK | (intro z hz; rw [wrapI (by omega)] at hz; subst hz; exact hK))); (conv => whnf)) | ((with_reducible apply gd_and); (focus ((conv => whnf) <;> first | rfl | (intro K hK; (conv => whnf); first | exact hK | (intro z hz; rw [wrapI (by omega)] at hz; subst hz; exact hK)))); (conv => whnf)) | ((with_reducible apply z_wrap); (focus omega); (conv => whnf)) | ((with_reducible refine mt_dec (fun _ => ?_) (fun _ => ?_)) <;> (conv => whnf)) | ((with_reducible refine mt_eq (fun _ => ?_) (fun _ => ?_)) <;> (conv => whnf)) | ((with_reducible refine mt_ne (fun _ => ?_) (fun _ => ?_)) <;> (conv => whnf)) | ((with_reducible refine mt_not (fun _ => ?_) (fun _ => ?_)) <;> (conv => whnf)) | ((with_reducible refine mt_any (fun _ => ?_) (fun _ => ?_)) <;> (conv => whnf)))
            ((with_reducible apply rd_intro); (focus (intro K hK; (conv => whnf); exact ⟨by omega, by omega, by omega, hK⟩)); (conv => whnf))
            repeat' (first | ((with_reducible apply rd_intro); (focus (intro K hK; (conv => whnf); first | exact hK | (intro z hz; rw [wrapI (by omega)] at hz; subst hz; exact hK))); (conv => whnf)) | ((with_reducible apply gd_and); (focus ((conv => whnf) <;> first | rfl | (intro K hK; (conv => whnf); first | exact hK | (intro z hz; rw [wrapI (by omega)] at hz; subst hz; exact hK)))); (conv => whnf)) | ((with_reducible apply z_wrap); (focus omega); (conv => whnf)) | ((with_reducible refine mt_dec (fun _ => ?_) (fun _ => ?_)) <;> (conv => whnf)) | ((with_reducible refine mt_eq (fun _ => ?_) (fun _ => ?_)) <;> (conv => whnf)) | ((with_reducible refine mt_ne (fun _ => ?_) (fun _ => ?_)) <;> (conv => whnf)) | ((with_reducible refine mt_not (fun _ => ?_) (fun _ => ?_)) <;> (conv => whnf)) | ((with_reducible refine mt_any (fun _ => ?_) (fun _ => ?_)) <;> (conv => whnf)))
            have hmin : (min ((nums l).length : Int) (nums la).length).toNat = min l.length la.length := by omega
            rw [hmin, show Int.toNat 0 = 0 from rfl, List.drop_zero, List.drop_zero, nums_take, nums_take, pre_min hpre hla (Nat.min_le_left ..) (Nat.min_le_right ..)]
            refine (eqNumbers_ok _ _ (by unfold few; have := List.length_take_le' (min l.length la.length) la; have := hla.length_le; have := fin_len hv; omega)).mono ?_
            rintro _ _ ⟨rfl, rfl⟩
            rw [decide_eq_true rfl]
            conv => whnf
            repeat' (first | ((with_reducible apply rd_intro); (focus (intro K hK; (conv => whnf); first | exact hK | (intro z hz; rw [wrapI (by omega)] at hz; subst hz; exact hK))); (conv => whnf)) | ((with_reducible apply gd_and); (focus ((conv => whnf) <;> first | rfl | (intro K hK; (conv => whnf); first | exact hK | (intro z hz; rw [wrapI (by omega)] at hz; subst hz; exact hK)))); (conv => whnf)) | ((with_reducible apply z_wrap); (focus omega); (conv => whnf)) | ((with_reducible refine mt_dec (fun _ => ?_) (fun _ => ?_)) <;> (conv => whnf)) | ((with_reducible refine mt_eq (fun _ => ?_) (fun _ => ?_)) <;> (conv => whnf)) | ((with_reducible refine mt_ne (fun _ => ?_) (fun _ => ?_)) <;> (conv => whnf)) | ((with_reducible refine mt_not (fun _ => ?_) (fun _ => ?_)) <;> (conv => whnf)) | ((with_reducible refine mt_any (fun _ => ?_) (fun _ => ?_)) <;> (conv => whnf)))
            · exact ⟨(l, j + 1), rfl, rfl, ⟨by show j + 1 ≤ _; omega, hpre⟩, by show _ - (j + 1) < _ - j; omega⟩
            · exact ⟨(la, j + 1), rfl, rfl, ⟨by show j + 1 ≤ _; omega, hla⟩, by show _ - (j + 1) < _ - j; omega⟩
          all_goals
            refine wakes_ok.mono ?_
            rintro _ _ ⟨rfl, rfl⟩
            conv => whnf
            exact ⟨rfl, rfl⟩
end Go.Proofs.Ytoeppembokpjkaa

/- CursorViews: for every Ask the law returns true, and its argument reads behind the call as it read before. No condition of ours. -/
namespace Go.Proofs.Ytoeppembokpjkaa
open Go.Ab Go.RowKit Go.ChangeShapes Go.WideShapes Go.ChangeAt
theorem own : ownKnob Try.prog.godebug = none := by kernel_rfl
theorem laidOut : laidOutB Try.prog = true := by kernel_rfl
set_option maxRecDepth 100000 in
theorem cursorViews_lifted (os : Os) (started : os.Started) (H : Type) (enc : TypeId × Value → H) :
    ReturnsInHanded {} Try.checked os 4 .any (Rows.cursorViewsSpec.pre6 enc Try.prog Try.f4 Rows.cursorViewsRow.domain false) (Rows.cursorViewsSpec.post enc Try.prog Try.f4 false true false false) := by
  refine returnsInHanded_of_change_sized (C := Try.checked) own started (by kernel_rfl) Try.func4
    (ChangeSpec.witness6 (enc := enc) (C := Try.checked) false ⟨#[], #[.agg #[.int .i64 0, .int .i64 0, .slice none 0 0, .slice none 0 0, .slice none 0 0]], []⟩ 8 (by kernel_rfl) (by kernel_rfl) (by kernel_rfl) (by kernel_rfl)) ?_
  intro W base args ds gs before hval hW _ hsz _
  exact law_contract ttOk (f := Try.f4) (tb := 4) (t := 28) rfl rfl Try.underlying4 rfl (fun _ _ => rfl) laidOut (by kernel_rfl) (of_decide_eq_true (by kernel_rfl)) 7 (by kernel_rfl) argS
    (fun W base v ds h1 h2 => argS_ok Try.underlying28 h1 h2)
    (fun ds hd => by
      obtain ⟨p, hp, hok⟩ := ask_of hd
      rw [hp]
      exact cursorViews_ok p hok) hval hW hsz
theorem cursorViews_holds : Rows.CursorViewsSaid :=
  OpenClaim.holds_of_wide 4 Try.f4 rfl rfl rfl rfl rfl rfl rfl ⟨rfl, rfl, rfl, rfl, rfl⟩ rfl rfl rfl rfl rfl (by kernel_rfl) Try.func4 (by kernel_rfl)
    (of_decide_eq_true (by kernel_rfl)) (by unfold Func.isWrapper; first | (rw [if_pos (by decide +kernel)]; kernel_rfl) | (rw [if_neg (by decide +kernel)]; exact ⟨rfl, rfl⟩))
    (fun os started H enc _ => cursorViews_lifted os started H enc)
#print axioms cursorViews_holds
end Go.Proofs.Ytoeppembokpjkaa
