/- CursorTrims: for every Ask the law returns true, and its argument reads behind the call as it read before. No condition of ours. -/
import Derived.Test.YtoeppembokpjkaaCursorTrimsCodE
import Derived.Test.YtoeppembokpjkaaRows

set_option linter.unusedVariables false
set_option linter.unusedSimpArgs false
namespace Go.Proofs.Ytoeppembokpjkaa
open Go.Ab Go.RowKit Go.MapKept
attribute [local irreducible] ACalls AW ADraw Into fltB fnear
set_option maxRecDepth 100000
/-- how a list of certificates comes -/
def isC (dn : DV) (l : List Cert) : Prop := (dn = .nils ∧ l = []) ∨ dn = .sl 6 (certsD l)
theorem dag_nil {f : FuncId} {post : AV → List AB → Prop} {n low : Int} {l : List Cert} {dn : DV} (hdn : isC dn l) {r : List AV} {Lin : List AB} (h : ACalls Try.prog f ((Dag.mk n low l).av :: r) Lin post) : ACalls Try.prog f (.agg [.d (.int .i64 n), .d (.int .i64 low), .d dn] :: r) Lin post := by
  rcases hdn with ⟨rfl, rfl⟩ | rfl
  · exact acalls_args (nil_third (n := 6) (by decide)) h
  · exact h
theorem before_take {d : Dag} (h : Valid d) {j : Nat} {c : Cert} (hc : d.certs[j]? = some c) : (∀ y ∈ d.certs.take j, y.before c.round c.author = true) ∧ (∀ y ∈ d.certs.take j, y.digest ≠ c.digest) := by
  obtain ⟨hj, rfl⟩ := List.getElem?_eq_some_iff.1 hc
  refine ⟨fun y hy => ?_, fun y hy e => ?_⟩
  · obtain ⟨i, hi, rfl⟩ := List.mem_take_iff_getElem.1 hy
    exact List.pairwise_iff_getElem.1 h.sorted i j (by omega) hj (by omega)
  · obtain ⟨i, hi, rfl⟩ := List.mem_take_iff_getElem.1 hy
    have := List.pairwise_iff_getElem.1 h.dig i j (by simp; omega) (by simp; omega) (by omega)
    simp at this
    exact this e
def cD : List Cert → DV
  | [] => .nils
  | c :: l => .sl 6 (certsD (c :: l))
theorem cD_is : ∀ l : List Cert, isC (cD l) l
  | [] => .inl ⟨rfl, rfl⟩
  | _ :: _ => .inr rfl
theorem cD_snoc (l : List Cert) (c : Cert) : cD (l ++ [c]) = .sl 6 (certsD (l ++ [c])) := by cases l <;> rfl
def woSt (d : Dag) (k : Nat) : DV × Nat → AF × List AB
  | (dn, j) => ([(1, .d (.int .i64 k)), (2, .ptr 0 0), (4, .ptr 1 0), (5, .ptr 2 0), (6, .d (.int .i64 j))], [.cells d.cells, .cells [.d (.int .i64 0), .d (.int .i64 0), .d .nils], .cells [.d (.int .i64 d.nodes), .d (.int .i64 d.low), .d dn]])
theorem without_ok (d : Dag) (h : Valid d) (k : Nat) : ACalls Try.prog 18 [d.av, .d (.int .i64 k)] [] (fun av L => av = .agg [.d (.int .i64 d.nodes), .d (.int .i64 d.low), .d (cD (woL d k d.certs.length))] ∧ L = []) := by
  have hcl := certsD_length d.certs
  have hlen := h.len
  refine acalls_go ttOk zOk foOk Try.func18 rfl Try.ntmps18 rfl false rfl ?_
  conv => whnf
  refine loop_go ttOk zOk foOk (σ := DV × Nat) (woSt d k) (fun s => s.2 ≤ d.certs.length ∧ s.1 = cD (woL d k s.2)) (fun s => d.certs.length - s.2) [1, 2, 4, 5, 6] ?_ ?_
  · conv => whnf
    exact ⟨(.nils, 0), rfl, rfl, Nat.zero_le _, rfl⟩
  · rintro ⟨dn, j⟩ ⟨hj, hdn⟩
    replace hj : j ≤ d.certs.length := hj
    replace hdn : dn = cD (woL d k j) := hdn
    conv => whnf
    repeat' (first | ((with_reducible apply rd_intro); (focus (intro K hK; (conv => whnf); first | exact hK | (intro z hz; rw [wrapI (by omega)] at hz; subst hz; exact hK))); (conv => whnf)) | ((with_reducible apply gd_and); (focus ((conv => whnf) <;> first | rfl | (intro K hK; (conv => whnf); first | exact hK | (intro z hz; rw [wrapI (by omega)] at hz; subst hz; exact hK)))); (conv => whnf)) | ((with_reducible apply z_wrap); (focus omega); (conv => whnf)) | ((with_reducible refine mt_dec (fun _ => ?_) (fun _ => ?_)) <;> (conv => whnf)) | ((with_reducible refine mt_eq (fun _ => ?_) (fun _ => ?_)) <;> (conv => whnf)) | ((with_reducible refine mt_ne (fun _ => ?_) (fun _ => ?_)) <;> (conv => whnf)) | ((with_reducible refine mt_not (fun _ => ?_) (fun _ => ?_)) <;> (conv => whnf)) | ((with_reducible refine mt_any (fun _ => ?_) (fun _ => ?_)) <;> (conv => whnf)))
    · rename_i hjl hjk
      have hjk' : j = k := by omega
      refine ⟨(dn, j + 1), rfl, rfl, ⟨by show j + 1 ≤ _; omega, ?_⟩, by show _ - (j + 1) < _ - j; omega⟩
      show dn = cD (woL d k (j + 1))
      rw [show woL d k (j + 1) = woL d k j by
        show (match d.certs[j]? with | some c => _ | none => _) = _
        rw [List.getElem?_eq_getElem (show j < d.certs.length by omega)]
        simp only
        rw [if_pos hjk']]
      exact hdn
    · rename_i hjl hjk
      have hjk' : j ≠ k := by omega
      refine Exists.elim (⟨_, List.getElem?_eq_getElem (by omega)⟩ : ∃ c, d.certs[j]? = some c) fun c hc => ?_
      have hcm := List.mem_of_getElem? hc
      have hwv := woL_valid h k j
      have hws := woL_sub d k j
      obtain ⟨hb1, hb2⟩ := before_take h hc
      have hadd := addLast_ok ⟨d.nodes, d.low, woL d k j⟩ hwv.tiny.1 hwv.tiny.2 c (h.tiny.2 c hcm) (h.fewL hcm) (h.certs c hcm) (h.above c hcm) (fun y hy => hb1 y (hws.subset hy)) (fun y hy => hb2 y (hws.subset hy))
      have hw1 : woL d k (j + 1) = if lacksI ⟨d.nodes, d.low, woL d k j⟩ c = [] then woL d k j ++ [c] else woL d k j := by
        show (match d.certs[j]? with | some c => _ | none => _) = _
        rw [hc]
        simp only
        rw [if_neg hjk']
      by_cases hlk : lacksI ⟨d.nodes, d.low, woL d k j⟩ c = []
      · rw [addAV, if_pos hlk] at hadd
        rw [if_pos hlk] at hw1
        replace hadd := dag_nil (show isC dn _ by rw [hdn]; exact cD_is _) hadd
        ((with_reducible refine draw_pl ttOk zOk foOk mixedOk pl18x6 ?_ ?_); (focus kernel_rfl); (conv => whnf))
        repeat' (first | ((with_reducible apply rd_intro); (focus (intro K hK; (conv => whnf); first | exact hK | (intro z hz; rw [wrapI (by omega)] at hz; subst hz; exact hK))); (conv => whnf)) | ((with_reducible apply gd_and); (focus ((conv => whnf) <;> first | rfl | (intro K hK; (conv => whnf); first | exact hK | (intro z hz; rw [wrapI (by omega)] at hz; subst hz; exact hK)))); (conv => whnf)) | ((with_reducible apply z_wrap); (focus omega); (conv => whnf)) | ((with_reducible refine mt_dec (fun _ => ?_) (fun _ => ?_)) <;> (conv => whnf)) | ((with_reducible refine mt_eq (fun _ => ?_) (fun _ => ?_)) <;> (conv => whnf)) | ((with_reducible refine mt_ne (fun _ => ?_) (fun _ => ?_)) <;> (conv => whnf)) | ((with_reducible refine mt_not (fun _ => ?_) (fun _ => ?_)) <;> (conv => whnf)) | ((with_reducible refine mt_any (fun _ => ?_) (fun _ => ?_)) <;> (conv => whnf)))
        ((with_reducible apply rd_intro); (focus (intro K hK; (conv => whnf); exact ⟨by omega, c.cs, certsD_at hc, hK⟩)); (conv => whnf))
        repeat' (first | ((with_reducible apply rd_intro); (focus (intro K hK; (conv => whnf); first | exact hK | (intro z hz; rw [wrapI (by omega)] at hz; subst hz; exact hK))); (conv => whnf)) | ((with_reducible apply gd_and); (focus ((conv => whnf) <;> first | rfl | (intro K hK; (conv => whnf); first | exact hK | (intro z hz; rw [wrapI (by omega)] at hz; subst hz; exact hK)))); (conv => whnf)) | ((with_reducible apply z_wrap); (focus omega); (conv => whnf)) | ((with_reducible refine mt_dec (fun _ => ?_) (fun _ => ?_)) <;> (conv => whnf)) | ((with_reducible refine mt_eq (fun _ => ?_) (fun _ => ?_)) <;> (conv => whnf)) | ((with_reducible refine mt_ne (fun _ => ?_) (fun _ => ?_)) <;> (conv => whnf)) | ((with_reducible refine mt_not (fun _ => ?_) (fun _ => ?_)) <;> (conv => whnf)) | ((with_reducible refine mt_any (fun _ => ?_) (fun _ => ?_)) <;> (conv => whnf)))
        ((with_reducible apply rd_intro); (focus (intro K hK; (conv => whnf); refine (hadd).mono ?_; rintro _ _ ⟨rfl, rfl⟩; (conv => whnf); exact hK)); (conv => whnf))
        repeat' (first | ((with_reducible apply rd_intro); (focus (intro K hK; (conv => whnf); first | exact hK | (intro z hz; rw [wrapI (by omega)] at hz; subst hz; exact hK))); (conv => whnf)) | ((with_reducible apply gd_and); (focus ((conv => whnf) <;> first | rfl | (intro K hK; (conv => whnf); first | exact hK | (intro z hz; rw [wrapI (by omega)] at hz; subst hz; exact hK)))); (conv => whnf)) | ((with_reducible apply z_wrap); (focus omega); (conv => whnf)) | ((with_reducible refine mt_dec (fun _ => ?_) (fun _ => ?_)) <;> (conv => whnf)) | ((with_reducible refine mt_eq (fun _ => ?_) (fun _ => ?_)) <;> (conv => whnf)) | ((with_reducible refine mt_ne (fun _ => ?_) (fun _ => ?_)) <;> (conv => whnf)) | ((with_reducible refine mt_not (fun _ => ?_) (fun _ => ?_)) <;> (conv => whnf)) | ((with_reducible refine mt_any (fun _ => ?_) (fun _ => ?_)) <;> (conv => whnf)))
        ((with_reducible apply gd_and); (focus ((conv => whnf); intro K hK; (conv => whnf); refine (hadd).mono ?_; rintro _ _ ⟨rfl, rfl⟩; (conv => whnf); exact hK)); (conv => whnf))
        repeat' (first | ((with_reducible apply rd_intro); (focus (intro K hK; (conv => whnf); first | exact hK | (intro z hz; rw [wrapI (by omega)] at hz; subst hz; exact hK))); (conv => whnf)) | ((with_reducible apply gd_and); (focus ((conv => whnf) <;> first | rfl | (intro K hK; (conv => whnf); first | exact hK | (intro z hz; rw [wrapI (by omega)] at hz; subst hz; exact hK)))); (conv => whnf)) | ((with_reducible apply z_wrap); (focus omega); (conv => whnf)) | ((with_reducible refine mt_dec (fun _ => ?_) (fun _ => ?_)) <;> (conv => whnf)) | ((with_reducible refine mt_eq (fun _ => ?_) (fun _ => ?_)) <;> (conv => whnf)) | ((with_reducible refine mt_ne (fun _ => ?_) (fun _ => ?_)) <;> (conv => whnf)) | ((with_reducible refine mt_not (fun _ => ?_) (fun _ => ?_)) <;> (conv => whnf)) | ((with_reducible refine mt_any (fun _ => ?_) (fun _ => ?_)) <;> (conv => whnf)))
        ((with_reducible apply gd_and); (focus ((conv => whnf); intro K hK; (conv => whnf); exact ⟨by omega, c.cs, certsD_at hc, hK⟩)); (conv => whnf))
        repeat' (first | ((with_reducible apply rd_intro); (focus (intro K hK; (conv => whnf); first | exact hK | (intro z hz; rw [wrapI (by omega)] at hz; subst hz; exact hK))); (conv => whnf)) | ((with_reducible apply gd_and); (focus ((conv => whnf) <;> first | rfl | (intro K hK; (conv => whnf); first | exact hK | (intro z hz; rw [wrapI (by omega)] at hz; subst hz; exact hK)))); (conv => whnf)) | ((with_reducible apply z_wrap); (focus omega); (conv => whnf)) | ((with_reducible refine mt_dec (fun _ => ?_) (fun _ => ?_)) <;> (conv => whnf)) | ((with_reducible refine mt_eq (fun _ => ?_) (fun _ => ?_)) <;> (conv => whnf)) | ((with_reducible refine mt_ne (fun _ => ?_) (fun _ => ?_)) <;> (conv => whnf)) | ((with_reducible refine mt_not (fun _ => ?_) (fun _ => ?_)) <;> (conv => whnf)) | ((with_reducible refine mt_any (fun _ => ?_) (fun _ => ?_)) <;> (conv => whnf)))
        · exact ⟨(.sl 6 (certsD (woL d k j ++ [c])), j + 1), rfl, rfl, ⟨by show j + 1 ≤ _; omega, by show _ = cD (woL d k (j + 1)); rw [hw1]; exact (cD_snoc _ _).symm⟩, by show _ - (j + 1) < _ - j; omega⟩
      · rw [addAV, if_neg hlk] at hadd
        rw [if_neg hlk] at hw1
        replace hadd := dag_nil (show isC dn _ by rw [hdn]; exact cD_is _) hadd
        ((with_reducible refine draw_pl ttOk zOk foOk mixedOk pl18x6 ?_ ?_); (focus kernel_rfl); (conv => whnf))
        repeat' (first | ((with_reducible apply rd_intro); (focus (intro K hK; (conv => whnf); first | exact hK | (intro z hz; rw [wrapI (by omega)] at hz; subst hz; exact hK))); (conv => whnf)) | ((with_reducible apply gd_and); (focus ((conv => whnf) <;> first | rfl | (intro K hK; (conv => whnf); first | exact hK | (intro z hz; rw [wrapI (by omega)] at hz; subst hz; exact hK)))); (conv => whnf)) | ((with_reducible apply z_wrap); (focus omega); (conv => whnf)) | ((with_reducible refine mt_dec (fun _ => ?_) (fun _ => ?_)) <;> (conv => whnf)) | ((with_reducible refine mt_eq (fun _ => ?_) (fun _ => ?_)) <;> (conv => whnf)) | ((with_reducible refine mt_ne (fun _ => ?_) (fun _ => ?_)) <;> (conv => whnf)) | ((with_reducible refine mt_not (fun _ => ?_) (fun _ => ?_)) <;> (conv => whnf)) | ((with_reducible refine mt_any (fun _ => ?_) (fun _ => ?_)) <;> (conv => whnf)))
        ((with_reducible apply rd_intro); (focus (intro K hK; (conv => whnf); exact ⟨by omega, c.cs, certsD_at hc, hK⟩)); (conv => whnf))
        repeat' (first | ((with_reducible apply rd_intro); (focus (intro K hK; (conv => whnf); first | exact hK | (intro z hz; rw [wrapI (by omega)] at hz; subst hz; exact hK))); (conv => whnf)) | ((with_reducible apply gd_and); (focus ((conv => whnf) <;> first | rfl | (intro K hK; (conv => whnf); first | exact hK | (intro z hz; rw [wrapI (by omega)] at hz; subst hz; exact hK)))); (conv => whnf)) | ((with_reducible apply z_wrap); (focus omega); (conv => whnf)) | ((with_reducible refine mt_dec (fun _ => ?_) (fun _ => ?_)) <;> (conv => whnf)) | ((with_reducible refine mt_eq (fun _ => ?_) (fun _ => ?_)) <;> (conv => whnf)) | ((with_reducible refine mt_ne (fun _ => ?_) (fun _ => ?_)) <;> (conv => whnf)) | ((with_reducible refine mt_not (fun _ => ?_) (fun _ => ?_)) <;> (conv => whnf)) | ((with_reducible refine mt_any (fun _ => ?_) (fun _ => ?_)) <;> (conv => whnf)))
        ((with_reducible apply rd_intro); (focus (intro K hK; (conv => whnf); refine (hadd).mono ?_; rintro _ _ ⟨rfl, rfl⟩; (conv => whnf); exact hK)); (conv => whnf))
        repeat' (first | ((with_reducible apply rd_intro); (focus (intro K hK; (conv => whnf); first | exact hK | (intro z hz; rw [wrapI (by omega)] at hz; subst hz; exact hK))); (conv => whnf)) | ((with_reducible apply gd_and); (focus ((conv => whnf) <;> first | rfl | (intro K hK; (conv => whnf); first | exact hK | (intro z hz; rw [wrapI (by omega)] at hz; subst hz; exact hK)))); (conv => whnf)) | ((with_reducible apply z_wrap); (focus omega); (conv => whnf)) | ((with_reducible refine mt_dec (fun _ => ?_) (fun _ => ?_)) <;> (conv => whnf)) | ((with_reducible refine mt_eq (fun _ => ?_) (fun _ => ?_)) <;> (conv => whnf)) | ((with_reducible refine mt_ne (fun _ => ?_) (fun _ => ?_)) <;> (conv => whnf)) | ((with_reducible refine mt_not (fun _ => ?_) (fun _ => ?_)) <;> (conv => whnf)) | ((with_reducible refine mt_any (fun _ => ?_) (fun _ => ?_)) <;> (conv => whnf)))
        ((with_reducible apply gd_and); (focus ((conv => whnf); intro K hK; (conv => whnf); refine (hadd).mono ?_; rintro _ _ ⟨rfl, rfl⟩; (conv => whnf); exact hK)); (conv => whnf))
        repeat' (first | ((with_reducible apply rd_intro); (focus (intro K hK; (conv => whnf); first | exact hK | (intro z hz; rw [wrapI (by omega)] at hz; subst hz; exact hK))); (conv => whnf)) | ((with_reducible apply gd_and); (focus ((conv => whnf) <;> first | rfl | (intro K hK; (conv => whnf); first | exact hK | (intro z hz; rw [wrapI (by omega)] at hz; subst hz; exact hK)))); (conv => whnf)) | ((with_reducible apply z_wrap); (focus omega); (conv => whnf)) | ((with_reducible refine mt_dec (fun _ => ?_) (fun _ => ?_)) <;> (conv => whnf)) | ((with_reducible refine mt_eq (fun _ => ?_) (fun _ => ?_)) <;> (conv => whnf)) | ((with_reducible refine mt_ne (fun _ => ?_) (fun _ => ?_)) <;> (conv => whnf)) | ((with_reducible refine mt_not (fun _ => ?_) (fun _ => ?_)) <;> (conv => whnf)) | ((with_reducible refine mt_any (fun _ => ?_) (fun _ => ?_)) <;> (conv => whnf)))
        ((with_reducible apply gd_and); (focus ((conv => whnf); intro K hK; (conv => whnf); exact ⟨by omega, c.cs, certsD_at hc, hK⟩)); (conv => whnf))
        repeat' (first | ((with_reducible apply rd_intro); (focus (intro K hK; (conv => whnf); first | exact hK | (intro z hz; rw [wrapI (by omega)] at hz; subst hz; exact hK))); (conv => whnf)) | ((with_reducible apply gd_and); (focus ((conv => whnf) <;> first | rfl | (intro K hK; (conv => whnf); first | exact hK | (intro z hz; rw [wrapI (by omega)] at hz; subst hz; exact hK)))); (conv => whnf)) | ((with_reducible apply z_wrap); (focus omega); (conv => whnf)) | ((with_reducible refine mt_dec (fun _ => ?_) (fun _ => ?_)) <;> (conv => whnf)) | ((with_reducible refine mt_eq (fun _ => ?_) (fun _ => ?_)) <;> (conv => whnf)) | ((with_reducible refine mt_ne (fun _ => ?_) (fun _ => ?_)) <;> (conv => whnf)) | ((with_reducible refine mt_not (fun _ => ?_) (fun _ => ?_)) <;> (conv => whnf)) | ((with_reducible refine mt_any (fun _ => ?_) (fun _ => ?_)) <;> (conv => whnf)))
        · exact ⟨(dn, j + 1), rfl, rfl, ⟨by show j + 1 ≤ _; omega, by show _ = cD (woL d k (j + 1)); rw [hw1]; exact hdn⟩, by show _ - (j + 1) < _ - j; omega⟩
    · rename_i hjl
      have : j = d.certs.length := by omega
      subst this
      rw [← hdn]
      exact ⟨rfl, rfl⟩
end Go.Proofs.Ytoeppembokpjkaa

namespace Go.Proofs.Ytoeppembokpjkaa
open Go.Ab Go.RowKit
/-! ## a DAG without its low rounds -/
def trimD (d : Dag) (low : Int) : Dag := ⟨d.nodes, low, d.certs.filter fun c => decide (c.round > low)⟩
theorem trim_split {low : Int} : ∀ {l : List Cert}, l.Pairwise (fun x y => x.round ≤ y.round) → l = l.filter (fun c => decide (c.round ≤ low)) ++ l.filter (fun c => decide (c.round > low))
  | [], _ => rfl
  | c :: r, h => by
    have h' := List.pairwise_cons.1 h
    by_cases h1 : c.round ≤ low
    · rw [List.filter_cons, if_pos (by simpa using h1), List.filter_cons, if_neg (by simp; omega), List.cons_append, ← trim_split h'.2]
    · have h2 : r.filter (fun c => decide (c.round ≤ low)) = [] := List.filter_eq_nil_iff.2 fun y hy => by have := h'.1 y hy; simp; omega
      have h3 : r.filter (fun c => decide (c.round > low)) = r := List.filter_eq_self.2 fun y hy => by have := h'.1 y hy; simp; omega
      rw [List.filter_cons, if_neg (by simpa using h1), List.filter_cons, if_pos (by simp; omega), h2, h3]; rfl
structure Cut (d : Dag) (low : Int) : Prop where
  v : Valid d
  lo : d.low ≤ low ∧ low ≤ 1099511627776
theorem Cut.mem {d : Dag} {low : Int} (c : Cert) : c ∈ (trimD d low).certs ↔ c ∈ d.certs ∧ c.round > low := by
  show c ∈ d.certs.filter _ ↔ _
  rw [List.mem_filter, decide_eq_true_iff]
theorem Cut.valid {d : Dag} {low : Int} (h : Cut d low) : Valid (trimD d low) := by
  have hv := h.v
  have hl := hv.low
  have hs : (trimD d low).certs.Sublist d.certs := List.filter_sublist
  refine ⟨hv.nodes, ⟨by have := h.lo.1; show 0 ≤ low; omega, h.lo.2⟩, Nat.le_trans hs.length_le hv.len, fun c hc => hv.certs c (hs.subset hc), fun c hc => (Cut.mem c).1 hc |>.2, hv.sorted.sublist hs, hv.dig.sublist (hs.map _), ?_⟩
  intro c hc hr x hx
  obtain ⟨h1, h2⟩ := (Cut.mem c).1 hc
  have hr : c.round > low + 1 := hr
  obtain ⟨c', k1, k2, k3⟩ := hv.here c h1 (by have := h.lo.1; omega) x hx
  exact ⟨c', (Cut.mem c').2 ⟨k1, by omega⟩, k2, k3⟩
theorem Cut.split {d : Dag} {low : Int} (h : Cut d low) : ∃ l, d.certs = l ++ (trimD d low).certs ∧ ∀ c ∈ l, c.round ≤ low :=
  ⟨_, trim_split (h.v.sorted.imp fun h => by have := before_iff.1 h; omega), fun c hc => of_decide_eq_true (List.mem_filter.1 hc).2⟩
theorem downL_cut {dl low : Int} : ∀ {l1 l2 : List Cert} {ks : List Int}, (∀ c ∈ l2, c.round ≤ low) → downL dl low (l1 ++ l2) ks = downL dl low l1 ks
  | [], l2, ks, h => downL_low h
  | c :: r, l2, ks, h => by
    rw [List.cons_append, downL, downL]
    split
    · rfl
    · split
      · rw [downL_cut h]
      · exact downL_cut h
theorem downL_dl {dl dl2 low : Int} (hdl : dl ≤ dl2) : ∀ {l : List Cert} {ks ks2 : List Int}, (∀ c ∈ l, c.round > low → (c.digest ∈ ks ↔ c.digest ∈ ks2)) → (∀ c ∈ l, c.round > dl + 1 → c.round ≤ dl2 + 1 → ∀ x ∈ c.pars, ∀ c' ∈ l, c'.digest = x → c'.round ≤ low) → downL dl low l ks = downL dl2 low l ks2
  | [], _, _, _, _ => rfl
  | c :: r, ks, ks2, h1, h2 => by
    have h2' : ∀ c ∈ r, c.round > dl + 1 → c.round ≤ dl2 + 1 → ∀ x ∈ c.pars, ∀ c' ∈ r, c'.digest = x → c'.round ≤ low := fun y hy a b x hx c' hc' => h2 y (by simp [hy]) a b x hx c' (by simp [hc'])
    rw [downL, downL]
    by_cases hlow : c.round ≤ low
    · rw [if_pos hlow, if_pos hlow]
    · rw [if_neg hlow, if_neg hlow]
      have hk := h1 c (by simp) (by omega)
      by_cases h3 : c.digest ∈ ks
      · rw [if_pos h3, if_pos (hk.1 h3)]
        congr 1
        refine downL_dl hdl ?_ h2'
        intro y hy hyr
        have hy1 := h1 y (by simp [hy]) hyr
        by_cases h4 : c.round > dl2 + 1
        · rw [if_pos h4, if_pos (show c.round > dl + 1 by omega), mem_addS, mem_addS, hy1]
        · rw [if_neg h4]
          split
          · rename_i h5
            rw [mem_addS, hy1]
            refine ⟨fun h6 => h6.elim id fun h7 => ?_, .inl⟩
            have := h2 c (by simp) h5 (by omega) y.digest h7 y (by simp [hy]) rfl
            omega
          · exact hy1
      · rw [if_neg h3, if_neg (fun h => h3 (hk.2 h))]
        exact downL_dl hdl (fun y hy => h1 y (by simp [hy])) h2'
theorem Cut.down {d : Dag} {low : Int} (h : Cut d low) {i j : Nat} {c : Cert} (hi : (trimD d low).certs[i]? = some c) (hj : d.certs[j]? = some c) {to : Int} (ht : low ≤ to) : downI (trimD d low) i to = downI d j to := by
  have hT := h.valid
  rw [downI_eq hT.sorted hT.dig hi, downI_eq h.v.sorted h.v.dig hj]
  obtain ⟨l, hl, hlow⟩ := h.split
  have e : d.certs.reverse = (trimD d low).certs.reverse ++ l.reverse := by
    conv => lhs; rw [hl]
    rw [List.reverse_append]
  rw [e, downL_cut (fun c hc => by have := hlow c (List.mem_reverse.1 hc); omega)]
  refine (downL_dl h.lo.1 (fun _ _ _ => Iff.rfl) ?_).symm
  intro c hc h1 h2 x hx c' hc' e
  have hc := (Cut.mem c).1 (List.mem_reverse.1 hc)
  have hc' := (Cut.mem c').1 (List.mem_reverse.1 hc')
  obtain ⟨c2, k1, k2, k3⟩ := h.v.here c hc.1 h1 x hx
  have := dig_inj h.v.dig hc'.1 k1 (by rw [e, k2])
  subst this
  omega
theorem Cut.cert {d : Dag} {low : Int} (h : Cut d low) {x : Int} {c : Cert} : certOf (trimD d low) x = some c ↔ certOf d x = some c ∧ c.round > low := by
  constructor
  · intro h1
    obtain ⟨h2, rfl, _⟩ := certOf_some h1
    have := (Cut.mem c).1 h2
    exact ⟨certOf_mem h.v.dig this.1, this.2⟩
  · rintro ⟨h1, h2⟩
    obtain ⟨h3, rfl, _⟩ := certOf_some h1
    exact certOf_mem h.valid.dig ((Cut.mem c).2 ⟨h3, h2⟩)
theorem keepB_eq (d : Dag) (r x : Int) : keepB d r x = (match certOf d x with | some c => decide (c.round > r - 8) | none => false) := rfl
theorem Cut.keepB {d : Dag} {low : Int} (h : Cut d low) {r : Int} (hr : low ≤ r - 8) (x : Int) : keepB (trimD d low) r x = keepB d r x := by
  rw [keepB_eq, keepB_eq]
  cases hT : certOf (trimD d low) x with
  | some c => rw [(h.cert.1 hT).1]
  | none =>
    cases hd : certOf d x with
    | none => rfl
    | some c =>
      have : ¬ c.round > low := fun h1 => by rw [h.cert.2 ⟨hd, h1⟩] at hT; cases hT
      simp only
      rw [decide_eq_false (by omega)]
theorem Cut.put {d : Dag} {low : Int} (h : Cut d low) (w : Wk) {i j : Nat} {c : Cert} (hi : (trimD d low).certs[i]? = some c) (hj : d.certs[j]? = some c) (hr : low ≤ c.round - 8) : w.put (trimD d low) i c = w.put d j c := by
  have hb : behindI (trimD d low) i c.round w.c.done = behindI d j c.round w.c.done := by
    unfold behindI riseI
    rw [h.down hi hj hr]
  unfold Wk.put
  rw [hb]
  have : ∀ l, keepI (trimD d low) c.round l = keepI d c.round l := fun l => List.filter_congr fun x _ => h.keepB hr x
  rw [this]
theorem Cut.putA {d : Dag} {low : Int} (h : Cut d low) (w : Wk) {a : Int} {c : Cert} (ha : certOf (trimD d low) a = some c) (hr : low ≤ c.round - 8) : w.putA (trimD d low) a = w.putA d a := by
  obtain ⟨_, _, i, h1, h2⟩ := certOf_some ha
  obtain ⟨_, _, j, h3, h4⟩ := certOf_some (h.cert.1 ha).1
  rw [putA_eq h1 h2, putA_eq h3 h4]
  exact h.put w h2 h4 hr
theorem Cut.putL {d : Dag} {low : Int} (h : Cut d low) : ∀ {l : List Int} (w : Wk), (∀ a ∈ l, ∃ c, certOf (trimD d low) a = some c ∧ low ≤ c.round - 8) → w.putL (trimD d low) l = w.putL d l
  | [], w, _ => rfl
  | a :: l, w, ha => by
    obtain ⟨c, hc, hr⟩ := ha a (by simp)
    show (w.putA (trimD d low) a).putL (trimD d low) l = (w.putA d a).putL d l
    rw [h.putA w hc hr]
    exact h.putL (l := l) _ fun b hb => ha b (by simp [hb])
theorem Cut.anchor {d : Dag} {low : Int} (h : Cut d low) {r : Int} (hr : low < r) : anchorI (trimD d low) r = anchorI d r := by
  unfold anchorI
  have : atC (trimD d low).certs r (leadI (trimD d low).nodes r) = atC d.certs r (leadI d.nodes r) := by
    refine Option.ext fun c => ?_
    rw [atC_some h.valid.sorted, atC_some h.v.sorted, Cut.mem]
    constructor
    · rintro ⟨⟨h1, h2⟩, h3, h4⟩; exact ⟨h1, h3, h4⟩
    · rintro ⟨h1, h3, h4⟩; exact ⟨⟨h1, by omega⟩, h3, h4⟩
  rw [this]
theorem Cut.votes {d : Dag} {low : Int} (h : Cut d low) {r : Int} (hr : low < r) : votes (trimD d low) r = votes d r := by
  unfold Go.Proofs.Ytoeppembokpjkaa.votes
  rw [h.anchor hr]
  have : ofR (trimD d low).certs (r + 1) = ofR d.certs (r + 1) := by
    show (d.certs.filter _).filter _ = d.certs.filter _
    rw [List.filter_filter]
    refine List.filter_congr fun c _ => ?_
    by_cases h1 : c.round = r + 1
    · rw [decide_eq_true h1, decide_eq_true (by omega)]; rfl
    · rw [decide_eq_false h1]; rfl
  rw [this]
theorem Cut.settled {d : Dag} {low : Int} (h : Cut d low) {r : Int} (hr : low < r) : settled (trimD d low) r = settled d r := by
  unfold Go.Proofs.Ytoeppembokpjkaa.settled
  rw [h.votes hr]
  rfl
theorem Cut.top {d : Dag} {low : Int} (h : Cut d low) : topR (trimD d low).certs = topR d.certs ∨ (topR (trimD d low).certs = 0 ∧ topR d.certs ≤ low) := by
  obtain ⟨l, hl, hlow⟩ := h.split
  have h0 := h.v.low.1
  have h1 := h.lo.1
  cases hT : (trimD d low).certs with
  | nil =>
    refine .inr ⟨rfl, ?_⟩
    rw [hT, List.append_nil] at hl
    unfold topR
    cases hg : d.certs.getLast? with
    | none => show (0 : Int) ≤ low; omega
    | some c => exact hlow c (by rw [← hl]; exact List.mem_of_getLast? hg)
  | cons c r =>
    left
    unfold topR
    rw [hl, hT, List.getLast?_append]
    obtain ⟨x, hx⟩ : ∃ x, (c :: r).getLast? = some x := ⟨_, List.getLast?_eq_some_getLast (by simp)⟩
    rw [hx]; rfl
theorem Cut.nextR {d : Dag} {low : Int} (h : Cut d low) : ∀ r : Int, low < r → nextR (trimD d low) r = nextR d r := by
  have h0 := h.v.low.1
  have h1 := h.lo.1
  have ht := h.top
  intro r
  induction r using nextR.induct (d := d) with
  | case1 r hr => intro hl; rw [next_top hr, next_top]; omega
  | case2 r hr hs => intro hl; rw [next_here hr hs, next_here (by omega)]; rw [h.settled hl]; exact hs
  | case3 r hr hs ih =>
    intro hl
    have hs' : Go.Proofs.Ytoeppembokpjkaa.settled d r = false := by simpa using hs
    rw [next_on hr hs', next_on (by omega) (by rw [h.settled hl]; exact hs')]
    exact ih (by omega)
theorem Cut.nextC {d : Dag} {low : Int} (h : Cut d low) {after : Int} (ha : low ≤ after) : nextC (trimD d low) after = nextC d after := by
  have h1 := h.lo.1
  have h0 := h.v.low.1
  unfold Go.Proofs.Ytoeppembokpjkaa.nextC
  rw [show max after ((trimD d low).low - (trimD d low).low % 2) = after by show max after (low - low % 2) = after; omega, show max after (d.low - d.low % 2) = after by omega]
  exact h.nextR _ (by omega)
theorem Cut.reachJ {d : Dag} {low : Int} (h : Cut d low) {i j k m : Nat} {x a : Cert} (hi : (trimD d low).certs[i]? = some x) (hj : d.certs[j]? = some x) (hk : (trimD d low).certs[k]? = some a) (hm : d.certs[m]? = some a) : reachJ (trimD d low) i k = reachJ d j m := by
  have ha := ((Cut.mem a).1 (List.mem_of_getElem? hk)).2
  unfold Go.Proofs.Ytoeppembokpjkaa.reachJ
  rw [hk, hm]
  simp only
  unfold reachI
  rw [h.down hi hj (by omega)]
theorem Cut.backR {d : Dag} {low : Int} (h : Cut d low) {after : Int} (haf : low ≤ after) : ∀ (r : Int) (i j : Nat) (x : Cert), (trimD d low).certs[i]? = some x → d.certs[j]? = some x → backR (trimD d low) after r i = backR d after r j := by
  have hdl := h.lo.1
  intro r i
  induction r, i using backR.induct (d := trimD d low) (after := after) with
  | case1 r i h1 =>
    intro j x hi hj
    have h1' : r - 2 ≤ after ∨ r - 2 ≤ low := h1
    rw [back_end h1, back_end (show r - 2 ≤ after ∨ r - 2 ≤ d.low by omega)]
  | case2 r i h1 h2 ih =>
    intro j x hi hj
    have h1' : ¬ (r - 2 ≤ after ∨ r - 2 ≤ low) := h1
    rw [back_no h1 h2, ih j x hi hj, back_no (d := d) (r := r) (show ¬ (r - 2 ≤ after ∨ r - 2 ≤ d.low) by omega) (by rw [← h.anchor (show low < r - 2 by omega)]; exact h2)]
  | case3 r i h1 h2 h3 =>
    obtain ⟨j, c, h4, _⟩ := anchor_get h2
    rw [h3] at h4; cases h4
  | case4 r i h1 h2 k h3 h4 ih =>
    intro j x hi hj
    have h1' : ¬ (r - 2 ≤ after ∨ r - 2 ≤ low) := h1
    have h5 := h.anchor (r := r - 2) (by omega)
    obtain ⟨k', a, k1, k2, k3, k4, k5⟩ := anchor_idx h.valid h2
    rw [h3] at k1; cases k1
    obtain ⟨m, b, m1, m2, m3, m4, m5⟩ := anchor_idx h.v (r := r - 2) (by rw [← h5]; exact h2)
    have hab := dig_inj h.v.dig ((Cut.mem a).1 (List.mem_of_getElem? k2)).1 (List.mem_of_getElem? m2) (by rw [k3, m3, h5])
    subst hab
    rw [back_yes h1 h2 h3, if_pos h4, back_yes (show ¬ (r - 2 ≤ after ∨ r - 2 ≤ d.low) by omega) (by rw [← h5]; exact h2) m1, if_pos (by rw [← h.reachJ hi hj k2 m2]; exact h4), h5, ih m a k2 m2]
  | case5 r i h1 h2 k h3 h4 ih =>
    intro j x hi hj
    have h1' : ¬ (r - 2 ≤ after ∨ r - 2 ≤ low) := h1
    have h5 := h.anchor (r := r - 2) (by omega)
    obtain ⟨k', a, k1, k2, k3, k4, k5⟩ := anchor_idx h.valid h2
    rw [h3] at k1; cases k1
    obtain ⟨m, b, m1, m2, m3, m4, m5⟩ := anchor_idx h.v (r := r - 2) (by rw [← h5]; exact h2)
    have hab := dig_inj h.v.dig ((Cut.mem a).1 (List.mem_of_getElem? k2)).1 (List.mem_of_getElem? m2) (by rw [k3, m3, h5])
    subst hab
    rw [back_yes h1 h2 h3, if_neg h4, back_yes (show ¬ (r - 2 ≤ after ∨ r - 2 ≤ d.low) by omega) (by rw [← h5]; exact h2) m1, if_neg (by rw [← h.reachJ hi hj k2 m2]; exact h4), ih j x hi hj]
theorem Cut.backI {d : Dag} {low : Int} (h : Cut d low) {after r : Int} (haf : low ≤ after) (hr : low < r) (ha : anchorI d r ≠ 0) : backI (trimD d low) after r = backI d after r := by
  have h5 := h.anchor hr
  obtain ⟨k, a, k1, k2, k3, k4, k5⟩ := anchor_idx h.valid (r := r) (by rw [h5]; exact ha)
  obtain ⟨m, b, m1, m2, m3, m4, m5⟩ := anchor_idx h.v ha
  have hab := dig_inj h.v.dig ((Cut.mem a).1 (List.mem_of_getElem? k2)).1 (List.mem_of_getElem? m2) (by rw [k3, m3, h5])
  subst hab
  unfold Go.Proofs.Ytoeppembokpjkaa.backI
  rw [k1, m1, h5]
  rw [Option.getD_some, Option.getD_some, h.backR haf r k m a k2 m2]
theorem Cut.goF {d : Dag} {low : Int} (h : Cut d low) : ∀ (n : Nat) (w : Wk), 0 ≤ w.c.round → w.c.round % 2 = 0 → low ≤ w.c.round - 8 → Wk.goF (trimD d low) n w = Wk.goF d n w
  | 0, w, _, _, _ => rfl
  | n + 1, w, h0, h2, h8 => by
    rw [Wk.goF, Wk.goF, h.nextC (by omega)]
    split
    · rename_i hp
      have hsp := nextC_spec h.v.well h0 h2 hp
      have hall := backI_all h.v.well hsp.1 hsp.2.2.2.2.1
      rw [h.backI (by omega) (by omega) hsp.2.2.2.2.1, h.putL w (l := Go.Proofs.Ytoeppembokpjkaa.backI d w.c.round (Go.Proofs.Ytoeppembokpjkaa.nextC d w.c.round)) fun a ha => ?_]
      · have hr : (w.putL d (Go.Proofs.Ytoeppembokpjkaa.backI d w.c.round (Go.Proofs.Ytoeppembokpjkaa.nextC d w.c.round))).c.round = Go.Proofs.Ytoeppembokpjkaa.nextC d w.c.round := putL_round h.v hsp.2.2.2.2.1 hall.2.2
        exact h.goF n _ (by rw [hr]; omega) (by rw [hr]; exact hsp.2.2.2.1) (by rw [hr]; omega)
      · obtain ⟨q, q1, q2, rfl, q3⟩ := hall.1 a ha
        obtain ⟨c, hc, hcr, _⟩ := anchor_cert h.v.well q3
        exact ⟨c, h.cert.2 ⟨hc, by omega⟩, by omega⟩
    · rfl
theorem Cut.fin {d : Dag} {low : Int} (h : Cut d low) {c : Cursor} (h0 : 0 ≤ c.round) (h2 : c.round % 2 = 0) (h8 : low ≤ c.round - 8) : finW (trimD d low) c = finW d c := by
  have ht := h.top
  show Wk.goF (trimD d low) (topR (trimD d low).certs).toNat ⟨c, []⟩ = Wk.goF d (topR d.certs).toNat ⟨c, []⟩
  rw [goF_fuel h.valid (topR (trimD d low).certs).toNat (topR d.certs).toNat ⟨c, []⟩ h0 h2 (by show _ - c.round ≤ _; omega) (by show _ - c.round ≤ _; omega)]
  exact h.goF _ ⟨c, []⟩ h0 h2 h8
/-- with nothing gone -/
theorem trim_zero {d : Dag} (h : Valid d) (h0 : d.low = 0) : trimD d 0 = d := by
  unfold trimD
  rw [List.filter_eq_self.2 fun c hc => decide_eq_true (by have := (h.certs c hc).head.round; omega)]
  cases d; cases h0; rfl
/-- with its low rounds gone, as far as they may be, it goes on just the same -/
theorem trims_same {d : Dag} (h : Valid d) (hl : d.low = 0) {c : Cursor} (h0 : 0 ≤ c.round ∧ c.round ≤ 1099511627776) (h2 : c.round % 2 = 0) : Valid (trimD d (max 0 (c.round - 8))) ∧ finW (trimD d (max 0 (c.round - 8))) c = finW d c ∧ Valid (trimD d (max 0 (c.round - 8) + 1)) := by
  refine ⟨Cut.valid ⟨h, by omega, by omega⟩, ?_, Cut.valid ⟨h, by omega, by omega⟩⟩
  by_cases h8 : c.round ≤ 8
  · rw [show max 0 (c.round - 8) = 0 by omega, trim_zero h hl]
  · exact Cut.fin ⟨h, by omega, by omega⟩ h0.1 h2 (by omega)
end Go.Proofs.Ytoeppembokpjkaa

namespace Go.Proofs.Ytoeppembokpjkaa
open Go.Ab Go.RowKit Go.MapKept
attribute [local irreducible] ACalls AW ADraw Into fltB fnear
set_option maxRecDepth 100000
/-! ## the page's Trim -/
def trSt (d : Dag) (low : Int) : List Cert × Nat → AF × List AB
  | ([], j) => ([(1, .d (.int .i64 low)), (2, .ptr 0 0), (4, .ptr 1 0), (5, .ptr 2 0), (6, .d (.int .i64 j))], [.cells d.cells, .cells [.d (.int .i64 0), .d (.int .i64 0), .d .nils], .cells [.d (.int .i64 d.nodes), .d (.int .i64 low), .d .nils]])
  | (c :: l, j) => ([(1, .d (.int .i64 low)), (2, .ptr 0 0), (4, .ptr 1 0), (5, .ptr 2 0), (6, .d (.int .i64 j))], [.cells d.cells, .cells [.d (.int .i64 0), .d (.int .i64 0), .d .nils], .cells [.d (.int .i64 d.nodes), .d (.int .i64 low), .arr 3], .row 46 6 (certsD (c :: l)) false])
def overC (low : Int) (l : List Cert) : List Cert := l.filter fun c => decide (c.round > low)
theorem over_snoc {low : Int} {l : List Cert} {j : Nat} {c : Cert} (hc : l[j]? = some c) : overC low (l.take (j + 1)) = if c.round > low then overC low (l.take j) ++ [c] else overC low (l.take j) := by
  unfold overC
  rw [List.take_add_one, hc, List.filter_append]
  show _ ++ List.filter _ [c] = _
  by_cases h1 : c.round > low
  · rw [if_pos h1, List.filter_cons, if_pos (by simpa using h1)]; rfl
  · rw [if_neg h1, List.filter_cons, if_neg (by simpa using h1), List.filter_nil, List.append_nil]
def trPost (d : Dag) (low : Int) (l : List Cert) (av : AV) (L : List AB) : Prop := (l = [] ∧ av = .agg [.d (.int .i64 d.nodes), .d (.int .i64 low), .d .nils] ∧ L = []) ∨ (l ≠ [] ∧ av = .agg [.d (.int .i64 d.nodes), .d (.int .i64 low), .arr 0] ∧ L = [.row 46 6 (certsD l) false])
theorem rTrim_row (d : Dag) (h : Valid d) (low : Int) : ACalls Try.prog 20 [d.av, .d (.int .i64 low)] [] (trPost d low (overC low d.certs)) := by
  have hcl := certsD_length d.certs
  have hlen := h.len
  refine acalls_go ttOk zOk foOk Try.func20 rfl Try.ntmps20 rfl true rfl ?_
  conv => whnf
  refine loop_go ttOk zOk foOk (σ := List Cert × Nat) (trSt d low) (fun s => s.2 ≤ d.certs.length ∧ s.1 = overC low (d.certs.take s.2)) (fun s => d.certs.length - s.2) [1, 2, 4, 5, 6] ?_ ?_
  · conv => whnf
    exact ⟨([], 0), rfl, rfl, Nat.zero_le _, rfl⟩
  · rintro ⟨l, j⟩ ⟨hj, hl⟩
    replace hj : j ≤ d.certs.length := hj
    replace hl : l = overC low (d.certs.take j) := hl
    have hll : l.length ≤ d.certs.length := by rw [hl]; exact Nat.le_trans (List.length_filter_le ..) (List.length_take_le' ..)
    have hnl := certsD_length l
    cases l with
    | nil =>
      conv => whnf
      repeat' (first | ((with_reducible apply rd_intro); (focus (intro K hK; (conv => whnf); first | exact hK | (intro z hz; rw [wrapI (by omega)] at hz; subst hz; exact hK))); (conv => whnf)) | ((with_reducible apply gd_and); (focus ((conv => whnf) <;> first | rfl | (intro K hK; (conv => whnf); first | exact hK | (intro z hz; rw [wrapI (by omega)] at hz; subst hz; exact hK)))); (conv => whnf)) | ((with_reducible apply z_wrap); (focus omega); (conv => whnf)) | ((with_reducible refine mt_dec (fun _ => ?_) (fun _ => ?_)) <;> (conv => whnf)) | ((with_reducible refine mt_eq (fun _ => ?_) (fun _ => ?_)) <;> (conv => whnf)) | ((with_reducible refine mt_ne (fun _ => ?_) (fun _ => ?_)) <;> (conv => whnf)) | ((with_reducible refine mt_not (fun _ => ?_) (fun _ => ?_)) <;> (conv => whnf)) | ((with_reducible refine mt_any (fun _ => ?_) (fun _ => ?_)) <;> (conv => whnf)))
      · rename_i hjl
        refine Exists.elim (⟨_, List.getElem?_eq_getElem (by omega)⟩ : ∃ c, d.certs[j]? = some c) fun c hc => ?_
        have hw1 := over_snoc (low := low) hc
        have hct := copyCert_ok c (h.tiny.2 c (List.mem_of_getElem? hc))
        refine ⟨by omega, c.cs, certsD_at hc, ?_⟩
        conv => whnf
        repeat' (first | ((with_reducible apply rd_intro); (focus (intro K hK; (conv => whnf); first | exact hK | (intro z hz; rw [wrapI (by omega)] at hz; subst hz; exact hK))); (conv => whnf)) | ((with_reducible apply gd_and); (focus ((conv => whnf) <;> first | rfl | (intro K hK; (conv => whnf); first | exact hK | (intro z hz; rw [wrapI (by omega)] at hz; subst hz; exact hK)))); (conv => whnf)) | ((with_reducible apply z_wrap); (focus omega); (conv => whnf)) | ((with_reducible refine mt_dec (fun _ => ?_) (fun _ => ?_)) <;> (conv => whnf)) | ((with_reducible refine mt_eq (fun _ => ?_) (fun _ => ?_)) <;> (conv => whnf)) | ((with_reducible refine mt_ne (fun _ => ?_) (fun _ => ?_)) <;> (conv => whnf)) | ((with_reducible refine mt_not (fun _ => ?_) (fun _ => ?_)) <;> (conv => whnf)) | ((with_reducible refine mt_any (fun _ => ?_) (fun _ => ?_)) <;> (conv => whnf)))
        · rename_i hr
          rw [if_pos hr, ← hl] at hw1
          ((with_reducible refine draw_pl ttOk zOk foOk mixedOk pl20x6 ?_ ?_); (focus kernel_rfl); (conv => whnf))
          repeat' (first | ((with_reducible apply rd_intro); (focus (intro K hK; (conv => whnf); first | exact hK | (intro z hz; rw [wrapI (by omega)] at hz; subst hz; exact hK))); (conv => whnf)) | ((with_reducible apply gd_and); (focus ((conv => whnf) <;> first | rfl | (intro K hK; (conv => whnf); first | exact hK | (intro z hz; rw [wrapI (by omega)] at hz; subst hz; exact hK)))); (conv => whnf)) | ((with_reducible apply z_wrap); (focus omega); (conv => whnf)) | ((with_reducible refine mt_dec (fun _ => ?_) (fun _ => ?_)) <;> (conv => whnf)) | ((with_reducible refine mt_eq (fun _ => ?_) (fun _ => ?_)) <;> (conv => whnf)) | ((with_reducible refine mt_ne (fun _ => ?_) (fun _ => ?_)) <;> (conv => whnf)) | ((with_reducible refine mt_not (fun _ => ?_) (fun _ => ?_)) <;> (conv => whnf)) | ((with_reducible refine mt_any (fun _ => ?_) (fun _ => ?_)) <;> (conv => whnf)))
          ((with_reducible apply rd_intro); (focus (intro K hK; (conv => whnf); exact ⟨by omega, c.cs, certsD_at hc, hK⟩)); (conv => whnf))
          repeat' (first | ((with_reducible apply rd_intro); (focus (intro K hK; (conv => whnf); first | exact hK | (intro z hz; rw [wrapI (by omega)] at hz; subst hz; exact hK))); (conv => whnf)) | ((with_reducible apply gd_and); (focus ((conv => whnf) <;> first | rfl | (intro K hK; (conv => whnf); first | exact hK | (intro z hz; rw [wrapI (by omega)] at hz; subst hz; exact hK)))); (conv => whnf)) | ((with_reducible apply z_wrap); (focus omega); (conv => whnf)) | ((with_reducible refine mt_dec (fun _ => ?_) (fun _ => ?_)) <;> (conv => whnf)) | ((with_reducible refine mt_eq (fun _ => ?_) (fun _ => ?_)) <;> (conv => whnf)) | ((with_reducible refine mt_ne (fun _ => ?_) (fun _ => ?_)) <;> (conv => whnf)) | ((with_reducible refine mt_not (fun _ => ?_) (fun _ => ?_)) <;> (conv => whnf)) | ((with_reducible refine mt_any (fun _ => ?_) (fun _ => ?_)) <;> (conv => whnf)))
          refine hct.mono ?_
          rintro _ _ ⟨rfl, rfl⟩
          conv => whnf
          repeat' (first | ((with_reducible apply rd_intro); (focus (intro K hK; (conv => whnf); first | exact hK | (intro z hz; rw [wrapI (by omega)] at hz; subst hz; exact hK))); (conv => whnf)) | ((with_reducible apply gd_and); (focus ((conv => whnf) <;> first | rfl | (intro K hK; (conv => whnf); first | exact hK | (intro z hz; rw [wrapI (by omega)] at hz; subst hz; exact hK)))); (conv => whnf)) | ((with_reducible apply z_wrap); (focus omega); (conv => whnf)) | ((with_reducible refine mt_dec (fun _ => ?_) (fun _ => ?_)) <;> (conv => whnf)) | ((with_reducible refine mt_eq (fun _ => ?_) (fun _ => ?_)) <;> (conv => whnf)) | ((with_reducible refine mt_ne (fun _ => ?_) (fun _ => ?_)) <;> (conv => whnf)) | ((with_reducible refine mt_not (fun _ => ?_) (fun _ => ?_)) <;> (conv => whnf)) | ((with_reducible refine mt_any (fun _ => ?_) (fun _ => ?_)) <;> (conv => whnf)))
          · refine ⟨by simp [hnl] at hll ⊢ <;> omega, ?_⟩
            conv => whnf
            repeat' (first | ((with_reducible apply rd_intro); (focus (intro K hK; (conv => whnf); first | exact hK | (intro z hz; rw [wrapI (by omega)] at hz; subst hz; exact hK))); (conv => whnf)) | ((with_reducible apply gd_and); (focus ((conv => whnf) <;> first | rfl | (intro K hK; (conv => whnf); first | exact hK | (intro z hz; rw [wrapI (by omega)] at hz; subst hz; exact hK)))); (conv => whnf)) | ((with_reducible apply z_wrap); (focus omega); (conv => whnf)) | ((with_reducible refine mt_dec (fun _ => ?_) (fun _ => ?_)) <;> (conv => whnf)) | ((with_reducible refine mt_eq (fun _ => ?_) (fun _ => ?_)) <;> (conv => whnf)) | ((with_reducible refine mt_ne (fun _ => ?_) (fun _ => ?_)) <;> (conv => whnf)) | ((with_reducible refine mt_not (fun _ => ?_) (fun _ => ?_)) <;> (conv => whnf)) | ((with_reducible refine mt_any (fun _ => ?_) (fun _ => ?_)) <;> (conv => whnf)))
            refine ⟨(_, j + 1), rfl, ?_, ⟨by show j + 1 ≤ _; omega, hw1.symm⟩, by show _ - (j + 1) < _ - j; omega⟩
            simp [trSt, Dag.cells, certsD, Cert.cs]
        · rename_i hr
          rw [if_neg hr, ← hl] at hw1
          exact ⟨(_, j + 1), rfl, rfl, ⟨by show j + 1 ≤ _; omega, hw1.symm⟩, by show _ - (j + 1) < _ - j; omega⟩
      · rename_i hjl
        have : j = d.certs.length := by omega
        subst this
        rw [List.take_length] at hl
        rw [← hl]
        first | exact .inl ⟨rfl, rfl, rfl⟩ | exact .inr ⟨by simp, rfl, rfl⟩
    | cons c1 l =>
      conv => whnf
      repeat' (first | ((with_reducible apply rd_intro); (focus (intro K hK; (conv => whnf); first | exact hK | (intro z hz; rw [wrapI (by omega)] at hz; subst hz; exact hK))); (conv => whnf)) | ((with_reducible apply gd_and); (focus ((conv => whnf) <;> first | rfl | (intro K hK; (conv => whnf); first | exact hK | (intro z hz; rw [wrapI (by omega)] at hz; subst hz; exact hK)))); (conv => whnf)) | ((with_reducible apply z_wrap); (focus omega); (conv => whnf)) | ((with_reducible refine mt_dec (fun _ => ?_) (fun _ => ?_)) <;> (conv => whnf)) | ((with_reducible refine mt_eq (fun _ => ?_) (fun _ => ?_)) <;> (conv => whnf)) | ((with_reducible refine mt_ne (fun _ => ?_) (fun _ => ?_)) <;> (conv => whnf)) | ((with_reducible refine mt_not (fun _ => ?_) (fun _ => ?_)) <;> (conv => whnf)) | ((with_reducible refine mt_any (fun _ => ?_) (fun _ => ?_)) <;> (conv => whnf)))
      · rename_i hjl
        refine Exists.elim (⟨_, List.getElem?_eq_getElem (by omega)⟩ : ∃ c, d.certs[j]? = some c) fun c hc => ?_
        have hw1 := over_snoc (low := low) hc
        have hct := copyCert_ok c (h.tiny.2 c (List.mem_of_getElem? hc))
        refine ⟨by omega, c.cs, certsD_at hc, ?_⟩
        conv => whnf
        repeat' (first | ((with_reducible apply rd_intro); (focus (intro K hK; (conv => whnf); first | exact hK | (intro z hz; rw [wrapI (by omega)] at hz; subst hz; exact hK))); (conv => whnf)) | ((with_reducible apply gd_and); (focus ((conv => whnf) <;> first | rfl | (intro K hK; (conv => whnf); first | exact hK | (intro z hz; rw [wrapI (by omega)] at hz; subst hz; exact hK)))); (conv => whnf)) | ((with_reducible apply z_wrap); (focus omega); (conv => whnf)) | ((with_reducible refine mt_dec (fun _ => ?_) (fun _ => ?_)) <;> (conv => whnf)) | ((with_reducible refine mt_eq (fun _ => ?_) (fun _ => ?_)) <;> (conv => whnf)) | ((with_reducible refine mt_ne (fun _ => ?_) (fun _ => ?_)) <;> (conv => whnf)) | ((with_reducible refine mt_not (fun _ => ?_) (fun _ => ?_)) <;> (conv => whnf)) | ((with_reducible refine mt_any (fun _ => ?_) (fun _ => ?_)) <;> (conv => whnf)))
        · rename_i hr
          rw [if_pos hr, ← hl] at hw1
          ((with_reducible refine draw_pl ttOk zOk foOk mixedOk pl20x6 ?_ ?_); (focus kernel_rfl); (conv => whnf))
          repeat' (first | ((with_reducible apply rd_intro); (focus (intro K hK; (conv => whnf); first | exact hK | (intro z hz; rw [wrapI (by omega)] at hz; subst hz; exact hK))); (conv => whnf)) | ((with_reducible apply gd_and); (focus ((conv => whnf) <;> first | rfl | (intro K hK; (conv => whnf); first | exact hK | (intro z hz; rw [wrapI (by omega)] at hz; subst hz; exact hK)))); (conv => whnf)) | ((with_reducible apply z_wrap); (focus omega); (conv => whnf)) | ((with_reducible refine mt_dec (fun _ => ?_) (fun _ => ?_)) <;> (conv => whnf)) | ((with_reducible refine mt_eq (fun _ => ?_) (fun _ => ?_)) <;> (conv => whnf)) | ((with_reducible refine mt_ne (fun _ => ?_) (fun _ => ?_)) <;> (conv => whnf)) | ((with_reducible refine mt_not (fun _ => ?_) (fun _ => ?_)) <;> (conv => whnf)) | ((with_reducible refine mt_any (fun _ => ?_) (fun _ => ?_)) <;> (conv => whnf)))
          ((with_reducible apply rd_intro); (focus (intro K hK; (conv => whnf); exact ⟨by omega, c.cs, certsD_at hc, hK⟩)); (conv => whnf))
          repeat' (first | ((with_reducible apply rd_intro); (focus (intro K hK; (conv => whnf); first | exact hK | (intro z hz; rw [wrapI (by omega)] at hz; subst hz; exact hK))); (conv => whnf)) | ((with_reducible apply gd_and); (focus ((conv => whnf) <;> first | rfl | (intro K hK; (conv => whnf); first | exact hK | (intro z hz; rw [wrapI (by omega)] at hz; subst hz; exact hK)))); (conv => whnf)) | ((with_reducible apply z_wrap); (focus omega); (conv => whnf)) | ((with_reducible refine mt_dec (fun _ => ?_) (fun _ => ?_)) <;> (conv => whnf)) | ((with_reducible refine mt_eq (fun _ => ?_) (fun _ => ?_)) <;> (conv => whnf)) | ((with_reducible refine mt_ne (fun _ => ?_) (fun _ => ?_)) <;> (conv => whnf)) | ((with_reducible refine mt_not (fun _ => ?_) (fun _ => ?_)) <;> (conv => whnf)) | ((with_reducible refine mt_any (fun _ => ?_) (fun _ => ?_)) <;> (conv => whnf)))
          refine hct.mono ?_
          rintro _ _ ⟨rfl, rfl⟩
          conv => whnf
          repeat' (first | ((with_reducible apply rd_intro); (focus (intro K hK; (conv => whnf); first | exact hK | (intro z hz; rw [wrapI (by omega)] at hz; subst hz; exact hK))); (conv => whnf)) | ((with_reducible apply gd_and); (focus ((conv => whnf) <;> first | rfl | (intro K hK; (conv => whnf); first | exact hK | (intro z hz; rw [wrapI (by omega)] at hz; subst hz; exact hK)))); (conv => whnf)) | ((with_reducible apply z_wrap); (focus omega); (conv => whnf)) | ((with_reducible refine mt_dec (fun _ => ?_) (fun _ => ?_)) <;> (conv => whnf)) | ((with_reducible refine mt_eq (fun _ => ?_) (fun _ => ?_)) <;> (conv => whnf)) | ((with_reducible refine mt_ne (fun _ => ?_) (fun _ => ?_)) <;> (conv => whnf)) | ((with_reducible refine mt_not (fun _ => ?_) (fun _ => ?_)) <;> (conv => whnf)) | ((with_reducible refine mt_any (fun _ => ?_) (fun _ => ?_)) <;> (conv => whnf)))
          · refine ⟨by simp [hnl] at hll ⊢ <;> omega, ?_⟩
            conv => whnf
            repeat' (first | ((with_reducible apply rd_intro); (focus (intro K hK; (conv => whnf); first | exact hK | (intro z hz; rw [wrapI (by omega)] at hz; subst hz; exact hK))); (conv => whnf)) | ((with_reducible apply gd_and); (focus ((conv => whnf) <;> first | rfl | (intro K hK; (conv => whnf); first | exact hK | (intro z hz; rw [wrapI (by omega)] at hz; subst hz; exact hK)))); (conv => whnf)) | ((with_reducible apply z_wrap); (focus omega); (conv => whnf)) | ((with_reducible refine mt_dec (fun _ => ?_) (fun _ => ?_)) <;> (conv => whnf)) | ((with_reducible refine mt_eq (fun _ => ?_) (fun _ => ?_)) <;> (conv => whnf)) | ((with_reducible refine mt_ne (fun _ => ?_) (fun _ => ?_)) <;> (conv => whnf)) | ((with_reducible refine mt_not (fun _ => ?_) (fun _ => ?_)) <;> (conv => whnf)) | ((with_reducible refine mt_any (fun _ => ?_) (fun _ => ?_)) <;> (conv => whnf)))
            refine ⟨(_, j + 1), rfl, ?_, ⟨by show j + 1 ≤ _; omega, hw1.symm⟩, by show _ - (j + 1) < _ - j; omega⟩
            simp [trSt, Dag.cells, certsD, Cert.cs]
        · rename_i hr
          rw [if_neg hr, ← hl] at hw1
          exact ⟨(_, j + 1), rfl, rfl, ⟨by show j + 1 ≤ _; omega, hw1.symm⟩, by show _ - (j + 1) < _ - j; omega⟩
      · rename_i hjl
        have : j = d.certs.length := by omega
        subst this
        rw [List.take_length] at hl
        rw [← hl]
        first | exact .inl ⟨rfl, rfl, rfl⟩ | exact .inr ⟨by simp, rfl, rfl⟩
theorem rTrim_ok (d : Dag) (h : Valid d) (low : Int) : ACalls Try.prog 20 [d.av, .d (.int .i64 low)] [] (fun av L => av = .agg [.d (.int .i64 d.nodes), .d (.int .i64 low), .d (cD (trimD d low).certs)] ∧ L = []) := by
  refine acalls_data (rTrim_row d h low) ?_
  rintro _ _ (⟨hl, rfl, rfl⟩ | ⟨hl, rfl, rfl⟩)
  · rw [show (trimD d low).certs = [] from hl]
    conv => whnf
    exact ⟨rfl, rfl⟩
  · show dataK _ _ _
    obtain ⟨c, l, e⟩ := List.exists_cons_of_ne_nil hl
    rw [show (trimD d low).certs = c :: l from e, e]
    conv => whnf
    exact ⟨rfl, rfl⟩
/-! ## a step of a DAG that may be, by a cursor that may be -/
theorem step_go (d : Dag) (h : Valid d) (c : Cursor) (dn : DV) (hdn : isDone dn c.done) (hc : curMay c) (ho : ¬ old d c) : ACalls Try.prog 12 [d.av, .agg [.d (.int .i64 c.round), .d dn, .d (.int .i64 c.count)]] [] (fun av L => av = (finW d c).out ∧ L = []) := by
  refine acalls_data (step_ok d h.well (dagMay_ok d h) c dn hdn hc) ?_
  rintro _ _ (⟨h1, _⟩ | ⟨_, rfl, rfl⟩)
  · exact absurd h1 ho
  · rw [Wk.res]
    conv => whnf
    exact ⟨rfl, rfl⟩
theorem step_old (d : Dag) (h : Valid d) (c : Cursor) (dn : DV) (hdn : isDone dn c.done) (hc : curMay c) (ho : old d c) : ACalls Try.prog 12 [d.av, .agg [.d (.int .i64 c.round), .d dn, .d (.int .i64 c.count)]] [] (fun av L => av = .tup [zCurAV, .d (.sl 1 []), .d (.int .i64 6)] ∧ L = []) := by
  refine (step_ok d h.well (dagMay_ok d h) c dn hdn hc).mono ?_
  rintro _ _ (⟨_, h1, h2⟩ | ⟨h1, _⟩)
  · exact ⟨h1, h2⟩
  · exact absurd ho h1
end Go.Proofs.Ytoeppembokpjkaa

namespace Go.Proofs.Ytoeppembokpjkaa
open Go.Ab Go.RowKit Go.MapKept
attribute [local irreducible] ACalls AW ADraw Into fltB fnear
set_option maxRecDepth 100000
set_option maxHeartbeats 1000000 in
theorem cursorTrims_ok (p : AskG) (hp : p.ok) : ACalls Try.prog 6 [p.av] [] (fun av L => av = .d (.bool true) ∧ L = []) := by
  have hcl := certsD_length p.d.certs
  refine acalls_go ttOk zOk foOk Try.func6 rfl Try.ntmps6 rfl false rfl ?_
  conv => whnf
  refine (heavy_ok p hp).mono ?_
  rintro _ _ ⟨⟨b, rfl, hb⟩, rfl⟩
  cases b with
  | true =>
    conv => whnf
    exact ⟨rfl, rfl⟩
  | false =>
    obtain ⟨hl80, hi60⟩ := hb rfl
    conv => whnf
    refine (rMayDag_ok p.d hp.d).mono ?_
    rintro _ _ ⟨⟨b, rfl, hv⟩, rfl⟩
    cases b with
    | false =>
      conv => whnf
      exact ⟨rfl, rfl⟩
    | true =>
      replace hv := hv rfl
      conv => whnf
      repeat' (first | ((with_reducible apply rd_intro); (focus (intro K hK; (conv => whnf); first | exact hK | (intro z hz; rw [wrapI (by omega)] at hz; subst hz; exact hK))); (conv => whnf)) | ((with_reducible apply gd_and); (focus ((conv => whnf) <;> first | rfl | (intro K hK; (conv => whnf); first | exact hK | (intro z hz; rw [wrapI (by omega)] at hz; subst hz; exact hK)))); (conv => whnf)) | ((with_reducible apply z_wrap); (focus omega); (conv => whnf)) | ((with_reducible refine mt_dec (fun _ => ?_) (fun _ => ?_)) <;> (conv => whnf)) | ((with_reducible refine mt_eq (fun _ => ?_) (fun _ => ?_)) <;> (conv => whnf)) | ((with_reducible refine mt_ne (fun _ => ?_) (fun _ => ?_)) <;> (conv => whnf)) | ((with_reducible refine mt_not (fun _ => ?_) (fun _ => ?_)) <;> (conv => whnf)) | ((with_reducible refine mt_any (fun _ => ?_) (fun _ => ?_)) <;> (conv => whnf)))
      · exact ⟨rfl, rfl⟩
      · exact ⟨rfl, rfl⟩
      · rename_i h0 hl60
        replace h0 : p.d.low = 0 := by omega
        have hq : (((certsD p.d.certs).length : Int)).tdiv 2 = ((p.d.certs.length / 2 : Nat) : Int) := by rw [hcl]; rfl
        rw [hq]
        refine ⟨by decide, ?_⟩
        obtain ⟨n, hn⟩ : ∃ n, p.d.certs.length / 2 = n := ⟨_, rfl⟩
        rw [hn]
        have hnl : n ≤ p.d.certs.length := by omega
        ((with_reducible apply z_wrap); (focus omega); (conv => whnf))
        refine (part_ok p.d hv.tiny.1 hv.tiny.2 n hnl).mono ?_
        rintro _ _ ⟨rfl, rfl⟩
        conv => whnf
        repeat' (first | ((with_reducible apply rd_intro); (focus (intro K hK; (conv => whnf); first | exact hK | (intro z hz; rw [wrapI (by omega)] at hz; subst hz; exact hK))); (conv => whnf)) | ((with_reducible apply gd_and); (focus ((conv => whnf) <;> first | rfl | (intro K hK; (conv => whnf); first | exact hK | (intro z hz; rw [wrapI (by omega)] at hz; subst hz; exact hK)))); (conv => whnf)) | ((with_reducible apply z_wrap); (focus omega); (conv => whnf)) | ((with_reducible refine mt_dec (fun _ => ?_) (fun _ => ?_)) <;> (conv => whnf)) | ((with_reducible refine mt_eq (fun _ => ?_) (fun _ => ?_)) <;> (conv => whnf)) | ((with_reducible refine mt_ne (fun _ => ?_) (fun _ => ?_)) <;> (conv => whnf)) | ((with_reducible refine mt_not (fun _ => ?_) (fun _ => ?_)) <;> (conv => whnf)) | ((with_reducible refine mt_any (fun _ => ?_) (fun _ => ?_)) <;> (conv => whnf)))
        have hpv := pt_valid hv h0 n
        have hcm := fin_may hpv rfl
        refine (any_data (pt p.d n) hpv rfl c0 .nils (.inl ⟨rfl, rfl⟩) c0_may).mono ?_
        rintro _ _ ⟨rfl, rfl⟩
        rw [Wk.out]
        obtain ⟨c, hc⟩ : ∃ c, (finW (pt p.d n) c0).c = c := ⟨_, rfl⟩
        obtain ⟨l0, hl0⟩ : ∃ c, (finW (pt p.d n) c0).outs = c := ⟨_, rfl⟩
        rw [hc, hl0]
        rw [hc] at hcm
        have hcr := hcm.round
        conv => whnf
        refine (num_ok 0).mono ?_
        rintro _ _ ⟨rfl, rfl⟩
        conv => whnf
        repeat' (first | ((with_reducible apply rd_intro); (focus (intro K hK; (conv => whnf); first | exact hK | (intro z hz; rw [wrapI (by omega)] at hz; subst hz; exact hK))); (conv => whnf)) | ((with_reducible apply gd_and); (focus ((conv => whnf) <;> first | rfl | (intro K hK; (conv => whnf); first | exact hK | (intro z hz; rw [wrapI (by omega)] at hz; subst hz; exact hK)))); (conv => whnf)) | ((with_reducible apply z_wrap); (focus omega); (conv => whnf)) | ((with_reducible refine mt_dec (fun _ => ?_) (fun _ => ?_)) <;> (conv => whnf)) | ((with_reducible refine mt_eq (fun _ => ?_) (fun _ => ?_)) <;> (conv => whnf)) | ((with_reducible refine mt_ne (fun _ => ?_) (fun _ => ?_)) <;> (conv => whnf)) | ((with_reducible refine mt_not (fun _ => ?_) (fun _ => ?_)) <;> (conv => whnf)) | ((with_reducible refine mt_any (fun _ => ?_) (fun _ => ?_)) <;> (conv => whnf)))
        obtain ⟨t1, t2, t3⟩ := trims_same hv h0 ⟨hcr.1, hcr.2.1⟩ hcr.2.2
        have hst := any_data p.d hv h0 c (.sl 1 (nums c.done)) (.inr rfl) hcm
        have hlow : max 0 (c.round - 8) = if c.round ≤ 8 then 0 else c.round - 8 := by split <;> omega
        obtain ⟨low, hlo⟩ : ∃ low, max 0 (c.round - 8) = low := ⟨_, rfl⟩
        rw [hlo] at t1 t2 t3
        have hst2 := dag_nil (cD_is _) (step_go (trimD p.d low) t1 c (.sl 1 (nums c.done)) (.inr rfl) hcm (show ¬ (low > 0 ∧ low > c.round - 8) by omega))
        have hst3 := dag_nil (cD_is _) (step_old (trimD p.d (low + 1)) t3 c (.sl 1 (nums c.done)) (.inr rfl) hcm (show (low + 1 > 0 ∧ low + 1 > c.round - 8) by omega))
        have htr2 := rTrim_ok p.d hv low
        have htr3 := rTrim_ok p.d hv (low + 1)
        rw [t2] at hst2
        obtain ⟨l, hl⟩ : ∃ l, (finW p.d c).outs = l := ⟨_, rfl⟩
        obtain ⟨a, ha⟩ : ∃ l, (finW p.d c).c = l := ⟨_, rfl⟩
        rw [Wk.out, hl, ha] at hst hst2
        refine hst.mono ?_
        rintro _ _ ⟨rfl, rfl⟩
        conv => whnf
        repeat' (first | ((with_reducible apply rd_intro); (focus (intro K hK; (conv => whnf); first | exact hK | (intro z hz; rw [wrapI (by omega)] at hz; subst hz; exact hK))); (conv => whnf)) | ((with_reducible apply gd_and); (focus ((conv => whnf) <;> first | rfl | (intro K hK; (conv => whnf); first | exact hK | (intro z hz; rw [wrapI (by omega)] at hz; subst hz; exact hK)))); (conv => whnf)) | ((with_reducible apply z_wrap); (focus omega); (conv => whnf)) | ((with_reducible refine mt_dec (fun _ => ?_) (fun _ => ?_)) <;> (conv => whnf)) | ((with_reducible refine mt_eq (fun _ => ?_) (fun _ => ?_)) <;> (conv => whnf)) | ((with_reducible refine mt_ne (fun _ => ?_) (fun _ => ?_)) <;> (conv => whnf)) | ((with_reducible refine mt_not (fun _ => ?_) (fun _ => ?_)) <;> (conv => whnf)) | ((with_reducible refine mt_any (fun _ => ?_) (fun _ => ?_)) <;> (conv => whnf)))
        rw [hlo]
        ((with_reducible refine draw_pl ttOk zOk foOk mixedOk pl6x9 ?_ ?_); (focus kernel_rfl); (conv => whnf))
        repeat' (first | ((with_reducible apply rd_intro); (focus (intro K hK; (conv => whnf); first | exact hK | (intro z hz; rw [wrapI (by omega)] at hz; subst hz; exact hK))); (conv => whnf)) | ((with_reducible apply gd_and); (focus ((conv => whnf) <;> first | rfl | (intro K hK; (conv => whnf); first | exact hK | (intro z hz; rw [wrapI (by omega)] at hz; subst hz; exact hK)))); (conv => whnf)) | ((with_reducible apply z_wrap); (focus omega); (conv => whnf)) | ((with_reducible refine mt_dec (fun _ => ?_) (fun _ => ?_)) <;> (conv => whnf)) | ((with_reducible refine mt_eq (fun _ => ?_) (fun _ => ?_)) <;> (conv => whnf)) | ((with_reducible refine mt_ne (fun _ => ?_) (fun _ => ?_)) <;> (conv => whnf)) | ((with_reducible refine mt_not (fun _ => ?_) (fun _ => ?_)) <;> (conv => whnf)) | ((with_reducible refine mt_any (fun _ => ?_) (fun _ => ?_)) <;> (conv => whnf)))
        ((with_reducible apply rd_intro); (focus (intro K hK; (conv => whnf); refine (htr2).mono ?_; rintro _ _ ⟨rfl, rfl⟩; (conv => whnf); exact hK)); (conv => whnf))
        repeat' (first | ((with_reducible apply rd_intro); (focus (intro K hK; (conv => whnf); first | exact hK | (intro z hz; rw [wrapI (by omega)] at hz; subst hz; exact hK))); (conv => whnf)) | ((with_reducible apply gd_and); (focus ((conv => whnf) <;> first | rfl | (intro K hK; (conv => whnf); first | exact hK | (intro z hz; rw [wrapI (by omega)] at hz; subst hz; exact hK)))); (conv => whnf)) | ((with_reducible apply z_wrap); (focus omega); (conv => whnf)) | ((with_reducible refine mt_dec (fun _ => ?_) (fun _ => ?_)) <;> (conv => whnf)) | ((with_reducible refine mt_eq (fun _ => ?_) (fun _ => ?_)) <;> (conv => whnf)) | ((with_reducible refine mt_ne (fun _ => ?_) (fun _ => ?_)) <;> (conv => whnf)) | ((with_reducible refine mt_not (fun _ => ?_) (fun _ => ?_)) <;> (conv => whnf)) | ((with_reducible refine mt_any (fun _ => ?_) (fun _ => ?_)) <;> (conv => whnf)))
        ((with_reducible apply rd_intro); (focus (intro K hK; (conv => whnf); refine (hst2).mono ?_; rintro _ _ ⟨rfl, rfl⟩; (conv => whnf); exact hK)); (conv => whnf))
        repeat' (first | ((with_reducible apply rd_intro); (focus (intro K hK; (conv => whnf); first | exact hK | (intro z hz; rw [wrapI (by omega)] at hz; subst hz; exact hK))); (conv => whnf)) | ((with_reducible apply gd_and); (focus ((conv => whnf) <;> first | rfl | (intro K hK; (conv => whnf); first | exact hK | (intro z hz; rw [wrapI (by omega)] at hz; subst hz; exact hK)))); (conv => whnf)) | ((with_reducible apply z_wrap); (focus omega); (conv => whnf)) | ((with_reducible refine mt_dec (fun _ => ?_) (fun _ => ?_)) <;> (conv => whnf)) | ((with_reducible refine mt_eq (fun _ => ?_) (fun _ => ?_)) <;> (conv => whnf)) | ((with_reducible refine mt_ne (fun _ => ?_) (fun _ => ?_)) <;> (conv => whnf)) | ((with_reducible refine mt_not (fun _ => ?_) (fun _ => ?_)) <;> (conv => whnf)) | ((with_reducible refine mt_any (fun _ => ?_) (fun _ => ?_)) <;> (conv => whnf)))
        ((with_reducible apply gd_and); (focus ((conv => whnf); intro K hK; (conv => whnf); refine (hst2).mono ?_; rintro _ _ ⟨rfl, rfl⟩; (conv => whnf); exact hK)); (conv => whnf))
        repeat' (first | ((with_reducible apply rd_intro); (focus (intro K hK; (conv => whnf); first | exact hK | (intro z hz; rw [wrapI (by omega)] at hz; subst hz; exact hK))); (conv => whnf)) | ((with_reducible apply gd_and); (focus ((conv => whnf) <;> first | rfl | (intro K hK; (conv => whnf); first | exact hK | (intro z hz; rw [wrapI (by omega)] at hz; subst hz; exact hK)))); (conv => whnf)) | ((with_reducible apply z_wrap); (focus omega); (conv => whnf)) | ((with_reducible refine mt_dec (fun _ => ?_) (fun _ => ?_)) <;> (conv => whnf)) | ((with_reducible refine mt_eq (fun _ => ?_) (fun _ => ?_)) <;> (conv => whnf)) | ((with_reducible refine mt_ne (fun _ => ?_) (fun _ => ?_)) <;> (conv => whnf)) | ((with_reducible refine mt_not (fun _ => ?_) (fun _ => ?_)) <;> (conv => whnf)) | ((with_reducible refine mt_any (fun _ => ?_) (fun _ => ?_)) <;> (conv => whnf)))
        ((with_reducible apply gd_and); (focus ((conv => whnf); intro K hK; (conv => whnf); refine (htr2).mono ?_; rintro _ _ ⟨rfl, rfl⟩; (conv => whnf); exact hK)); (conv => whnf))
        repeat' (first | ((with_reducible apply rd_intro); (focus (intro K hK; (conv => whnf); first | exact hK | (intro z hz; rw [wrapI (by omega)] at hz; subst hz; exact hK))); (conv => whnf)) | ((with_reducible apply gd_and); (focus ((conv => whnf) <;> first | rfl | (intro K hK; (conv => whnf); first | exact hK | (intro z hz; rw [wrapI (by omega)] at hz; subst hz; exact hK)))); (conv => whnf)) | ((with_reducible apply z_wrap); (focus omega); (conv => whnf)) | ((with_reducible refine mt_dec (fun _ => ?_) (fun _ => ?_)) <;> (conv => whnf)) | ((with_reducible refine mt_eq (fun _ => ?_) (fun _ => ?_)) <;> (conv => whnf)) | ((with_reducible refine mt_ne (fun _ => ?_) (fun _ => ?_)) <;> (conv => whnf)) | ((with_reducible refine mt_not (fun _ => ?_) (fun _ => ?_)) <;> (conv => whnf)) | ((with_reducible refine mt_any (fun _ => ?_) (fun _ => ?_)) <;> (conv => whnf)))
        refine (num_ok 0).mono ?_
        rintro _ _ ⟨rfl, rfl⟩
        conv => whnf
        repeat' (first | ((with_reducible apply rd_intro); (focus (intro K hK; (conv => whnf); first | exact hK | (intro z hz; rw [wrapI (by omega)] at hz; subst hz; exact hK))); (conv => whnf)) | ((with_reducible apply gd_and); (focus ((conv => whnf) <;> first | rfl | (intro K hK; (conv => whnf); first | exact hK | (intro z hz; rw [wrapI (by omega)] at hz; subst hz; exact hK)))); (conv => whnf)) | ((with_reducible apply z_wrap); (focus omega); (conv => whnf)) | ((with_reducible refine mt_dec (fun _ => ?_) (fun _ => ?_)) <;> (conv => whnf)) | ((with_reducible refine mt_eq (fun _ => ?_) (fun _ => ?_)) <;> (conv => whnf)) | ((with_reducible refine mt_ne (fun _ => ?_) (fun _ => ?_)) <;> (conv => whnf)) | ((with_reducible refine mt_not (fun _ => ?_) (fun _ => ?_)) <;> (conv => whnf)) | ((with_reducible refine mt_any (fun _ => ?_) (fun _ => ?_)) <;> (conv => whnf)))
        refine (num_ok 0).mono ?_
        rintro _ _ ⟨rfl, rfl⟩
        conv => whnf
        repeat' (first | ((with_reducible apply rd_intro); (focus (intro K hK; (conv => whnf); first | exact hK | (intro z hz; rw [wrapI (by omega)] at hz; subst hz; exact hK))); (conv => whnf)) | ((with_reducible apply gd_and); (focus ((conv => whnf) <;> first | rfl | (intro K hK; (conv => whnf); first | exact hK | (intro z hz; rw [wrapI (by omega)] at hz; subst hz; exact hK)))); (conv => whnf)) | ((with_reducible apply z_wrap); (focus omega); (conv => whnf)) | ((with_reducible refine mt_dec (fun _ => ?_) (fun _ => ?_)) <;> (conv => whnf)) | ((with_reducible refine mt_eq (fun _ => ?_) (fun _ => ?_)) <;> (conv => whnf)) | ((with_reducible refine mt_ne (fun _ => ?_) (fun _ => ?_)) <;> (conv => whnf)) | ((with_reducible refine mt_not (fun _ => ?_) (fun _ => ?_)) <;> (conv => whnf)) | ((with_reducible refine mt_any (fun _ => ?_) (fun _ => ?_)) <;> (conv => whnf)))
        have hsb := pt_sub hv h0 hnl
        rw [show pt p.d p.d.certs.length = p.d from pt_all h0 (Nat.le_refl _)] at hsb
        have hlen := congrArg List.length (part_on hsb).2.1
        rw [hc, hl, List.length_append] at hlen
        have hfl := fin_len hv
        refine (eqNumbers_ok l l (by unfold few; omega)).mono ?_
        rintro _ _ ⟨rfl, rfl⟩
        rw [show decide (l = l) = true from decide_eq_true rfl]
        conv => whnf
        repeat' (first | ((with_reducible apply rd_intro); (focus (intro K hK; (conv => whnf); first | exact hK | (intro z hz; rw [wrapI (by omega)] at hz; subst hz; exact hK))); (conv => whnf)) | ((with_reducible apply gd_and); (focus ((conv => whnf) <;> first | rfl | (intro K hK; (conv => whnf); first | exact hK | (intro z hz; rw [wrapI (by omega)] at hz; subst hz; exact hK)))); (conv => whnf)) | ((with_reducible apply z_wrap); (focus omega); (conv => whnf)) | ((with_reducible refine mt_dec (fun _ => ?_) (fun _ => ?_)) <;> (conv => whnf)) | ((with_reducible refine mt_eq (fun _ => ?_) (fun _ => ?_)) <;> (conv => whnf)) | ((with_reducible refine mt_ne (fun _ => ?_) (fun _ => ?_)) <;> (conv => whnf)) | ((with_reducible refine mt_not (fun _ => ?_) (fun _ => ?_)) <;> (conv => whnf)) | ((with_reducible refine mt_any (fun _ => ?_) (fun _ => ?_)) <;> (conv => whnf)))
        · rename_i hx; exact absurd rfl hx
        · rename_i hx; exact absurd rfl hx
        ((with_reducible refine draw_pl ttOk zOk foOk mixedOk pl6x12 ?_ ?_); (focus kernel_rfl); (conv => whnf))
        repeat' (first | ((with_reducible apply rd_intro); (focus (intro K hK; (conv => whnf); first | exact hK | (intro z hz; rw [wrapI (by omega)] at hz; subst hz; exact hK))); (conv => whnf)) | ((with_reducible apply gd_and); (focus ((conv => whnf) <;> first | rfl | (intro K hK; (conv => whnf); first | exact hK | (intro z hz; rw [wrapI (by omega)] at hz; subst hz; exact hK)))); (conv => whnf)) | ((with_reducible apply z_wrap); (focus omega); (conv => whnf)) | ((with_reducible refine mt_dec (fun _ => ?_) (fun _ => ?_)) <;> (conv => whnf)) | ((with_reducible refine mt_eq (fun _ => ?_) (fun _ => ?_)) <;> (conv => whnf)) | ((with_reducible refine mt_ne (fun _ => ?_) (fun _ => ?_)) <;> (conv => whnf)) | ((with_reducible refine mt_not (fun _ => ?_) (fun _ => ?_)) <;> (conv => whnf)) | ((with_reducible refine mt_any (fun _ => ?_) (fun _ => ?_)) <;> (conv => whnf)))
        ((with_reducible apply rd_intro); (focus (intro K hK; (conv => whnf); refine (htr3).mono ?_; rintro _ _ ⟨rfl, rfl⟩; (conv => whnf); exact hK)); (conv => whnf))
        repeat' (first | ((with_reducible apply rd_intro); (focus (intro K hK; (conv => whnf); first | exact hK | (intro z hz; rw [wrapI (by omega)] at hz; subst hz; exact hK))); (conv => whnf)) | ((with_reducible apply gd_and); (focus ((conv => whnf) <;> first | rfl | (intro K hK; (conv => whnf); first | exact hK | (intro z hz; rw [wrapI (by omega)] at hz; subst hz; exact hK)))); (conv => whnf)) | ((with_reducible apply z_wrap); (focus omega); (conv => whnf)) | ((with_reducible refine mt_dec (fun _ => ?_) (fun _ => ?_)) <;> (conv => whnf)) | ((with_reducible refine mt_eq (fun _ => ?_) (fun _ => ?_)) <;> (conv => whnf)) | ((with_reducible refine mt_ne (fun _ => ?_) (fun _ => ?_)) <;> (conv => whnf)) | ((with_reducible refine mt_not (fun _ => ?_) (fun _ => ?_)) <;> (conv => whnf)) | ((with_reducible refine mt_any (fun _ => ?_) (fun _ => ?_)) <;> (conv => whnf)))
        ((with_reducible apply rd_intro); (focus (intro K hK; (conv => whnf); refine (hst3).mono ?_; rintro _ _ ⟨rfl, rfl⟩; (conv => whnf); exact hK)); (conv => whnf))
        repeat' (first | ((with_reducible apply rd_intro); (focus (intro K hK; (conv => whnf); first | exact hK | (intro z hz; rw [wrapI (by omega)] at hz; subst hz; exact hK))); (conv => whnf)) | ((with_reducible apply gd_and); (focus ((conv => whnf) <;> first | rfl | (intro K hK; (conv => whnf); first | exact hK | (intro z hz; rw [wrapI (by omega)] at hz; subst hz; exact hK)))); (conv => whnf)) | ((with_reducible apply z_wrap); (focus omega); (conv => whnf)) | ((with_reducible refine mt_dec (fun _ => ?_) (fun _ => ?_)) <;> (conv => whnf)) | ((with_reducible refine mt_eq (fun _ => ?_) (fun _ => ?_)) <;> (conv => whnf)) | ((with_reducible refine mt_ne (fun _ => ?_) (fun _ => ?_)) <;> (conv => whnf)) | ((with_reducible refine mt_not (fun _ => ?_) (fun _ => ?_)) <;> (conv => whnf)) | ((with_reducible refine mt_any (fun _ => ?_) (fun _ => ?_)) <;> (conv => whnf)))
        ((with_reducible apply gd_and); (focus ((conv => whnf); intro K hK; (conv => whnf); refine (hst3).mono ?_; rintro _ _ ⟨rfl, rfl⟩; (conv => whnf); exact hK)); (conv => whnf))
        repeat' (first | ((with_reducible apply rd_intro); (focus (intro K hK; (conv => whnf); first | exact hK | (intro z hz; rw [wrapI (by omega)] at hz; subst hz; exact hK))); (conv => whnf)) | ((with_reducible apply gd_and); (focus ((conv => whnf) <;> first | rfl | (intro K hK; (conv => whnf); first | exact hK | (intro z hz; rw [wrapI (by omega)] at hz; subst hz; exact hK)))); (conv => whnf)) | ((with_reducible apply z_wrap); (focus omega); (conv => whnf)) | ((with_reducible refine mt_dec (fun _ => ?_) (fun _ => ?_)) <;> (conv => whnf)) | ((with_reducible refine mt_eq (fun _ => ?_) (fun _ => ?_)) <;> (conv => whnf)) | ((with_reducible refine mt_ne (fun _ => ?_) (fun _ => ?_)) <;> (conv => whnf)) | ((with_reducible refine mt_not (fun _ => ?_) (fun _ => ?_)) <;> (conv => whnf)) | ((with_reducible refine mt_any (fun _ => ?_) (fun _ => ?_)) <;> (conv => whnf)))
        ((with_reducible apply gd_and); (focus ((conv => whnf); intro K hK; (conv => whnf); refine (htr3).mono ?_; rintro _ _ ⟨rfl, rfl⟩; (conv => whnf); exact hK)); (conv => whnf))
        repeat' (first | ((with_reducible apply rd_intro); (focus (intro K hK; (conv => whnf); first | exact hK | (intro z hz; rw [wrapI (by omega)] at hz; subst hz; exact hK))); (conv => whnf)) | ((with_reducible apply gd_and); (focus ((conv => whnf) <;> first | rfl | (intro K hK; (conv => whnf); first | exact hK | (intro z hz; rw [wrapI (by omega)] at hz; subst hz; exact hK)))); (conv => whnf)) | ((with_reducible apply z_wrap); (focus omega); (conv => whnf)) | ((with_reducible refine mt_dec (fun _ => ?_) (fun _ => ?_)) <;> (conv => whnf)) | ((with_reducible refine mt_eq (fun _ => ?_) (fun _ => ?_)) <;> (conv => whnf)) | ((with_reducible refine mt_ne (fun _ => ?_) (fun _ => ?_)) <;> (conv => whnf)) | ((with_reducible refine mt_not (fun _ => ?_) (fun _ => ?_)) <;> (conv => whnf)) | ((with_reducible refine mt_any (fun _ => ?_) (fun _ => ?_)) <;> (conv => whnf)))
        refine (num_ok 6).mono ?_
        rintro _ _ ⟨rfl, rfl⟩
        conv => whnf
        repeat' (first | ((with_reducible apply rd_intro); (focus (intro K hK; (conv => whnf); first | exact hK | (intro z hz; rw [wrapI (by omega)] at hz; subst hz; exact hK))); (conv => whnf)) | ((with_reducible apply gd_and); (focus ((conv => whnf) <;> first | rfl | (intro K hK; (conv => whnf); first | exact hK | (intro z hz; rw [wrapI (by omega)] at hz; subst hz; exact hK)))); (conv => whnf)) | ((with_reducible apply z_wrap); (focus omega); (conv => whnf)) | ((with_reducible refine mt_dec (fun _ => ?_) (fun _ => ?_)) <;> (conv => whnf)) | ((with_reducible refine mt_eq (fun _ => ?_) (fun _ => ?_)) <;> (conv => whnf)) | ((with_reducible refine mt_ne (fun _ => ?_) (fun _ => ?_)) <;> (conv => whnf)) | ((with_reducible refine mt_not (fun _ => ?_) (fun _ => ?_)) <;> (conv => whnf)) | ((with_reducible refine mt_any (fun _ => ?_) (fun _ => ?_)) <;> (conv => whnf)))
        refine wakes_ok.mono ?_
        rintro _ _ ⟨rfl, rfl⟩
        conv => whnf
        exact ⟨rfl, rfl⟩
end Go.Proofs.Ytoeppembokpjkaa

/- CursorTrims: for every Ask the law returns true, and its argument reads behind the call as it read before. No condition of ours. -/
namespace Go.Proofs.Ytoeppembokpjkaa
open Go.Ab Go.RowKit Go.ChangeShapes Go.WideShapes Go.ChangeAt
theorem own : ownKnob Try.prog.godebug = none := by kernel_rfl
theorem laidOut : laidOutB Try.prog = true := by kernel_rfl
set_option maxRecDepth 100000 in
theorem cursorTrims_lifted (os : Os) (started : os.Started) (H : Type) (enc : TypeId × Value → H) :
    ReturnsInHanded {} Try.checked os 6 .any (Rows.cursorTrimsSpec.pre6 enc Try.prog Try.f6 Rows.cursorTrimsRow.domain false) (Rows.cursorTrimsSpec.post enc Try.prog Try.f6 false true false false) := by
  refine returnsInHanded_of_change_sized (C := Try.checked) own started (by kernel_rfl) Try.func6
    (ChangeSpec.witness6 (enc := enc) (C := Try.checked) false ⟨#[], #[.agg #[.int .i64 0, .int .i64 0, .slice none 0 0, .slice none 0 0, .slice none 0 0]], []⟩ 8 (by kernel_rfl) (by kernel_rfl) (by kernel_rfl) (by kernel_rfl)) ?_
  intro W base args ds gs before hval hW _ hsz _
  exact law_contract ttOk (f := Try.f6) (tb := 4) (t := 28) rfl rfl Try.underlying4 rfl (fun _ _ => rfl) laidOut (by kernel_rfl) (of_decide_eq_true (by kernel_rfl)) 7 (by kernel_rfl) argS
    (fun W base v ds h1 h2 => argS_ok Try.underlying28 h1 h2)
    (fun ds hd => by
      obtain ⟨p, hp, hok⟩ := ask_of hd
      rw [hp]
      exact cursorTrims_ok p hok) hval hW hsz
theorem cursorTrims_holds : Rows.CursorTrimsSaid :=
  OpenClaim.holds_of_wide 6 Try.f6 rfl rfl rfl rfl rfl rfl rfl ⟨rfl, rfl, rfl, rfl, rfl⟩ rfl rfl rfl rfl rfl (by kernel_rfl) Try.func6 (by kernel_rfl)
    (of_decide_eq_true (by kernel_rfl)) (by unfold Func.isWrapper; first | (rw [if_pos (by decide +kernel)]; kernel_rfl) | (rw [if_neg (by decide +kernel)]; exact ⟨rfl, rfl⟩))
    (fun os started H enc _ => cursorTrims_lifted os started H enc)
#print axioms cursorTrims_holds
end Go.Proofs.Ytoeppembokpjkaa
