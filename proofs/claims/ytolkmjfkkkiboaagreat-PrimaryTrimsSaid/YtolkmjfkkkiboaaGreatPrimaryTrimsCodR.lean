/- PrimaryTrims: contracts. -/
import Derived.Test.YtolkmjfkkkiboaaGreatPrimaryTrimsCodQ
set_option linter.unusedVariables false
set_option linter.unusedSimpArgs false
namespace Go.Proofs.YtolkmjfkkkiboaaGreat
open Go.Ab Go.RowKit Go.MapKept
attribute [local irreducible] ACalls AW ADraw Into fltB fnear
set_option maxRecDepth 100000
def trSt (d : Dag) (low : Int) : List Cert × Nat → AF × List AB
  | ([], j) => ([(1, .d (.int .i64 low)), (2, .ptr 0 0), (4, .ptr 1 0), (5, .ptr 2 0), (6, .d (.int .i64 j))], [.cells d.cells, .cells [.d (.int .i64 0), .d (.int .i64 0), .d .nils], .cells [.d (.int .i64 d.nodes), .d (.int .i64 low), .d .nils]])
  | (c :: l, j) => ([(1, .d (.int .i64 low)), (2, .ptr 0 0), (4, .ptr 1 0), (5, .ptr 2 0), (6, .d (.int .i64 j))], [.cells d.cells, .cells [.d (.int .i64 0), .d (.int .i64 0), .d .nils], .cells [.d (.int .i64 d.nodes), .d (.int .i64 low), .arr 3], .row 47 6 (certsD (c :: l)) false])
def trPost (d : Dag) (low : Int) (l : List Cert) (av : AV) (L : List AB) : Prop := (l = [] ∧ av = .agg [.d (.int .i64 d.nodes), .d (.int .i64 low), .d .nils] ∧ L = []) ∨ (l ≠ [] ∧ av = .agg [.d (.int .i64 d.nodes), .d (.int .i64 low), .arr 0] ∧ L = [.row 47 6 (certsD l) false])
theorem rTrim_row (d : Dag) (h : Valid d) (low : Int) : ACalls Tryz.prog 99 [d.av, .d (.int .i64 low)] [] (trPost d low (overC low d.certs)) := by
  have hcl := certsD_length d.certs
  have hlen := h.len
  (refine acalls_go ttOk zOk foOk Tryz.func99 rfl Tryz.ntmps99 rfl true rfl ?_); (conv => whnf)
  refine loop_go ttOk zOk foOk (σ := List Cert × Nat) (trSt d low) (fun s => s.2 ≤ d.certs.length ∧ s.1 = overC low (d.certs.take s.2)) (fun s => d.certs.length - s.2) [1, 2, 4, 5, 6] ?_ ?_
  · conv => whnf
    exact ⟨([], 0), rfl, rfl, Nat.zero_le _, rfl⟩
  · rintro ⟨l, j⟩ ⟨hj, hl⟩
    replace hj : j ≤ d.certs.length := hj
    replace hl : l = overC low (d.certs.take j) := hl
    have hll : l.length ≤ d.certs.length := by rw [hl]; exact Nat.le_trans (List.length_filter_le ..) (List.length_take_le' ..)
    have hnl := certsD_length l
    cases l with
    | nil =>
      conv => whnf
      refine rdw ?_; repeat' ((with_reducible apply tw) <;> intro _)
      · rename_i hjl
        refine Exists.elim (⟨_, List.getElem?_eq_getElem (by omega)⟩ : ∃ c, d.certs[j]? = some c) fun c hc => ?_
        have hw1 := over_snoc (low := low) hc
        have hct := copyCert_ok c (h.tiny.2 c (List.mem_of_getElem? hc))
        refine ⟨by omega, c.cs, certsD_at hc, ?_⟩
        conv => whnf
        refine rdw ?_; repeat' ((with_reducible apply tw) <;> intro _)
        · rename_i hr
          rw [if_pos hr, ← hl] at hw1
          ((with_reducible refine draw_pl ttOk zOk foOk mixedOk pl99x6 ?_ ?_); (focus kernel_rfl); (conv => whnf))
          refine rdw ?_; repeat' ((with_reducible apply tw) <;> intro _)
          ((with_reducible apply rd_intro); (focus (intro K hK; (conv => whnf); exact ⟨by omega, c.cs, certsD_at hc, hK⟩)); (conv => whnf))
          refine rdw ?_; repeat' ((with_reducible apply tw) <;> intro _)
          refine hct.mono ?_
          rintro _ _ ⟨rfl, rfl⟩
          conv => whnf
          refine rdw ?_; repeat' ((with_reducible apply tw) <;> intro _)
          · refine ⟨by simp [hnl] at hll ⊢ <;> omega, ?_⟩
            conv => whnf
            refine rdw ?_; repeat' ((with_reducible apply tw) <;> intro _)
            refine ⟨(_, j + 1), rfl, ?_, ⟨by show j + 1 ≤ _; omega, hw1.symm⟩, by show _ - (j + 1) < _ - j; omega⟩
            simp [trSt, Dag.cells, certsD, Cert.cs]
        · rename_i hr
          rw [if_neg hr, ← hl] at hw1
          exact ⟨(_, j + 1), rfl, rfl, ⟨by show j + 1 ≤ _; omega, hw1.symm⟩, by show _ - (j + 1) < _ - j; omega⟩
      · rename_i hjl
        have : j = d.certs.length := by omega
        subst this
        rw [List.take_length] at hl
        rw [← hl]
        first | exact .inl ⟨rfl, rfl, rfl⟩ | exact .inr ⟨by simp, rfl, rfl⟩
    | cons c1 l =>
      conv => whnf
      refine rdw ?_; repeat' ((with_reducible apply tw) <;> intro _)
      · rename_i hjl
        refine Exists.elim (⟨_, List.getElem?_eq_getElem (by omega)⟩ : ∃ c, d.certs[j]? = some c) fun c hc => ?_
        have hw1 := over_snoc (low := low) hc
        have hct := copyCert_ok c (h.tiny.2 c (List.mem_of_getElem? hc))
        refine ⟨by omega, c.cs, certsD_at hc, ?_⟩
        conv => whnf
        refine rdw ?_; repeat' ((with_reducible apply tw) <;> intro _)
        · rename_i hr
          rw [if_pos hr, ← hl] at hw1
          ((with_reducible refine draw_pl ttOk zOk foOk mixedOk pl99x6 ?_ ?_); (focus kernel_rfl); (conv => whnf))
          refine rdw ?_; repeat' ((with_reducible apply tw) <;> intro _)
          ((with_reducible apply rd_intro); (focus (intro K hK; (conv => whnf); exact ⟨by omega, c.cs, certsD_at hc, hK⟩)); (conv => whnf))
          refine rdw ?_; repeat' ((with_reducible apply tw) <;> intro _)
          refine hct.mono ?_
          rintro _ _ ⟨rfl, rfl⟩
          conv => whnf
          refine rdw ?_; repeat' ((with_reducible apply tw) <;> intro _)
          · refine ⟨by simp [hnl] at hll ⊢ <;> omega, ?_⟩
            conv => whnf
            refine rdw ?_; repeat' ((with_reducible apply tw) <;> intro _)
            refine ⟨(_, j + 1), rfl, ?_, ⟨by show j + 1 ≤ _; omega, hw1.symm⟩, by show _ - (j + 1) < _ - j; omega⟩
            simp [trSt, Dag.cells, certsD, Cert.cs]
        · rename_i hr
          rw [if_neg hr, ← hl] at hw1
          exact ⟨(_, j + 1), rfl, rfl, ⟨by show j + 1 ≤ _; omega, hw1.symm⟩, by show _ - (j + 1) < _ - j; omega⟩
      · rename_i hjl
        have : j = d.certs.length := by omega
        subst this
        rw [List.take_length] at hl
        rw [← hl]
        first | exact .inl ⟨rfl, rfl, rfl⟩ | exact .inr ⟨by simp, rfl, rfl⟩
theorem rTrim14_ok (d : Dag) (h : Valid d) (low : Int) : ACalls Tryz.prog 99 [d.av, .d (.int .i64 low)] [] (fun av L => av = (trimD d low).av ∧ L = []) := by
  have h1 : ACalls Tryz.prog 99 [d.av, .d (.int .i64 low)] [] (fun av L => av = .agg [.d (.int .i64 d.nodes), .d (.int .i64 low), .d (cDn (trimD d low).certs)] ∧ L = []) := by
    refine acalls_data (rTrim_row d h low) ?_
    rintro _ _ (⟨hl, rfl, rfl⟩ | ⟨hl, rfl, rfl⟩)
    · rw [show (trimD d low).certs = [] from hl]
      conv => whnf
      exact ⟨rfl, rfl⟩
    · show dataK _ _ _
      obtain ⟨c, l, e⟩ := List.exists_cons_of_ne_nil hl
      rw [show (trimD d low).certs = c :: l from e, e]
      conv => whnf
      exact ⟨rfl, rfl⟩
  refine acalls_post3 h1 ?_
  rintro _ _ ⟨rfl, rfl⟩
  exact ⟨_, ⟨rfl, rfl⟩, cDn_post _⟩
theorem rTrim19_ok (l : List Vote) (hl : l.length ≤ 1000000) (low : Int) : ACalls Tryz.prog 100 [.d (.sl 3 (votesD l)), .d (.int .i64 low)] [] (fun av L => av = .d (.sl 3 (votesD (overV low l))) ∧ L = []) := by
  have hcl := votesD_length l
  (refine acalls_go ttOk zOk foOk Tryz.func100 rfl Tryz.ntmps100 rfl false rfl ?_); (conv => whnf)
  refine rdw ?_; repeat' ((with_reducible apply tw) <;> intro _)
  refine loop_go ttOk zOk foOk (σ := Nat) (fun j => ([(0, .d (.sl 3 (votesD l))), (1, .d (.int .i64 low)), (5, .arr 0), (6, .d (.int .i64 j))], [.row 106 3 (votesD (overV low (l.take j))) false])) (fun j => j ≤ l.length) (fun j => l.length - j) [0, 1, 5, 6] ?_ ?_
  · conv => whnf
    exact ⟨0, rfl, rfl, Nat.zero_le _⟩
  · intro j hj
    have hfn : (votesD (overV low (l.take j))).length ≤ l.length := by rw [votesD_length]; exact Nat.le_trans (List.length_filter_le ..) (List.length_take_le' ..)
    conv => whnf
    refine rdw ?_; repeat' ((with_reducible apply tw) <;> intro _)
    · rename_i hjl
      replace hjl : (j : Int) < ((votesD l).length : Int) := hjl
      refine Exists.elim (⟨_, List.getElem?_eq_getElem (by omega)⟩ : ∃ x, l[j]? = some x) fun x hx => ?_
      have hsn := overV_snoc (low := low) hx
      refine ⟨by omega, x.cs, votesD_at hx, ?_⟩
      conv => whnf
      refine rdw ?_; repeat' ((with_reducible apply tw) <;> intro _)
      · rename_i hr
        replace hr : x.round > low := hr
        rw [if_pos hr] at hsn
        refine ⟨by omega, x.cs, votesD_at hx, ?_⟩
        conv => whnf
        refine rdw ?_; repeat' ((with_reducible apply tw) <;> intro _)
        refine ⟨by simp; omega, ?_⟩
        conv => whnf
        refine rdw ?_; repeat' ((with_reducible apply tw) <;> intro _)
        refine ⟨j + 1, rfl, ?_, by omega, by omega⟩
        rw [hsn]
        simp [votesD, Vote.cs]
      · rename_i hr
        replace hr : ¬ x.round > low := hr
        rw [if_neg hr] at hsn
        exact ⟨j + 1, rfl, by rw [hsn], by omega, by omega⟩
    · rename_i hjl
      replace hjl : ¬ (j : Int) < ((votesD l).length : Int) := hjl
      have : l.take j = l := List.take_of_length_le (by omega)
      rw [this]
      exact ⟨rfl, rfl⟩
def tr20 (p : Prim) (low : Int) (j : Nat) : AF × List AB := ([(1, .d (.int .i64 low)), (2, .ptr 0 0), (5, .ptr 1 0), (6, .arr 2), (7, .d (.int .i64 j))], [.cells (p.cs.map AV.d), .cells (({ p with dag := trimD p.dag low, votes := overV low p.votes } : Prim).cs.map AV.d ++ [.arr 3]), .row 47 6 (certsD (overC low (p.late.take j))) false, .row 49 18 (msgsD []) false])
set_option maxHeartbeats 4000000 in
theorem trim20_ok (p : Prim) (low : Int) (hC : trimC p low) (ht : p.tiny) (hr : p.dag.certs.length + p.late.length < 60000) : ACalls Tryz.prog 53 [p.av, .d (.int .i64 low)] [] (fun av L => av = .ptr 0 0 ∧ L = (trimP p low).st []) := by
  have hcp := copyPrim_ok p ht
  have h1 := rTrim14_ok p.dag hC.may.dag low
  have h2 := rTrim19_ok p.votes (by have := hC.may.votes.len; omega) low
  have hcf := cut_fine hC ht.late.2 hr
  have hla := late20_ok (cutP p low) [] hcf
  rw [show (cutP p low).withDL (againD (cutP p low).dag (cutP p low).late) = trimP p low from rfl] at hla
  have hcl := certsD_length p.late
  (refine acalls_go ttOk zOk foOk Tryz.func53 rfl Tryz.ntmps53 rfl true rfl ?_); (conv => whnf)
  refine rdw ?_; repeat' ((with_reducible apply tw) <;> intro _)
  (refine (hcp).mono ?_; rintro _ _ ⟨rfl, rfl⟩; (conv => whnf))
  refine rdw ?_; repeat' ((with_reducible apply tw) <;> intro _)
  (refine (h1).mono ?_; rintro _ _ ⟨rfl, rfl⟩; (conv => whnf))
  refine rdw ?_; repeat' ((with_reducible apply tw) <;> intro _)
  (refine (h2).mono ?_; rintro _ _ ⟨rfl, rfl⟩; (conv => whnf))
  refine rdw ?_; repeat' ((with_reducible apply tw) <;> intro _)
  refine loop_go ttOk zOk foOk (σ := Nat) (tr20 p low) (fun j => j ≤ p.late.length) (fun j => p.late.length - j) [1, 2, 5, 6, 7] ?_ ?_
  · conv => whnf
    exact ⟨0, rfl, rfl, Nat.zero_le _⟩
  · intro j hj
    have hfn : (certsD (overC low (p.late.take j))).length ≤ p.late.length := by rw [certsD_length]; exact Nat.le_trans (List.length_filter_le ..) (List.length_take_le' ..)
    conv => whnf
    refine rdw ?_; repeat' ((with_reducible apply tw) <;> intro _)
    · rename_i hjl
      replace hjl : (j : Int) < ((certsD p.late).length : Int) := hjl
      refine Exists.elim (⟨_, List.getElem?_eq_getElem (by omega)⟩ : ∃ x, p.late[j]? = some x) fun x hx => ?_
      have hsn := over_snoc (low := low) hx
      have hct := copyCert_ok x (ht.late.2 x (List.mem_of_getElem? hx))
      refine ⟨by omega, x.cs, certsD_at hx, ?_⟩
      conv => whnf
      refine rdw ?_; repeat' ((with_reducible apply tw) <;> intro _)
      · rename_i hr
        replace hr : x.round > low := hr
        rw [if_pos hr] at hsn
        refine ⟨by omega, x.cs, certsD_at hx, ?_⟩
        conv => whnf
        refine rdw ?_; repeat' ((with_reducible apply tw) <;> intro _)
        (refine (hct).mono ?_; rintro _ _ ⟨rfl, rfl⟩; (conv => whnf))
        refine rdw ?_; repeat' ((with_reducible apply tw) <;> intro _)
        refine ⟨by simp; omega, ?_⟩
        conv => whnf
        refine rdw ?_; repeat' ((with_reducible apply tw) <;> intro _)
        refine ⟨j + 1, rfl, ?_, (show j + 1 ≤ p.late.length by omega), (show p.late.length - (j + 1) < p.late.length - j by omega)⟩
        simp only [tr20]
        rw [hsn]
        rw [show certsD (overC low (p.late.take j) ++ [x]) = certsD (overC low (p.late.take j)) ++ [x.cs] by simp [certsD]]
        rfl
      · rename_i hr
        replace hr : ¬ x.round > low := hr
        rw [if_neg hr] at hsn
        exact ⟨j + 1, rfl, by simp only [tr20]; rw [hsn]; rfl, (show j + 1 ≤ p.late.length by omega), (show p.late.length - (j + 1) < p.late.length - j by omega)⟩
    · rename_i hjl
      replace hjl : ¬ (j : Int) < ((certsD p.late).length : Int) := hjl
      have hta : p.late.take j = p.late := List.take_of_length_le (by omega)
      rw [hta]
      refine acalls_via [(0, 15)] rfl ?_
      conv => whnf
      refine hla.mono ?_
      rintro _ _ ⟨rfl, rfl⟩
      conv => whnf
      refine rdw ?_; repeat' ((with_reducible apply tw) <;> intro _)
      exact ⟨rfl, rfl⟩
def outT (q : Prim) (e : Int) : AV := .tup [q.ai 0, .d (.int .i64 e)]
theorem trim_q {p : Prim} {low : Int} (hok : p.ok) (hf : p.fitS) (ht : p.tiny) (hr : p.dag.certs.length + p.late.length < 60000) (h : trimC p low) : (trimP p low).ok ∧ (trimP p low).fitS ∧ (few (trimP p low).dag.certs ∧ ∀ c ∈ (trimP p low).dag.certs, fewL c) ∧ (few (trimP p low).late ∧ ∀ c ∈ (trimP p low).late, fewL c) := by
  have hcf := cut_fine h ht.late.2 hr
  have h1 := trim_len hcf
  have hk := againD_keeps hcf
  obtain ⟨f1, f2⟩ := trim_from p low
  have hv : (trimP p low).votes.length ≤ p.votes.length := overV_len ..
  have hvl := hf.votes
  have hvk := hok.votes
  have e1 : (trimP p low).dag.certs.length ≤ 60000 := by omega
  have e2 : (trimP p low).late.length ≤ 60000 := by omega
  have g1 : ∀ {Q : Cert → Prop}, (∀ c ∈ p.dag.certs, Q c) → (∀ c ∈ p.late, Q c) → ∀ c ∈ (trimP p low).dag.certs, Q c := fun a b c hc => (f1 c hc).elim (a c) (b c)
  refine ⟨⟨hok.mine, hok.sigs, hok.acks, by unfold few at *; omega, ⟨?_, ?_, by unfold few; omega, g1 hok.dag.certs.2 hok.late.2⟩, by unfold few; omega, fun c hc => hok.late.2 c (f2 c hc)⟩, ⟨hf.bats, hf.pars, hf.acks, by omega, ⟨by omega, g1 hf.dag.2 hf.late.2⟩, by omega, fun c hc => hf.late.2 c (f2 c hc)⟩,
    ⟨by unfold few; omega, fun c hc => fit_few (g1 hf.dag.2 hf.late.2 c hc)⟩, ⟨by unfold few; omega, fun c hc => fit_few (hf.late.2 c (f2 c hc))⟩⟩
  · have : (trimP p low).dag.nodes = p.dag.nodes := hk.nodes
    rw [this]; exact hok.dag.nodes
  · have : (trimP p low).dag.low = low := hk.low
    have h2 := h.hi
    have h3 := h.lo
    have h4 := h.may.dag.low
    rw [this]
    exact ⟨by omega, by omega⟩
open Classical in
theorem trimI_ok (p : Prim) (hok : p.ok) (ht : p.tiny) (hr : p.dag.certs.length + p.late.length < 60000) (low : Int) (hl : i64 low) : ACalls Tryz.prog 54 [p.av, .d (.int .i64 low)] [] (fun av L => ((trimC p low ∧ av = outT (trimP p low) 0) ∨ (¬ trimC p low ∧ av = outT zP 1)) ∧ ∃ lo n, L = [.isle lo n true]) := by
  refine acalls_wk (acalls_isle (X := fun av => (trimC p low ∧ av = .tup [(trimP p low).av, .d (.int .i64 0)]) ∨ (¬ trimC p low ∧ av = .tup [.agg zPrim, .d (.int .i64 1)])) (post := fun av => (trimC p low ∧ av = outT (trimP p low) 0) ∨ (¬ trimC p low ∧ av = .tup [.agg zPrim, .d (.int .i64 1)])) (.cons (lendO_prim [] p) (.cons (.inl (lo_int _)) .nil)) (trimO_ok p hok ht hr low hl) ?_) ?_
  · rintro _ (⟨k, rfl⟩ | ⟨k, rfl⟩)
    · exact ⟨_, .inr ⟨_, _, rfl, rfl, .cons (isl2_prim _ _) (.cons (.inl (isl_int _)) .nil)⟩, .inl ⟨k, rfl⟩⟩
    · exact ⟨_, .inr ⟨_, _, rfl, rfl, .cons (isl2_z _) (.cons (.inl (isl_int _)) .nil)⟩, .inr ⟨k, rfl⟩⟩
  · rintro _ _ ⟨⟨k, rfl⟩ | ⟨k, rfl⟩, lo, n, rfl⟩
    · exact ⟨_, .inl (.inl (wk_r _)), .inl ⟨k, rfl⟩, lo, n, rfl⟩
    · refine ⟨_, .inr ⟨_, _, rfl, rfl, .cons (.inr ⟨_, _, rfl, rfl, ?_⟩) (.cons (.inl (wk_r _)) .nil)⟩, .inr ⟨k, rfl⟩, lo, n, rfl⟩
      exact .cons (wk_r _) (.cons (wk_r _) (.cons (wk_r _) (.cons (wk_r _) (.cons (wk_r _) (.cons (wk_r _) (.cons (wk_r _) (.cons (wk_n (by decide)) (.cons (wk_n (by decide)) (.cons (wk_r _) (.cons (wk_n (by decide)) (.cons (wk_n (by decide)) (.cons (wk_r _) (.cons (wk_r _) (.cons (wk_n (by decide)) (.cons (wk_n (by decide)) .nil)))))))))))))))
theorem eqMN_ok : ACalls Tryz.prog 61 [.arr 0, .arr 1] [.row 49 18 [] false, .row 49 18 [] false] (fun av L => av = .d (.bool true) ∧ L = [.row 49 18 [] false, .row 49 18 [] false]) :=
  acalls_lend (flat_bool _) ⟨_, _, rfl, .inl (l1_row rfl), _, _, rfl, .inl (l1_row rfl), rfl⟩ (eqMsgs_same [] (Nat.zero_le _) fun _ h => by cases h)
theorem spoilN_ok : ACalls Tryz.prog 60 [.arr 0] [.row 49 18 [] false] (fun av L => av = .tup [] ∧ L = [.dead]) := by
  (refine acalls_go ttOk zOk foOk Tryz.func60 rfl Tryz.ntmps60 rfl false rfl ?_); (conv => whnf)
  refine rdw ?_; repeat' ((with_reducible apply tw) <;> intro _)
  refine loop_go ttOk zOk foOk (σ := Unit) (fun _ => ([(0, .arr 0), (2, .d (.int .i64 0))], [.row 49 18 [] false])) (fun _ => True) (fun _ => 0) [0, 2] ?_ ?_
  · conv => whnf
    exact ⟨(), rfl, rfl, trivial⟩
  · intro _ _
    conv => whnf
    refine rdw ?_; repeat' ((with_reducible apply tw) <;> intro _)
    refine ⟨by decide, ?_⟩
    conv => whnf
    exact ⟨rfl, rfl⟩
set_option maxHeartbeats 8000000 in
open Classical in
theorem step9_ok (p : Prim) (hok : p.ok) (ht : p.tiny) (hf : p.fitS) (hr : p.dag.certs.length + p.late.length < 60000) (a : Act) (h0 : a.doo = 9) (had : i64 a.d) :
    ACalls Tryz.prog 19 [p.av, .agg (a.cs.map AV.d)] [] (fun av L => (∃ q : Prim, av = .tup [q.av, .d (.bool true)]) ∧ L = []) := by
  have h1 := copyPrim_ok p ht
  have h2 := rMay20_ok p hok
  have h3 := within_ok a.doo 10 (by decide) (by decide) (by rw [h0]; decide)
  have hfd : few p.dag.certs ∧ ∀ c ∈ p.dag.certs, fewL c := ⟨by have := hf.dag.1; unfold few; omega, fun c hc => fit_few (hf.dag.2 c hc)⟩
  have hfl : few p.late ∧ ∀ c ∈ p.late, fewL c := ⟨by have := hf.late.1; unfold few; omega, fun c hc => fit_few (hf.late.2 c hc)⟩
  have hv : few p.votes := by have := hf.votes; unfold few; omega
  have ha : few p.acks := by have := hf.acks; unfold few; omega
  have hmm : few p.mine.bats ∧ few p.mine.pars := ⟨by have := hf.bats; unfold few; omega, by have := hf.pars; unfold few; omega⟩
  have h6 := eqPrim_same p hok hfd hfl hv ha hmm
  have hti := trimI_ok p hok ht hr a.d had
  rw [show a.doo % 18446744073709551616 % 10 = 9 by rw [h0]; decide] at h3
  (refine acalls_go ttOk zOk foOk Tryz.func19 rfl Tryz.ntmps19 rfl false rfl ?_); (conv => whnf)
  refine h1.mono ?_
  rintro _ _ ⟨rfl, rfl⟩
  conv => whnf
  refine rdw ?_; repeat' ((with_reducible apply tw) <;> intro _)
  refine h2.mono ?_
  rintro _ _ ⟨rfl, rfl⟩
  by_cases k1 : May p
  · rw [decide_eq_true k1]
    conv => whnf
    refine rdw ?_; repeat' ((with_reducible apply tw) <;> intro _)
    (refine (h3).mono ?_; rintro _ _ ⟨rfl, rfl⟩; (conv => whnf))
    refine rdw ?_; repeat' ((with_reducible apply tw) <;> intro _)
    · rename_i k2 k3
      replace k2 : a.d ≥ p.dag.low := k2
      replace k3 : a.d ≤ 1099511627776 := k3
      have hC : trimC p a.d := ⟨k1, k2, k3⟩
      have htr := trim20_ok p a.d hC ht hr
      obtain ⟨q1, q2, q3, q4⟩ := trim_q hok hf ht hr hC
      have hqv : few (trimP p a.d).votes := by have := q2.votes; unfold few; omega
      have hqa : few (trimP p a.d).acks := ha
      refine htr.mono ?_
      rintro _ _ ⟨rfl, rfl⟩
      obtain ⟨q, hq⟩ : ∃ q, trimP p a.d = q := ⟨_, rfl⟩
      rw [hq] at hti q1 q2 q3 q4 hqv hqa ⊢
      have hqm : few q.mine.bats ∧ few q.mine.pars := by rw [← hq]; exact hmm
      conv => whnf
      refine rdw ?_; repeat' ((with_reducible apply tw) <;> intro _)
      refine hti.mono ?_
      rintro _ _ ⟨⟨_, rfl⟩ | ⟨k, _⟩, lo, n, rfl⟩
      · have hsP := spoilP_ok q q2 lo n true
        have heP := eqPI_ok q q1 q3 q4 hqv hqa hqm lo n
        conv => whnf
        refine rdw ?_; repeat' ((with_reducible apply tw) <;> intro _)
        ((with_reducible refine draw_pl ttOk zOk foOk mixedOk pl19x54 ?_ ?_); (focus kernel_rfl); (conv => whnf))
        refine rdw ?_; repeat' ((with_reducible apply tw) <;> intro _)
        (refine (num20_ok 0).mono ?_; rintro _ _ ⟨rfl, rfl⟩; (conv => whnf))
        refine rdw ?_; repeat' ((with_reducible apply tw) <;> intro _)
        (refine (heP).mono ?_; rintro _ _ ⟨rfl, rfl⟩; (conv => whnf))
        refine rdw ?_; repeat' ((with_reducible apply tw) <;> intro _)
        (refine Or.inr ?_; (conv => whnf))
        (refine (eqMN_ok).mono ?_; rintro _ _ ⟨rfl, rfl⟩; (conv => whnf))
        refine rdw ?_; repeat' ((with_reducible apply tw) <;> intro _)
        (refine (h6).mono ?_; rintro _ _ ⟨rfl, rfl⟩; (conv => whnf))
        refine rdw ?_; repeat' ((with_reducible apply tw) <;> intro _)
        (refine (hsP).mono ?_; rintro _ _ ⟨rfl, rfl⟩; (conv => whnf))
        refine rdw ?_; repeat' ((with_reducible apply tw) <;> intro _)
        (refine Or.inr ?_; (conv => whnf))
        (refine (spoilN_ok).mono ?_; rintro _ _ ⟨rfl, rfl⟩; (conv => whnf))
        refine rdw ?_; repeat' ((with_reducible apply tw) <;> intro _)
        ((with_reducible refine draw_pl ttOk zOk foOk mixedOk pl19x59 ?_ ?_); (focus kernel_rfl); (conv => whnf))
        repeat' (first | (first | ((with_reducible first | apply rd_intro | apply gd_and); (focus ((conv => whnf) <;> first | rfl | (intro K hK; (conv => whnf); first | exact hK | exact z_wrap (by omega) hK))); conv => whnf) | ((with_reducible apply z_wrap); (focus omega); conv => whnf) | ((with_reducible first | apply mt_dec | apply mt_eq | apply mt_ne | apply mt_not | apply mt_any) <;> (intro _; conv => whnf))) | ((with_reducible apply rd_intro); (focus (intro K hK; (conv => whnf); refine h6.mono ?_; rintro _ _ ⟨rfl, rfl⟩; (conv => whnf); exact hK)); (conv => whnf)) | ((with_reducible apply gd_and); (focus ((conv => whnf); intro K hK; (conv => whnf); refine h6.mono ?_; rintro _ _ ⟨rfl, rfl⟩; (conv => whnf); exact hK)); (conv => whnf)) | (refine (h6).mono ?_; rintro _ _ ⟨rfl, rfl⟩; (conv => whnf)) | fail)
        exact ⟨⟨q, rfl⟩, rfl⟩
      · exact absurd hC k
    · rename_i k2 k3
      replace k3 : ¬ a.d ≤ 1099511627776 := k3
      have hno : ¬ trimC p a.d := fun h => k3 h.hi
      refine hti.mono ?_
      rintro _ _ ⟨⟨k, _⟩ | ⟨_, rfl⟩, lo, n, rfl⟩
      · exact absurd k hno
      · have hsP := spoilP_ok zP zP_fit lo n true
        have hzP := eqPZ_ok lo n
        conv => whnf
        refine rdw ?_; repeat' ((with_reducible apply tw) <;> intro _)
        ((with_reducible refine draw_pl ttOk zOk foOk mixedOk pl19x54 ?_ ?_); (focus kernel_rfl); (conv => whnf))
        refine rdw ?_; repeat' ((with_reducible apply tw) <;> intro _)
        (refine (num20_ok 1).mono ?_; rintro _ _ ⟨rfl, rfl⟩; (conv => whnf))
        refine rdw ?_; repeat' ((with_reducible apply tw) <;> intro _)
        (refine (hzP).mono ?_; rintro _ _ ⟨rfl, rfl⟩; (conv => whnf))
        refine rdw ?_; repeat' ((with_reducible apply tw) <;> intro _)
        (refine Or.inr ?_; (conv => whnf))
        (refine (eqMN_ok).mono ?_; rintro _ _ ⟨rfl, rfl⟩; (conv => whnf))
        refine rdw ?_; repeat' ((with_reducible apply tw) <;> intro _)
        (refine (h6).mono ?_; rintro _ _ ⟨rfl, rfl⟩; (conv => whnf))
        refine rdw ?_; repeat' ((with_reducible apply tw) <;> intro _)
        (refine (hsP).mono ?_; rintro _ _ ⟨rfl, rfl⟩; (conv => whnf))
        refine rdw ?_; repeat' ((with_reducible apply tw) <;> intro _)
        (refine Or.inr ?_; (conv => whnf))
        (refine (spoilN_ok).mono ?_; rintro _ _ ⟨rfl, rfl⟩; (conv => whnf))
        refine rdw ?_; repeat' ((with_reducible apply tw) <;> intro _)
        ((with_reducible refine draw_pl ttOk zOk foOk mixedOk pl19x58 ?_ ?_); (focus kernel_rfl); (conv => whnf))
        repeat' (first | (first | ((with_reducible first | apply rd_intro | apply gd_and); (focus ((conv => whnf) <;> first | rfl | (intro K hK; (conv => whnf); first | exact hK | exact z_wrap (by omega) hK))); conv => whnf) | ((with_reducible apply z_wrap); (focus omega); conv => whnf) | ((with_reducible first | apply mt_dec | apply mt_eq | apply mt_ne | apply mt_not | apply mt_any) <;> (intro _; conv => whnf))) | ((with_reducible apply rd_intro); (focus (intro K hK; (conv => whnf); refine h6.mono ?_; rintro _ _ ⟨rfl, rfl⟩; (conv => whnf); exact hK)); (conv => whnf)) | ((with_reducible apply gd_and); (focus ((conv => whnf); intro K hK; (conv => whnf); refine h6.mono ?_; rintro _ _ ⟨rfl, rfl⟩; (conv => whnf); exact hK)); (conv => whnf)) | (refine (h6).mono ?_; rintro _ _ ⟨rfl, rfl⟩; (conv => whnf)) | fail)
        exact ⟨⟨p, rfl⟩, rfl⟩
    · rename_i k2
      replace k2 : ¬ a.d ≥ p.dag.low := k2
      have hno : ¬ trimC p a.d := fun h => k2 h.lo
      refine hti.mono ?_
      rintro _ _ ⟨⟨k, _⟩ | ⟨_, rfl⟩, lo, n, rfl⟩
      · exact absurd k hno
      · have hsP := spoilP_ok zP zP_fit lo n true
        have hzP := eqPZ_ok lo n
        conv => whnf
        refine rdw ?_; repeat' ((with_reducible apply tw) <;> intro _)
        ((with_reducible refine draw_pl ttOk zOk foOk mixedOk pl19x54 ?_ ?_); (focus kernel_rfl); (conv => whnf))
        refine rdw ?_; repeat' ((with_reducible apply tw) <;> intro _)
        (refine (num20_ok 1).mono ?_; rintro _ _ ⟨rfl, rfl⟩; (conv => whnf))
        refine rdw ?_; repeat' ((with_reducible apply tw) <;> intro _)
        (refine (hzP).mono ?_; rintro _ _ ⟨rfl, rfl⟩; (conv => whnf))
        refine rdw ?_; repeat' ((with_reducible apply tw) <;> intro _)
        (refine Or.inr ?_; (conv => whnf))
        (refine (eqMN_ok).mono ?_; rintro _ _ ⟨rfl, rfl⟩; (conv => whnf))
        refine rdw ?_; repeat' ((with_reducible apply tw) <;> intro _)
        (refine (h6).mono ?_; rintro _ _ ⟨rfl, rfl⟩; (conv => whnf))
        refine rdw ?_; repeat' ((with_reducible apply tw) <;> intro _)
        (refine (hsP).mono ?_; rintro _ _ ⟨rfl, rfl⟩; (conv => whnf))
        refine rdw ?_; repeat' ((with_reducible apply tw) <;> intro _)
        (refine Or.inr ?_; (conv => whnf))
        (refine (spoilN_ok).mono ?_; rintro _ _ ⟨rfl, rfl⟩; (conv => whnf))
        refine rdw ?_; repeat' ((with_reducible apply tw) <;> intro _)
        ((with_reducible refine draw_pl ttOk zOk foOk mixedOk pl19x58 ?_ ?_); (focus kernel_rfl); (conv => whnf))
        repeat' (first | (first | ((with_reducible first | apply rd_intro | apply gd_and); (focus ((conv => whnf) <;> first | rfl | (intro K hK; (conv => whnf); first | exact hK | exact z_wrap (by omega) hK))); conv => whnf) | ((with_reducible apply z_wrap); (focus omega); conv => whnf) | ((with_reducible first | apply mt_dec | apply mt_eq | apply mt_ne | apply mt_not | apply mt_any) <;> (intro _; conv => whnf))) | ((with_reducible apply rd_intro); (focus (intro K hK; (conv => whnf); refine h6.mono ?_; rintro _ _ ⟨rfl, rfl⟩; (conv => whnf); exact hK)); (conv => whnf)) | ((with_reducible apply gd_and); (focus ((conv => whnf); intro K hK; (conv => whnf); refine h6.mono ?_; rintro _ _ ⟨rfl, rfl⟩; (conv => whnf); exact hK)); (conv => whnf)) | (refine (h6).mono ?_; rintro _ _ ⟨rfl, rfl⟩; (conv => whnf)) | fail)
        exact ⟨⟨p, rfl⟩, rfl⟩
  · rw [decide_eq_false k1]
    have hno : ¬ trimC p a.d := fun h => k1 h.may
    conv => whnf
    refine rdw ?_; repeat' ((with_reducible apply tw) <;> intro _)
    (refine (h3).mono ?_; rintro _ _ ⟨rfl, rfl⟩; (conv => whnf))
    refine rdw ?_; repeat' ((with_reducible apply tw) <;> intro _)
    refine hti.mono ?_
    rintro _ _ ⟨⟨k, _⟩ | ⟨_, rfl⟩, lo, n, rfl⟩
    · exact absurd k hno
    · have hsP := spoilP_ok zP zP_fit lo n true
      have hzP := eqPZ_ok lo n
      conv => whnf
      refine rdw ?_; repeat' ((with_reducible apply tw) <;> intro _)
      ((with_reducible refine draw_pl ttOk zOk foOk mixedOk pl19x54 ?_ ?_); (focus kernel_rfl); (conv => whnf))
      refine rdw ?_; repeat' ((with_reducible apply tw) <;> intro _)
      (refine (num20_ok 1).mono ?_; rintro _ _ ⟨rfl, rfl⟩; (conv => whnf))
      refine rdw ?_; repeat' ((with_reducible apply tw) <;> intro _)
      (refine (hzP).mono ?_; rintro _ _ ⟨rfl, rfl⟩; (conv => whnf))
      refine rdw ?_; repeat' ((with_reducible apply tw) <;> intro _)
      (refine Or.inr ?_; (conv => whnf))
      (refine (eqMN_ok).mono ?_; rintro _ _ ⟨rfl, rfl⟩; (conv => whnf))
      refine rdw ?_; repeat' ((with_reducible apply tw) <;> intro _)
      (refine (h6).mono ?_; rintro _ _ ⟨rfl, rfl⟩; (conv => whnf))
      refine rdw ?_; repeat' ((with_reducible apply tw) <;> intro _)
      (refine (hsP).mono ?_; rintro _ _ ⟨rfl, rfl⟩; (conv => whnf))
      refine rdw ?_; repeat' ((with_reducible apply tw) <;> intro _)
      (refine Or.inr ?_; (conv => whnf))
      (refine (spoilN_ok).mono ?_; rintro _ _ ⟨rfl, rfl⟩; (conv => whnf))
      refine rdw ?_; repeat' ((with_reducible apply tw) <;> intro _)
      ((with_reducible refine draw_pl ttOk zOk foOk mixedOk pl19x58 ?_ ?_); (focus kernel_rfl); (conv => whnf))
      repeat' (first | (first | ((with_reducible first | apply rd_intro | apply gd_and); (focus ((conv => whnf) <;> first | rfl | (intro K hK; (conv => whnf); first | exact hK | exact z_wrap (by omega) hK))); conv => whnf) | ((with_reducible apply z_wrap); (focus omega); conv => whnf) | ((with_reducible first | apply mt_dec | apply mt_eq | apply mt_ne | apply mt_not | apply mt_any) <;> (intro _; conv => whnf))) | ((with_reducible apply rd_intro); (focus (intro K hK; (conv => whnf); refine h6.mono ?_; rintro _ _ ⟨rfl, rfl⟩; (conv => whnf); exact hK)); (conv => whnf)) | ((with_reducible apply gd_and); (focus ((conv => whnf); intro K hK; (conv => whnf); refine h6.mono ?_; rintro _ _ ⟨rfl, rfl⟩; (conv => whnf); exact hK)); (conv => whnf)) | (refine (h6).mono ?_; rintro _ _ ⟨rfl, rfl⟩; (conv => whnf)) | fail)
      exact ⟨⟨p, rfl⟩, rfl⟩
end Go.Proofs.YtolkmjfkkkiboaaGreat
