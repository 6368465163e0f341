/- AuditShuffles answers true at every input its form admits: one list of certificates, clear of clashes, read in two orders, gives one dag and one order, and a part of it gives a beginning of that order. -/
import Derived.Test.YtoeppembokpjkaaGreatAuditShufflesCodH
import Derived.Test.YtoeppembokpjkaaGreatRows

set_option linter.unusedVariables false
set_option linter.unusedSimpArgs false
namespace Go.Proofs.YtoeppembokpjkaaGreat
open Go.Ab Go.RowKit Go.MapKept
attribute [local irreducible] ACalls AW ADraw Into fltB fnear
set_option maxRecDepth 100000
theorem eqHeader_same (c : Cert) (h : fewL c) : ACalls Tryz.prog 94 [c.hav, c.hav] [] (fun av L => av = .d (.bool true) ∧ L = []) := by
  have h1 := eqNumbers_ok c.bats c.bats h.bats
  have h2 := eqNumbers_ok c.pars c.pars h.pars
  rw [decide_eq_true rfl] at h1 h2
  refine acalls_go ttOk zOk foOk Tryz.func94 rfl Tryz.ntmps94 rfl false rfl ?_
  conv => whnf
  repeat' (first | ((with_reducible apply rd_intro); (focus (intro K hK; (conv => whnf); first | exact hK | (intro z hz; rw [wrapI (by omega)] at hz; subst hz; exact hK))); (conv => whnf)) | ((with_reducible apply gd_and); (focus ((conv => whnf) <;> first | rfl | (intro K hK; (conv => whnf); first | exact hK | (intro z hz; rw [wrapI (by omega)] at hz; subst hz; exact hK)))); (conv => whnf)) | ((with_reducible apply z_wrap); (focus omega); (conv => whnf)) | ((with_reducible first | apply mt_dec | apply mt_eq | apply mt_ne | apply mt_not | apply mt_any) <;> (intro _; conv => whnf)))
  · refine h1.mono ?_
    rintro _ _ ⟨rfl, rfl⟩
    conv => whnf
    repeat' (first | ((with_reducible apply rd_intro); (focus (intro K hK; (conv => whnf); first | exact hK | (intro z hz; rw [wrapI (by omega)] at hz; subst hz; exact hK))); (conv => whnf)) | ((with_reducible apply gd_and); (focus ((conv => whnf) <;> first | rfl | (intro K hK; (conv => whnf); first | exact hK | (intro z hz; rw [wrapI (by omega)] at hz; subst hz; exact hK)))); (conv => whnf)) | ((with_reducible apply z_wrap); (focus omega); (conv => whnf)) | ((with_reducible first | apply mt_dec | apply mt_eq | apply mt_ne | apply mt_not | apply mt_any) <;> (intro _; conv => whnf)))
    refine h2.mono ?_
    rintro _ _ ⟨rfl, rfl⟩
    conv => whnf
    exact ⟨rfl, rfl⟩
  all_goals (rename_i hx; exact absurd rfl hx)
theorem eqCert_same (c : Cert) (h : fewL c) : ACalls Tryz.prog 64 [c.av, c.av] [] (fun av L => av = .d (.bool true) ∧ L = []) := by
  have h1 := eqHeader_same c h
  have h2 := eqNumbers_ok c.sigs c.sigs h.sigs
  rw [decide_eq_true rfl] at h2
  refine acalls_go ttOk zOk foOk Tryz.func64 rfl Tryz.ntmps64 rfl false rfl ?_
  conv => whnf
  refine h1.mono ?_
  rintro _ _ ⟨rfl, rfl⟩
  conv => whnf
  repeat' (first | ((with_reducible apply rd_intro); (focus (intro K hK; (conv => whnf); first | exact hK | (intro z hz; rw [wrapI (by omega)] at hz; subst hz; exact hK))); (conv => whnf)) | ((with_reducible apply gd_and); (focus ((conv => whnf) <;> first | rfl | (intro K hK; (conv => whnf); first | exact hK | (intro z hz; rw [wrapI (by omega)] at hz; subst hz; exact hK)))); (conv => whnf)) | ((with_reducible apply z_wrap); (focus omega); (conv => whnf)) | ((with_reducible first | apply mt_dec | apply mt_eq | apply mt_ne | apply mt_not | apply mt_any) <;> (intro _; conv => whnf)))
  · refine h2.mono ?_
    rintro _ _ ⟨rfl, rfl⟩
    conv => whnf
    exact ⟨rfl, rfl⟩
  all_goals (rename_i hx; exact absurd rfl hx)
theorem eqCerts_same (l : List Cert) (hl : few l) (h : ∀ c ∈ l, fewL c) : ACalls Tryz.prog 28 [.d (.sl 6 (certsD l)), .d (.sl 6 (certsD l))] [] (fun av L => av = .d (.bool true) ∧ L = []) := by
  have hcl := certsD_length l
  unfold few at hl
  refine acalls_go ttOk zOk foOk Tryz.func28 rfl Tryz.ntmps28 rfl false rfl ?_
  conv => whnf
  repeat' (first | ((with_reducible apply rd_intro); (focus (intro K hK; (conv => whnf); first | exact hK | (intro z hz; rw [wrapI (by omega)] at hz; subst hz; exact hK))); (conv => whnf)) | ((with_reducible apply gd_and); (focus ((conv => whnf) <;> first | rfl | (intro K hK; (conv => whnf); first | exact hK | (intro z hz; rw [wrapI (by omega)] at hz; subst hz; exact hK)))); (conv => whnf)) | ((with_reducible apply z_wrap); (focus omega); (conv => whnf)) | ((with_reducible first | apply mt_dec | apply mt_eq | apply mt_ne | apply mt_not | apply mt_any) <;> (intro _; conv => whnf)))
  · rename_i hx; exact absurd rfl hx
  · refine loop_go ttOk zOk foOk (σ := Nat) (fun k => ([(0, .d (.sl 6 (certsD l))), (1, .d (.sl 6 (certsD l))), (5, .d (.int .i64 k))], [])) (fun k => k ≤ l.length) (fun k => l.length - k) [0, 1, 5] ?_ ?_
    · conv => whnf
      exact ⟨0, rfl, rfl, by omega⟩
    · intro k hk
      conv => whnf
      rw [hcl]
      repeat' (first | ((with_reducible apply rd_intro); (focus (intro K hK; (conv => whnf); first | exact hK | (intro z hz; rw [wrapI (by omega)] at hz; subst hz; exact hK))); (conv => whnf)) | ((with_reducible apply gd_and); (focus ((conv => whnf) <;> first | rfl | (intro K hK; (conv => whnf); first | exact hK | (intro z hz; rw [wrapI (by omega)] at hz; subst hz; exact hK)))); (conv => whnf)) | ((with_reducible apply z_wrap); (focus omega); (conv => whnf)) | ((with_reducible first | apply mt_dec | apply mt_eq | apply mt_ne | apply mt_not | apply mt_any) <;> (intro _; conv => whnf)))
      · rename_i hkl
        refine Exists.elim (⟨_, List.getElem?_eq_getElem (by omega)⟩ : ∃ c, l[k]? = some c) fun c hc => ?_
        have h1 := eqCert_same c (h c (List.mem_of_getElem? hc))
        ((with_reducible refine draw_pl ttOk zOk foOk mixedOk pl28x6 ?_ ?_); (focus kernel_rfl); (conv => whnf))
        repeat' (first | ((with_reducible apply rd_intro); (focus (intro K hK; (conv => whnf); first | exact hK | (intro z hz; rw [wrapI (by omega)] at hz; subst hz; exact hK))); (conv => whnf)) | ((with_reducible apply gd_and); (focus ((conv => whnf) <;> first | rfl | (intro K hK; (conv => whnf); first | exact hK | (intro z hz; rw [wrapI (by omega)] at hz; subst hz; exact hK)))); (conv => whnf)) | ((with_reducible apply z_wrap); (focus omega); (conv => whnf)) | ((with_reducible first | apply mt_dec | apply mt_eq | apply mt_ne | apply mt_not | apply mt_any) <;> (intro _; conv => whnf)))
        ((with_reducible apply rd_intro); (focus (intro K hK; (conv => whnf); exact ⟨by omega, c.cs, certsD_at hc, hK⟩)); (conv => whnf))
        repeat' (first | ((with_reducible apply rd_intro); (focus (intro K hK; (conv => whnf); first | exact hK | (intro z hz; rw [wrapI (by omega)] at hz; subst hz; exact hK))); (conv => whnf)) | ((with_reducible apply gd_and); (focus ((conv => whnf) <;> first | rfl | (intro K hK; (conv => whnf); first | exact hK | (intro z hz; rw [wrapI (by omega)] at hz; subst hz; exact hK)))); (conv => whnf)) | ((with_reducible apply z_wrap); (focus omega); (conv => whnf)) | ((with_reducible first | apply mt_dec | apply mt_eq | apply mt_ne | apply mt_not | apply mt_any) <;> (intro _; conv => whnf)))
        ((with_reducible apply rd_intro); (focus (intro K hK; (conv => whnf); exact ⟨by omega, c.cs, certsD_at hc, hK⟩)); (conv => whnf))
        repeat' (first | ((with_reducible apply rd_intro); (focus (intro K hK; (conv => whnf); first | exact hK | (intro z hz; rw [wrapI (by omega)] at hz; subst hz; exact hK))); (conv => whnf)) | ((with_reducible apply gd_and); (focus ((conv => whnf) <;> first | rfl | (intro K hK; (conv => whnf); first | exact hK | (intro z hz; rw [wrapI (by omega)] at hz; subst hz; exact hK)))); (conv => whnf)) | ((with_reducible apply z_wrap); (focus omega); (conv => whnf)) | ((with_reducible first | apply mt_dec | apply mt_eq | apply mt_ne | apply mt_not | apply mt_any) <;> (intro _; conv => whnf)))
        refine h1.mono ?_
        rintro _ _ ⟨rfl, rfl⟩
        conv => whnf
        repeat' (first | ((with_reducible apply rd_intro); (focus (intro K hK; (conv => whnf); first | exact hK | (intro z hz; rw [wrapI (by omega)] at hz; subst hz; exact hK))); (conv => whnf)) | ((with_reducible apply gd_and); (focus ((conv => whnf) <;> first | rfl | (intro K hK; (conv => whnf); first | exact hK | (intro z hz; rw [wrapI (by omega)] at hz; subst hz; exact hK)))); (conv => whnf)) | ((with_reducible apply z_wrap); (focus omega); (conv => whnf)) | ((with_reducible first | apply mt_dec | apply mt_eq | apply mt_ne | apply mt_not | apply mt_any) <;> (intro _; conv => whnf)))
        exact ⟨k + 1, rfl, rfl, by omega, by omega⟩
      · exact ⟨rfl, rfl⟩
theorem eqDag_same (d : Dag) (hl : few d.certs) (h : ∀ c ∈ d.certs, fewL c) : ACalls Tryz.prog 19 [d.av, d.av] [] (fun av L => av = .d (.bool true) ∧ L = []) := by
  have h1 := eqCerts_same d.certs hl h
  refine acalls_go ttOk zOk foOk Tryz.func19 rfl Tryz.ntmps19 rfl false rfl ?_
  conv => whnf
  repeat' (first | ((with_reducible apply rd_intro); (focus (intro K hK; (conv => whnf); first | exact hK | (intro z hz; rw [wrapI (by omega)] at hz; subst hz; exact hK))); (conv => whnf)) | ((with_reducible apply gd_and); (focus ((conv => whnf) <;> first | rfl | (intro K hK; (conv => whnf); first | exact hK | (intro z hz; rw [wrapI (by omega)] at hz; subst hz; exact hK)))); (conv => whnf)) | ((with_reducible apply z_wrap); (focus omega); (conv => whnf)) | ((with_reducible first | apply mt_dec | apply mt_eq | apply mt_ne | apply mt_not | apply mt_any) <;> (intro _; conv => whnf)))
  · refine h1.mono ?_
    rintro _ _ ⟨rfl, rfl⟩
    conv => whnf
    exact ⟨rfl, rfl⟩
  all_goals (rename_i hx; exact absurd rfl hx)
end Go.Proofs.YtoeppembokpjkaaGreat

namespace Go.Proofs.YtoeppembokpjkaaGreat
open Go.Ab Go.RowKit Go.MapKept
attribute [local irreducible] ACalls AW ADraw Into fltB fnear
set_option maxRecDepth 100000
def pl6x9b : Plan := ⟨[[], [0], [], [2, 0, 1], [1, 0, 2, 3], [], [5], [], [7, 5, 6], [6, 5, 7, 8], [], [], [11, 3, 2, 0, 1, 4, 10], [10, 4, 1, 0, 2, 3, 12, 8, 7, 5, 6, 9, 11]], [0, 1, 2, 3, 4, 5, 6, 7, 8, 9], [(11, []), (10, []), (12, []), (13, [])]⟩
/-! ## AuditShuffles -/
def asO (p : AskA) (i : Nat) : AF × List AB := ([(1, .ptr 0 0), (3, .d (.int .i64 i))], [.cells p.cells])
def asI (p : AskA) (i k : Nat) : AF × List AB := ([(1, .ptr 0 0), (3, .d (.int .i64 i)), (4, .d (.int .i64 k))], [.cells p.cells])
def asB (p : AskA) (m : Nat) (so : List Cert) : AF × List AB := ([(1, .ptr 0 0), (7, .arr 1), (8, .arr 2), (9, .d (.int .i64 ((m : Int) - 1)))], [.cells p.cells, .row 68 6 (certsD (p.l.drop m).reverse) false, .row 68 6 (certsD so) false])
def asB_fst (z : Int) : AF := [(1, .ptr 0 0), (7, .arr 1), (8, .arr 2), (9, .d (.int .i64 z))]
theorem asB_snd {cl : List AV} {a a' b b' : List (List DV)} (h : a = a') (h2 : b = b') : [AB.cells cl, .row 68 6 a false, .row 68 6 b false] = [AB.cells cl, .row 68 6 a' false, .row 68 6 b' false] := by rw [h, h2]
def apart (a b : Cert) : Prop := a.digest ≠ b.digest ∧ ¬ (a.round = b.round ∧ a.author = b.author)
theorem clear_of {l : List Cert} (h : ∀ (i k : Nat) a b, k < i → l[i]? = some a → l[k]? = some b → apart a b) : clear2 l := by
  refine List.pairwise_iff_getElem.2 fun i j hi hj hij => ?_
  have := h j i _ _ hij (List.getElem?_eq_getElem hj) (List.getElem?_eq_getElem hi)
  exact ⟨Ne.symm this.1, fun e => this.2 ⟨e.1.symm, e.2.symm⟩⟩
theorem drop_rev {l : List Cert} {m : Nat} {c : Cert} (hc : l[m]? = some c) : (l.drop m).reverse = (l.drop (m + 1)).reverse ++ [c] := by
  have hm := (List.getElem?_eq_some_iff.1 hc).1
  have : l.drop m = c :: l.drop (m + 1) := by
    rw [List.drop_eq_getElem_cons hm]
    rw [List.getElem?_eq_getElem hm] at hc
    cases hc; rfl
  rw [this, List.reverse_cons]
set_option maxHeartbeats 8000000 in
theorem auditShuffles_ok (p : AskA) (hp : p.ok) : ACalls Tryz.prog 6 [p.av] [] (fun av L => av = .d (.bool true) ∧ L = []) := by
  have hcl := certsD_length p.l
  have hol := nums_length p.outs
  refine acalls_go ttOk zOk foOk Tryz.func6 rfl Tryz.ntmps6 rfl false rfl ?_
  conv => whnf
  refine (heavy25_ok p hp).mono ?_
  rintro _ _ ⟨⟨b, rfl, hb⟩, rfl⟩
  cases b with
  | true =>
    conv => whnf
    exact ⟨rfl, rfl⟩
  | false =>
    have hl := hb rfl
    have hlen := hl.len
    have hf := hl.all
    have hou := hl.outs
    have hmay := rMay25_ok p.n p.l (by omega) fun c hc => (hf c hc).1
    conv => whnf
    refine hmay.mono ?_
    rintro _ _ ⟨rfl, rfl⟩
    cases hok : okAll p.n p.l with
    | false =>
      conv => whnf
      exact ⟨rfl, rfl⟩
    | true =>
      conv => whnf
      repeat' (first | ((with_reducible apply rd_intro); (focus (intro K hK; (conv => whnf); first | exact hK | (intro z hz; rw [wrapI (by omega)] at hz; subst hz; exact hK))); (conv => whnf)) | ((with_reducible apply gd_and); (focus ((conv => whnf) <;> first | rfl | (intro K hK; (conv => whnf); first | exact hK | (intro z hz; rw [wrapI (by omega)] at hz; subst hz; exact hK)))); (conv => whnf)) | ((with_reducible apply z_wrap); (focus omega); (conv => whnf)) | ((with_reducible first | apply mt_dec | apply mt_eq | apply mt_ne | apply mt_not | apply mt_any) <;> (intro _; conv => whnf)))
      · exact ⟨rfl, rfl⟩
      · rename_i h40
        refine loop_go ttOk zOk foOk (σ := Nat) (asO p) (fun i => i ≤ p.l.length ∧ ∀ (j k : Nat) a b, j < i → k < j → p.l[j]? = some a → p.l[k]? = some b → apart a b) (fun i => p.l.length - i) [1, 3] ?_ ?_
        · conv => whnf
          exact ⟨0, rfl, rfl, Nat.zero_le _, fun j k a b h => absurd h (by omega)⟩
        · rintro i ⟨hi, hap⟩
          conv => whnf
          repeat' (first | ((with_reducible apply rd_intro); (focus (intro K hK; (conv => whnf); first | exact hK | (intro z hz; rw [wrapI (by omega)] at hz; subst hz; exact hK))); (conv => whnf)) | ((with_reducible apply gd_and); (focus ((conv => whnf) <;> first | rfl | (intro K hK; (conv => whnf); first | exact hK | (intro z hz; rw [wrapI (by omega)] at hz; subst hz; exact hK)))); (conv => whnf)) | ((with_reducible apply z_wrap); (focus omega); (conv => whnf)) | ((with_reducible first | apply mt_dec | apply mt_eq | apply mt_ne | apply mt_not | apply mt_any) <;> (intro _; conv => whnf)))
          · rename_i hil
            refine Exists.elim (⟨_, List.getElem?_eq_getElem (by omega)⟩ : ∃ c, p.l[i]? = some c) fun a ha => ?_
            refine loop_go ttOk zOk foOk (σ := Nat) (asI p i) (fun k => k ≤ i ∧ ∀ (j : Nat) y, j < k → p.l[j]? = some y → apart a y) (fun k => i - k) [1, 3, 4] ?_ ?_
            · conv => whnf
              exact ⟨0, rfl, rfl, Nat.zero_le _, fun j y h => absurd h (by omega)⟩
            · rintro k ⟨hk, hak⟩
              conv => whnf
              repeat' (first | ((with_reducible apply rd_intro); (focus (intro K hK; (conv => whnf); first | exact hK | (intro z hz; rw [wrapI (by omega)] at hz; subst hz; exact hK))); (conv => whnf)) | ((with_reducible apply gd_and); (focus ((conv => whnf) <;> first | rfl | (intro K hK; (conv => whnf); first | exact hK | (intro z hz; rw [wrapI (by omega)] at hz; subst hz; exact hK)))); (conv => whnf)) | ((with_reducible apply z_wrap); (focus omega); (conv => whnf)) | ((with_reducible first | apply mt_dec | apply mt_eq | apply mt_ne | apply mt_not | apply mt_any) <;> (intro _; conv => whnf)))
              · rename_i hki
                refine Exists.elim (⟨_, List.getElem?_eq_getElem (by omega)⟩ : ∃ c, p.l[k]? = some c) fun c hc => ?_
                ((with_reducible refine draw_pl2 ttOk zOk foOk mixedOk pl6x9 pl6x9b ?_ ?_); (focus kernel_rfl); (conv => whnf))
                repeat' (first | (first | ((with_reducible apply rd_intro); (focus (intro K hK; (conv => whnf); first | exact hK | (intro z hz; rw [wrapI (by omega)] at hz; subst hz; exact hK))); (conv => whnf)) | ((with_reducible apply gd_and); (focus ((conv => whnf) <;> first | rfl | (intro K hK; (conv => whnf); first | exact hK | (intro z hz; rw [wrapI (by omega)] at hz; subst hz; exact hK)))); (conv => whnf)) | ((with_reducible apply z_wrap); (focus omega); (conv => whnf)) | ((with_reducible first | apply mt_dec | apply mt_eq | apply mt_ne | apply mt_not | apply mt_any) <;> (intro _; conv => whnf))) | ((with_reducible apply rd_intro); (focus (intro K hK; (conv => whnf); exact ⟨by omega, a.cs, certsD_at ha, hK⟩)); (conv => whnf)) | ((with_reducible apply rd_intro); (focus (intro K hK; (conv => whnf); exact ⟨by omega, c.cs, certsD_at hc, hK⟩)); (conv => whnf)))
                refine ⟨?_, ?_⟩
                · conv => whnf
                  repeat' (first | (first | ((with_reducible apply rd_intro); (focus (intro K hK; (conv => whnf); first | exact hK | (intro z hz; rw [wrapI (by omega)] at hz; subst hz; exact hK))); (conv => whnf)) | ((with_reducible apply gd_and); (focus ((conv => whnf) <;> first | rfl | (intro K hK; (conv => whnf); first | exact hK | (intro z hz; rw [wrapI (by omega)] at hz; subst hz; exact hK)))); (conv => whnf)) | ((with_reducible apply z_wrap); (focus omega); (conv => whnf)) | ((with_reducible first | apply mt_dec | apply mt_eq | apply mt_ne | apply mt_not | apply mt_any) <;> (intro _; conv => whnf))) | ((with_reducible apply gd_and); (focus ((conv => whnf); intro K hK; (conv => whnf); exact ⟨by omega, a.cs, certsD_at ha, hK⟩)); (conv => whnf)) | ((with_reducible apply gd_and); (focus ((conv => whnf); intro K hK; (conv => whnf); exact ⟨by omega, c.cs, certsD_at hc, hK⟩)); (conv => whnf)))
                  · exact ⟨rfl, rfl⟩
                  · exact ⟨rfl, rfl⟩
                  all_goals
                    refine ⟨k + 1, rfl, rfl, ⟨by omega, fun j y hj hy => ?_⟩, by omega⟩
                    rcases Nat.lt_or_ge j k with h4 | h4
                    · exact hak j y h4 hy
                    · obtain rfl : j = k := by omega
                      rw [hc] at hy; cases hy
                      exact ⟨by assumption, fun e => by omega⟩
                · conv => whnf
                  repeat' (first | (first | ((with_reducible apply rd_intro); (focus (intro K hK; (conv => whnf); first | exact hK | (intro z hz; rw [wrapI (by omega)] at hz; subst hz; exact hK))); (conv => whnf)) | ((with_reducible apply gd_and); (focus ((conv => whnf) <;> first | rfl | (intro K hK; (conv => whnf); first | exact hK | (intro z hz; rw [wrapI (by omega)] at hz; subst hz; exact hK)))); (conv => whnf)) | ((with_reducible apply z_wrap); (focus omega); (conv => whnf)) | ((with_reducible first | apply mt_dec | apply mt_eq | apply mt_ne | apply mt_not | apply mt_any) <;> (intro _; conv => whnf))) | ((with_reducible apply gd_and); (focus ((conv => whnf); intro K hK; (conv => whnf); exact ⟨by omega, a.cs, certsD_at ha, hK⟩)); (conv => whnf)) | ((with_reducible apply gd_and); (focus ((conv => whnf); intro K hK; (conv => whnf); exact ⟨by omega, c.cs, certsD_at hc, hK⟩)); (conv => whnf)))
                  · exact ⟨rfl, rfl⟩
                  · exact ⟨rfl, rfl⟩
                  all_goals
                    refine ⟨k + 1, rfl, rfl, ⟨by omega, fun j y hj hy => ?_⟩, by omega⟩
                    rcases Nat.lt_or_ge j k with h4 | h4
                    · exact hak j y h4 hy
                    · obtain rfl : j = k := by omega
                      rw [hc] at hy; cases hy
                      exact ⟨by assumption, fun e => by omega⟩
              · rename_i hki
                refine ⟨i + 1, rfl, rfl, ⟨by omega, fun j k2 x y hj hk2 hx hy => ?_⟩, by omega⟩
                rcases Nat.lt_or_ge j i with h4 | h4
                · exact hap j k2 x y h4 hk2 hx hy
                · obtain rfl : j = i := by omega
                  rw [ha] at hx; cases hx
                  exact hak k2 y (by omega) hy
          · rename_i hil
            have hii : i = p.l.length := by omega
            have hclr : clear2 p.l := clear_of fun i2 k a b hk ha hb => hap i2 k a b (by rw [hii]; exact (List.getElem?_eq_some_iff.1 ha).1) hk ha hb
            refine loop_go2 ttOk zOk foOk (σ := Nat) (ρ := List Cert) (asB p) (fun m so => m ≤ p.l.length ∧ (∀ c ∈ so, c ∈ p.l) ∧ so.length ≤ p.l.length - m) (fun m _ => m) [1, 7, 8, 9] ?_ ?_
            · conv => whnf
              refine ⟨p.l.length, [], by rw [hcl]; rfl, ?_, ⟨Nat.le_refl _, by simp, by simp⟩⟩
              show _ = [AB.cells p.cells, .row 68 6 (certsD (p.l.drop p.l.length).reverse) false, .row 68 6 (certsD []) false]
              rw [List.drop_length]
              rfl
            · rintro m so ⟨hm, hso, hsl⟩
              have hsn := certsD_length so
              have hrn := certsD_length (p.l.drop m).reverse
              conv => whnf
              repeat' (first | ((with_reducible apply rd_intro); (focus (intro K hK; (conv => whnf); first | exact hK | (intro z hz; rw [wrapI (by omega)] at hz; subst hz; exact hK))); (conv => whnf)) | ((with_reducible apply gd_and); (focus ((conv => whnf) <;> first | rfl | (intro K hK; (conv => whnf); first | exact hK | (intro z hz; rw [wrapI (by omega)] at hz; subst hz; exact hK)))); (conv => whnf)) | ((with_reducible apply z_wrap); (focus omega); (conv => whnf)) | ((with_reducible first | apply mt_dec | apply mt_eq | apply mt_ne | apply mt_not | apply mt_any) <;> (intro _; conv => whnf)))
              · rename_i hm1
                obtain ⟨q, rfl⟩ : ∃ q, m = q + 1 := ⟨m - 1, by omega⟩
                refine Exists.elim (⟨_, List.getElem?_eq_getElem (by omega)⟩ : ∃ c, p.l[q]? = some c) fun c hc => ?_
                have hcq : (certsD p.l)[(((q + 1 : Nat) : Int) - 1).toNat]? = some c.cs := by rw [show (((q + 1 : Nat) : Int) - 1).toNat = q by omega]; exact certsD_at hc
                have hdr := drop_rev hc
                have hrl : (p.l.drop (q + 1)).reverse.length ≤ p.l.length := by simp
                have e1 : certsD (p.l.drop q).reverse = certsD (p.l.drop (q + 1)).reverse ++ [c.cs] := by rw [hdr]; simp [certsD]
                have e2 : certsD (so ++ [c]) = certsD so ++ [c.cs] := by simp [certsD]
                have h9 : (((q + 1 : Nat) : Int) - 1 - 1) = (q : Int) - 1 := by omega
                refine ⟨by omega, c.cs, hcq, ?_⟩
                conv => whnf
                refine ⟨by simp; omega, ?_⟩
                conv => whnf
                repeat' (first | ((with_reducible apply rd_intro); (focus (intro K hK; (conv => whnf); first | exact hK | (intro z hz; rw [wrapI (by omega)] at hz; subst hz; exact hK))); (conv => whnf)) | ((with_reducible apply gd_and); (focus ((conv => whnf) <;> first | rfl | (intro K hK; (conv => whnf); first | exact hK | (intro z hz; rw [wrapI (by omega)] at hz; subst hz; exact hK)))); (conv => whnf)) | ((with_reducible apply z_wrap); (focus omega); (conv => whnf)) | ((with_reducible first | apply mt_dec | apply mt_eq | apply mt_ne | apply mt_not | apply mt_any) <;> (intro _; conv => whnf)))
                refine ⟨by decide, ?_⟩
                intro z hz
                conv => whnf
                refine (within_ok (nums p.outs).length 4 (by decide) (by decide) (by omega)).mono ?_
                rintro _ _ ⟨rfl, rfl⟩
                conv => whnf
                repeat' (first | ((with_reducible apply rd_intro); (focus (intro K hK; (conv => whnf); first | exact hK | (intro z hz; rw [wrapI (by omega)] at hz; subst hz; exact hK))); (conv => whnf)) | ((with_reducible apply gd_and); (focus ((conv => whnf) <;> first | rfl | (intro K hK; (conv => whnf); first | exact hK | (intro z hz; rw [wrapI (by omega)] at hz; subst hz; exact hK)))); (conv => whnf)) | ((with_reducible apply z_wrap); (focus omega); (conv => whnf)) | ((with_reducible first | apply mt_dec | apply mt_eq | apply mt_ne | apply mt_not | apply mt_any) <;> (intro _; conv => whnf)))
                · refine ⟨by omega, c.cs, hcq, ?_⟩
                  conv => whnf
                  refine ⟨by simp; omega, ?_⟩
                  conv => whnf
                  repeat' (first | ((with_reducible apply rd_intro); (focus (intro K hK; (conv => whnf); first | exact hK | (intro z hz; rw [wrapI (by omega)] at hz; subst hz; exact hK))); (conv => whnf)) | ((with_reducible apply gd_and); (focus ((conv => whnf) <;> first | rfl | (intro K hK; (conv => whnf); first | exact hK | (intro z hz; rw [wrapI (by omega)] at hz; subst hz; exact hK)))); (conv => whnf)) | ((with_reducible apply z_wrap); (focus omega); (conv => whnf)) | ((with_reducible first | apply mt_dec | apply mt_eq | apply mt_ne | apply mt_not | apply mt_any) <;> (intro _; conv => whnf)))
                  refine ⟨q, so ++ [c], congrArg asB_fst h9, asB_snd e1.symm e2.symm, ⟨by omega, ?_, ?_⟩, by omega⟩
                  · intro x hx
                    rcases List.mem_append.1 hx with hx | hx
                    · exact hso x hx
                    · rw [List.mem_singleton.1 hx]; exact List.mem_of_getElem? hc
                  · rw [List.length_append]; simp; omega
                · exact ⟨q, so, congrArg asB_fst h9, asB_snd e1.symm rfl, ⟨by omega, hso, by omega⟩, by omega⟩
              · rename_i hm1
                obtain rfl : m = 0 := by omega
                have hsh : shuf p.n p.l p.l.reverse := ⟨(okAll_iff.1 hok).1, (okAll_iff.1 hok).2, hclr, by omega, fun c hc => by simpa using hc, by simp; omega⟩
                have hss : shuf p.n p.l so := ⟨(okAll_iff.1 hok).1, (okAll_iff.1 hok).2, hclr, by omega, hso, by omega⟩
                have hbk := shuf_same hsh (List.reverse_perm _).symm
                have hpre := shuf_outs hss
                have hokb : okAll p.n p.l.reverse = true := okAll_iff.2 ⟨(okAll_iff.1 hok).1, fun c hc => (okAll_iff.1 hok).2 c (by simpa using hc)⟩
                have hoks : okAll p.n so = true := okAll_iff.2 ⟨(okAll_iff.1 hok).1, fun c hc => (okAll_iff.1 hok).2 c (hso c hc)⟩
                have hval := (buildD_valid (okAll_iff.1 hok).1 (by omega) (okAll_iff.1 hok).2).1
                have hin := (buildD_valid (okAll_iff.1 hok).1 (by omega) (okAll_iff.1 hok).2).2.2.2.2
                have hdag1 := auditDag_ok p.n p.l (by omega) hf
                have hdag2 := auditDag_ok p.n p.l.reverse (by simp; omega) fun c hc => hf c (by simpa using hc)
                have ho1 := order_audit p.n p.l (by omega) hf
                have ho2 := order_audit p.n p.l.reverse (by simp; omega) fun c hc => hf c (by simpa using hc)
                have ho3 := order_audit p.n so (by omega) fun c hc => hf c (hso c hc)
                rw [ordL, ordE, if_pos hok, if_pos hok] at ho1
                rw [ordL, ordE, if_pos hokb, if_pos hokb, hbk] at ho2
                rw [ordL, ordE, if_pos hoks, if_pos hoks] at ho3
                rw [adagAV, if_pos hok] at hdag1
                rw [adagAV, if_pos hokb, hbk] at hdag2
                have hfo := few_outs hval
                have hdl : (buildD p.n p.l).certs.length ≤ 65536 := hval.len
                obtain ⟨D, hD⟩ : ∃ D, buildD p.n p.l = D := ⟨_, rfl⟩
                rw [hD] at hdag1 hdag2 ho1 ho2 hpre hval hin hfo hdl
                obtain ⟨ys, hys⟩ : ∃ ys, outsD D = ys := ⟨_, rfl⟩
                obtain ⟨zs, hzs⟩ : ∃ zs, outsD (buildD p.n so) = zs := ⟨_, rfl⟩
                rw [hys] at ho1 ho2 hpre hfo
                rw [hzs] at ho3 hpre
                have hyl := nums_length ys
                have hzl := nums_length zs
                have hfy : few ys := by unfold few; omega
                have hzy := hpre.length_le
                have hfz : few zs := by unfold few; omega
                have hfD : ∀ c ∈ D.certs, fewL c := fun c hc => (hf c (hin c hc)).1
                have heq := eqDag_same D (by unfold few; omega) hfD
                have hmy := rMayDag_true D hval
                refine hdag1.mono ?_
                rintro _ _ ⟨rfl, rfl⟩
                conv => whnf
                repeat' (first | ((with_reducible apply rd_intro); (focus (intro K hK; (conv => whnf); first | exact hK | (intro z hz; rw [wrapI (by omega)] at hz; subst hz; exact hK))); (conv => whnf)) | ((with_reducible apply gd_and); (focus ((conv => whnf) <;> first | rfl | (intro K hK; (conv => whnf); first | exact hK | (intro z hz; rw [wrapI (by omega)] at hz; subst hz; exact hK)))); (conv => whnf)) | ((with_reducible apply z_wrap); (focus omega); (conv => whnf)) | ((with_reducible first | apply mt_dec | apply mt_eq | apply mt_ne | apply mt_not | apply mt_any) <;> (intro _; conv => whnf)))
                (refine Or.inl ?_; (conv => whnf))
                refine hdag2.mono ?_
                rintro _ _ ⟨rfl, rfl⟩
                conv => whnf
                repeat' (first | ((with_reducible apply rd_intro); (focus (intro K hK; (conv => whnf); first | exact hK | (intro z hz; rw [wrapI (by omega)] at hz; subst hz; exact hK))); (conv => whnf)) | ((with_reducible apply gd_and); (focus ((conv => whnf) <;> first | rfl | (intro K hK; (conv => whnf); first | exact hK | (intro z hz; rw [wrapI (by omega)] at hz; subst hz; exact hK)))); (conv => whnf)) | ((with_reducible apply z_wrap); (focus omega); (conv => whnf)) | ((with_reducible first | apply mt_dec | apply mt_eq | apply mt_ne | apply mt_not | apply mt_any) <;> (intro _; conv => whnf)))
                refine ho1.mono ?_
                rintro _ _ ⟨rfl, rfl⟩
                conv => whnf
                repeat' (first | ((with_reducible apply rd_intro); (focus (intro K hK; (conv => whnf); first | exact hK | (intro z hz; rw [wrapI (by omega)] at hz; subst hz; exact hK))); (conv => whnf)) | ((with_reducible apply gd_and); (focus ((conv => whnf) <;> first | rfl | (intro K hK; (conv => whnf); first | exact hK | (intro z hz; rw [wrapI (by omega)] at hz; subst hz; exact hK)))); (conv => whnf)) | ((with_reducible apply z_wrap); (focus omega); (conv => whnf)) | ((with_reducible first | apply mt_dec | apply mt_eq | apply mt_ne | apply mt_not | apply mt_any) <;> (intro _; conv => whnf)))
                (refine Or.inl ?_; (conv => whnf))
                refine ho2.mono ?_
                rintro _ _ ⟨rfl, rfl⟩
                conv => whnf
                repeat' (first | ((with_reducible apply rd_intro); (focus (intro K hK; (conv => whnf); first | exact hK | (intro z hz; rw [wrapI (by omega)] at hz; subst hz; exact hK))); (conv => whnf)) | ((with_reducible apply gd_and); (focus ((conv => whnf) <;> first | rfl | (intro K hK; (conv => whnf); first | exact hK | (intro z hz; rw [wrapI (by omega)] at hz; subst hz; exact hK)))); (conv => whnf)) | ((with_reducible apply z_wrap); (focus omega); (conv => whnf)) | ((with_reducible first | apply mt_dec | apply mt_eq | apply mt_ne | apply mt_not | apply mt_any) <;> (intro _; conv => whnf)))
                refine (num25_ok 0).mono ?_
                rintro _ _ ⟨rfl, rfl⟩
                conv => whnf
                repeat' (first | ((with_reducible apply rd_intro); (focus (intro K hK; (conv => whnf); first | exact hK | (intro z hz; rw [wrapI (by omega)] at hz; subst hz; exact hK))); (conv => whnf)) | ((with_reducible apply gd_and); (focus ((conv => whnf) <;> first | rfl | (intro K hK; (conv => whnf); first | exact hK | (intro z hz; rw [wrapI (by omega)] at hz; subst hz; exact hK)))); (conv => whnf)) | ((with_reducible apply z_wrap); (focus omega); (conv => whnf)) | ((with_reducible first | apply mt_dec | apply mt_eq | apply mt_ne | apply mt_not | apply mt_any) <;> (intro _; conv => whnf)))
                refine (num25_ok 0).mono ?_
                rintro _ _ ⟨rfl, rfl⟩
                conv => whnf
                repeat' (first | ((with_reducible apply rd_intro); (focus (intro K hK; (conv => whnf); first | exact hK | (intro z hz; rw [wrapI (by omega)] at hz; subst hz; exact hK))); (conv => whnf)) | ((with_reducible apply gd_and); (focus ((conv => whnf) <;> first | rfl | (intro K hK; (conv => whnf); first | exact hK | (intro z hz; rw [wrapI (by omega)] at hz; subst hz; exact hK)))); (conv => whnf)) | ((with_reducible apply z_wrap); (focus omega); (conv => whnf)) | ((with_reducible first | apply mt_dec | apply mt_eq | apply mt_ne | apply mt_not | apply mt_any) <;> (intro _; conv => whnf)))
                refine (num25_ok 0).mono ?_
                rintro _ _ ⟨rfl, rfl⟩
                conv => whnf
                repeat' (first | ((with_reducible apply rd_intro); (focus (intro K hK; (conv => whnf); first | exact hK | (intro z hz; rw [wrapI (by omega)] at hz; subst hz; exact hK))); (conv => whnf)) | ((with_reducible apply gd_and); (focus ((conv => whnf) <;> first | rfl | (intro K hK; (conv => whnf); first | exact hK | (intro z hz; rw [wrapI (by omega)] at hz; subst hz; exact hK)))); (conv => whnf)) | ((with_reducible apply z_wrap); (focus omega); (conv => whnf)) | ((with_reducible first | apply mt_dec | apply mt_eq | apply mt_ne | apply mt_not | apply mt_any) <;> (intro _; conv => whnf)))
                refine (num25_ok 0).mono ?_
                rintro _ _ ⟨rfl, rfl⟩
                conv => whnf
                repeat' (first | ((with_reducible apply rd_intro); (focus (intro K hK; (conv => whnf); first | exact hK | (intro z hz; rw [wrapI (by omega)] at hz; subst hz; exact hK))); (conv => whnf)) | ((with_reducible apply gd_and); (focus ((conv => whnf) <;> first | rfl | (intro K hK; (conv => whnf); first | exact hK | (intro z hz; rw [wrapI (by omega)] at hz; subst hz; exact hK)))); (conv => whnf)) | ((with_reducible apply z_wrap); (focus omega); (conv => whnf)) | ((with_reducible first | apply mt_dec | apply mt_eq | apply mt_ne | apply mt_not | apply mt_any) <;> (intro _; conv => whnf)))
                refine heq.mono ?_
                rintro _ _ ⟨rfl, rfl⟩
                conv => whnf
                repeat' (first | ((with_reducible apply rd_intro); (focus (intro K hK; (conv => whnf); first | exact hK | (intro z hz; rw [wrapI (by omega)] at hz; subst hz; exact hK))); (conv => whnf)) | ((with_reducible apply gd_and); (focus ((conv => whnf) <;> first | rfl | (intro K hK; (conv => whnf); first | exact hK | (intro z hz; rw [wrapI (by omega)] at hz; subst hz; exact hK)))); (conv => whnf)) | ((with_reducible apply z_wrap); (focus omega); (conv => whnf)) | ((with_reducible first | apply mt_dec | apply mt_eq | apply mt_ne | apply mt_not | apply mt_any) <;> (intro _; conv => whnf)))
                refine (eqNumbers_ok ys ys hfy).mono ?_
                rintro _ _ ⟨rfl, rfl⟩
                rw [decide_eq_true rfl]
                conv => whnf
                repeat' (first | ((with_reducible apply rd_intro); (focus (intro K hK; (conv => whnf); first | exact hK | (intro z hz; rw [wrapI (by omega)] at hz; subst hz; exact hK))); (conv => whnf)) | ((with_reducible apply gd_and); (focus ((conv => whnf) <;> first | rfl | (intro K hK; (conv => whnf); first | exact hK | (intro z hz; rw [wrapI (by omega)] at hz; subst hz; exact hK)))); (conv => whnf)) | ((with_reducible apply z_wrap); (focus omega); (conv => whnf)) | ((with_reducible first | apply mt_dec | apply mt_eq | apply mt_ne | apply mt_not | apply mt_any) <;> (intro _; conv => whnf)))
                refine hmy.mono ?_
                rintro _ _ ⟨rfl, rfl⟩
                conv => whnf
                repeat' (first | ((with_reducible apply rd_intro); (focus (intro K hK; (conv => whnf); first | exact hK | (intro z hz; rw [wrapI (by omega)] at hz; subst hz; exact hK))); (conv => whnf)) | ((with_reducible apply gd_and); (focus ((conv => whnf) <;> first | rfl | (intro K hK; (conv => whnf); first | exact hK | (intro z hz; rw [wrapI (by omega)] at hz; subst hz; exact hK)))); (conv => whnf)) | ((with_reducible apply z_wrap); (focus omega); (conv => whnf)) | ((with_reducible first | apply mt_dec | apply mt_eq | apply mt_ne | apply mt_not | apply mt_any) <;> (intro _; conv => whnf)))
                (refine Or.inl ?_; (conv => whnf))
                refine ho3.mono ?_
                rintro _ _ ⟨rfl, rfl⟩
                conv => whnf
                repeat' (first | ((with_reducible apply rd_intro); (focus (intro K hK; (conv => whnf); first | exact hK | (intro z hz; rw [wrapI (by omega)] at hz; subst hz; exact hK))); (conv => whnf)) | ((with_reducible apply gd_and); (focus ((conv => whnf) <;> first | rfl | (intro K hK; (conv => whnf); first | exact hK | (intro z hz; rw [wrapI (by omega)] at hz; subst hz; exact hK)))); (conv => whnf)) | ((with_reducible apply z_wrap); (focus omega); (conv => whnf)) | ((with_reducible first | apply mt_dec | apply mt_eq | apply mt_ne | apply mt_not | apply mt_any) <;> (intro _; conv => whnf)))
                refine (num25_ok 0).mono ?_
                rintro _ _ ⟨rfl, rfl⟩
                conv => whnf
                repeat' (first | ((with_reducible apply rd_intro); (focus (intro K hK; (conv => whnf); first | exact hK | (intro z hz; rw [wrapI (by omega)] at hz; subst hz; exact hK))); (conv => whnf)) | ((with_reducible apply gd_and); (focus ((conv => whnf) <;> first | rfl | (intro K hK; (conv => whnf); first | exact hK | (intro z hz; rw [wrapI (by omega)] at hz; subst hz; exact hK)))); (conv => whnf)) | ((with_reducible apply z_wrap); (focus omega); (conv => whnf)) | ((with_reducible first | apply mt_dec | apply mt_eq | apply mt_ne | apply mt_not | apply mt_any) <;> (intro _; conv => whnf)))
                · refine ⟨by decide, by omega, by omega, ?_⟩
                  have htk : List.drop (Int.toNat 0) (List.take (((nums zs).length : Int)).toNat (nums ys)) = nums zs := by
                    rw [show (Int.toNat 0) = 0 from rfl, List.drop_zero, show (((nums zs).length : Int)).toNat = (nums zs).length from rfl, hzl, show List.take zs.length (nums ys) = nums (ys.take zs.length) by simp [nums], ← List.prefix_iff_eq_take.1 hpre]
                  have hcall : ACalls Tryz.prog 18 [.d (.sl 1 (nums zs)), .d (.sl 1 (List.drop (Int.toNat 0) (List.take (((nums zs).length : Int)).toNat (nums ys))))] [] (fun av L => av = .d (.bool true) ∧ L = []) := by
                    rw [htk]
                    have h := eqNumbers_ok zs zs hfz
                    rw [decide_eq_true rfl] at h
                    exact h
                  conv => whnf
                  repeat' (first | ((with_reducible apply rd_intro); (focus (intro K hK; (conv => whnf); first | exact hK | (intro z hz; rw [wrapI (by omega)] at hz; subst hz; exact hK))); (conv => whnf)) | ((with_reducible apply gd_and); (focus ((conv => whnf) <;> first | rfl | (intro K hK; (conv => whnf); first | exact hK | (intro z hz; rw [wrapI (by omega)] at hz; subst hz; exact hK)))); (conv => whnf)) | ((with_reducible apply z_wrap); (focus omega); (conv => whnf)) | ((with_reducible first | apply mt_dec | apply mt_eq | apply mt_ne | apply mt_not | apply mt_any) <;> (intro _; conv => whnf)))
                  refine hcall.mono ?_
                  rintro _ _ ⟨rfl, rfl⟩
                  conv => whnf
                  repeat' (first | ((with_reducible apply rd_intro); (focus (intro K hK; (conv => whnf); first | exact hK | (intro z hz; rw [wrapI (by omega)] at hz; subst hz; exact hK))); (conv => whnf)) | ((with_reducible apply gd_and); (focus ((conv => whnf) <;> first | rfl | (intro K hK; (conv => whnf); first | exact hK | (intro z hz; rw [wrapI (by omega)] at hz; subst hz; exact hK)))); (conv => whnf)) | ((with_reducible apply z_wrap); (focus omega); (conv => whnf)) | ((with_reducible first | apply mt_dec | apply mt_eq | apply mt_ne | apply mt_not | apply mt_any) <;> (intro _; conv => whnf)))
                  refine wakes25_ok.mono ?_
                  rintro _ _ ⟨rfl, rfl⟩
                  conv => whnf
                  repeat' (first | ((with_reducible apply rd_intro); (focus (intro K hK; (conv => whnf); first | exact hK | (intro z hz; rw [wrapI (by omega)] at hz; subst hz; exact hK))); (conv => whnf)) | ((with_reducible apply gd_and); (focus ((conv => whnf) <;> first | rfl | (intro K hK; (conv => whnf); first | exact hK | (intro z hz; rw [wrapI (by omega)] at hz; subst hz; exact hK)))); (conv => whnf)) | ((with_reducible apply z_wrap); (focus omega); (conv => whnf)) | ((with_reducible first | apply mt_dec | apply mt_eq | apply mt_ne | apply mt_not | apply mt_any) <;> (intro _; conv => whnf)))
                  exact ⟨rfl, rfl⟩
                · rename_i h
                  exact absurd (show ((nums zs).length : Int) ≤ ((nums ys).length : Int) by omega) h
end Go.Proofs.YtoeppembokpjkaaGreat

/- AuditShuffles: for every argument the law returns true, and its argument reads behind the call as it read before. No condition of ours. -/
namespace Go.Proofs.YtoeppembokpjkaaGreat
open Go.Ab Go.RowKit Go.ChangeShapes Go.WideShapes Go.ChangeAt
theorem own : ownKnob Tryz.prog.godebug = none := by kernel_rfl
theorem laidOut : laidOutB Tryz.prog = true := by kernel_rfl
set_option maxRecDepth 100000 in
theorem auditShuffles_lifted (os : Os) (started : os.Started) (H : Type) (enc : TypeId × Value → H) :
    ReturnsInHanded {} Tryz.checked os 6 .any (Rows.auditShufflesSpec.pre6 enc Tryz.prog Tryz.f6 Rows.auditShufflesRow.domain false) (Rows.auditShufflesSpec.post enc Tryz.prog Tryz.f6 false true false false) := by
  refine returnsInHanded_of_change_sized (C := Tryz.checked) own started (by kernel_rfl) Tryz.func6
    (ChangeSpec.witness6 (enc := enc) (C := Tryz.checked) false ⟨#[], #[.agg #[.int .i64 0, .slice none 0 0, .slice none 0 0]], []⟩ 8 (by kernel_rfl) (by kernel_rfl) (by kernel_rfl) (by kernel_rfl)) ?_
  intro W base args ds gs before hval hW _ hsz _
  exact law_contract ttOk (f := Tryz.f6) (tb := 4) (t := 49) rfl rfl Tryz.underlying4 rfl (fun _ _ => rfl) laidOut (by kernel_rfl) (of_decide_eq_true (by kernel_rfl)) 6 (by kernel_rfl) argS
    (fun W base v ds h1 h2 => argS_ok Tryz.underlying49 h1 h2)
    (fun ds hd => by
      obtain ⟨p, hp, hok⟩ := askA_of hd
      rw [hp]
      exact auditShuffles_ok p hok) hval hW hsz
theorem auditShuffles_holds : Rows.AuditShufflesSaid :=
  OpenClaim.holds_of_wide 6 Tryz.f6 rfl rfl rfl rfl rfl rfl rfl ⟨rfl, rfl, rfl, rfl, rfl⟩ rfl rfl rfl rfl rfl (by kernel_rfl) Tryz.func6 (by kernel_rfl)
    (of_decide_eq_true (by kernel_rfl)) (by unfold Func.isWrapper; first | (rw [if_pos (by decide +kernel)]; kernel_rfl) | (rw [if_neg (by decide +kernel)]; exact ⟨rfl, rfl⟩))
    (fun os started H enc _ => auditShuffles_lifted os started H enc)
#print axioms auditShuffles_holds
end Go.Proofs.YtoeppembokpjkaaGreat
