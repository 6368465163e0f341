/- PrimaryKeeps: for every argument the law returns true, and its argument reads as a script that the model of the primary takes step by step. -/
import Derived.Test.YtdlfmgcmfoehdaaGreatPrimaryKeepsCodM
import Derived.Test.YtdlfmgcmfoehdaaGreatRows
set_option linter.unusedVariables false
set_option linter.unusedSimpArgs false
namespace Go.Proofs.YtdlfmgcmfoehdaaGreat
open Go.Ab Go.RowKit Go.MapKept
attribute [local irreducible] ACalls AW ADraw Into fltB fnear
set_option maxRecDepth 100000
structure Script.okk (s : Script) : Prop where
  oks : s.oks
  ints : ∀ a ∈ s.acts, i64 a.d ∧ i64 a.doo
  gh : s.p.gh
  hg : ∀ a ∈ s.acts, a.m.head.sigs = []
def kSt (s : Script) (p : Prim) (j : Nat) : AF × List AB := ([(1, .ptr 0 0), (3, .ptr 1 0), (4, .d (.int .i64 j))], [.cells (s.cs.map AV.d), .cells (p.cs.map AV.d)])
structure kI (s : Script) (p : Prim) (j : Nat) : Prop where
  le : j ≤ s.acts.length
  le8 : j ≤ 8
  may : May p
  gh : p.gh
  room : p.dag.certs.length + p.late.length ≤ 400 + j
  vlen : p.votes.length ≤ 400 + j
theorem ki_next {s : Script} {p : Prim} {j : Nat} (h : kI s p j) (hj : j < s.acts.length) (h8 : j < 8) : kI s p (j + 1) := ⟨by omega, by omega, h.may, h.gh, by have := h.room; omega, by have := h.vlen; omega⟩
theorem ki_goes {s : Script} {p x : Prim} {j : Nat} (h : kI s p j) (hj : j < s.acts.length) (h8 : j < 8) (hg : Goes p x) : kI s x (j + 1) := ⟨by omega, by omega, hg.may, hg.gh h.gh, by have := h.room; have := hg.room; omega, by have := h.vlen; have := hg.vlen; omega⟩
def vSt (s : Script) (a : Act) (p x : Prim) (j k : Nat) : AF × List AB := ([(1, .ptr 0 0), (3, .ptr 1 0), (4, .d (.int .i64 j)), (5, .ptr 2 0), (6, .ptr 3 0), (10, .d (.int .i64 k))], [.cells (s.cs.map AV.d), .cells (p.cs.map AV.d), .cells (a.cs.map AV.d), .cells (x.cs.map AV.d)])
theorem rMay20_true (p : Prim) (hok : p.ok) (h : May p) : ACalls Tryz.prog 16 [p.av] [] (fun av L => av = .d (.bool true) ∧ L = []) := by
  refine (rMay20_ok p hok).mono ?_
  rintro _ _ ⟨rfl, rfl⟩
  exact ⟨by simp [h], rfl⟩
theorem eqVote_ok : eqOkB Tryz.prog 65 [true, true, true] = true := by kernel_rfl
def ySt (s : Script) (a : Act) (p x : Prim) (j k : Nat) (b : Bool) (i : Nat) : AF × List AB := ([(1, .ptr 0 0), (3, .ptr 1 0), (4, .d (.int .i64 j)), (5, .ptr 2 0), (6, .ptr 3 0), (10, .d (.int .i64 k)), (11, .d (.bool b)), (12, .d (.int .i64 i))], [.cells (s.cs.map AV.d), .cells (p.cs.map AV.d), .cells (a.cs.map AV.d), .cells (x.cs.map AV.d)])
def cSt (s : Script) (a : Act) (p x : Prim) (j k : Nat) : AF × List AB := ([(1, .ptr 0 0), (3, .ptr 1 0), (4, .d (.int .i64 j)), (5, .ptr 2 0), (6, .ptr 3 0), (13, .d (.int .i64 k))], [.cells (s.cs.map AV.d), .cells (p.cs.map AV.d), .cells (a.cs.map AV.d), .cells (x.cs.map AV.d)])
theorem getI_mem {l : List Cert} {c : Cert} (h : c ∈ l) : ¬ getI l c.digest < 0 := by
  unfold getI
  cases hg : getC l c.digest with
  | some i => show ¬ (i : Int) < 0; omega
  | none =>
    rw [getC, List.findIdx?_eq_none_iff] at hg
    have := hg c h
    simp at this
set_option maxHeartbeats 16000000 in
open Classical in
theorem primaryKeeps_ok (s : Script) (hs : s.okk) : ACalls Tryz.prog 4 [s.av] [] (fun av L => av = .d (.bool true) ∧ L = []) := by
  have hh := heavyS_full s hs.oks
  have hok := hs.oks.ok
  have hal := actsD_length s.acts
  have hpok : s.p.ok := ⟨hok.mine, by rw [hs.gh.2]; exact Nat.zero_le _, hok.acks, hok.votes, hok.dag, hok.late⟩
  have hm := rMay20_ok s.p hpok
  refine acalls_go ttOk zOk foOk Tryz.func4 rfl Tryz.ntmps4 rfl false rfl ?_
  conv => whnf
  refine rdw ?_; repeat' ((with_reducible apply tw) <;> intro _)
  refine hh.mono ?_
  rintro _ _ ⟨⟨b, rfl, hb⟩, rfl⟩
  cases b with
  | true =>
    conv => whnf
    refine rdw ?_; repeat' ((with_reducible apply tw) <;> intro _)
    exact ⟨rfl, rfl⟩
  | false =>
    have hlt := hb rfl
    conv => whnf
    refine rdw ?_; repeat' ((with_reducible apply tw) <;> intro _)
    refine hm.mono ?_
    rintro _ _ ⟨rfl, rfl⟩
    by_cases hmay : May s.p
    · rw [decide_eq_true hmay]
      have hcp := copyPrim_ok s.p (hmay.tiny (by rw [hs.gh.2]; exact Nat.zero_le _))
      conv => whnf
      refine rdw ?_; repeat' ((with_reducible apply tw) <;> intro _)
      (refine (hcp).mono ?_; rintro _ _ ⟨rfl, rfl⟩; (conv => whnf))
      refine rdw ?_; repeat' ((with_reducible apply tw) <;> intro _)
      refine loop_go2 ttOk zOk foOk (σ := Prim) (ρ := Nat) (kSt s) (kI s) (fun _ j => s.acts.length - j) [1, 3, 4] ?_ ?_
      · conv => whnf
        exact ⟨s.p, 0, rfl, rfl, ⟨Nat.zero_le _, Nat.zero_le _, hmay, hs.gh, by have := hlt.certs.1; have := hlt.late.1; omega, by have := hlt.votes; omega⟩⟩
      · rintro p j hI
        have hj1 := hI.le
        have hj8 := hI.le8
        conv => whnf
        refine rdw ?_; repeat' ((with_reducible apply tw) <;> intro _)
        · rename_i k1 k2
          replace k1 : (j : Int) < ((actsD s.acts).length : Int) := k1
          replace k2 : (j : Int) < 8 := k2
          refine Exists.elim (⟨_, List.getElem?_eq_getElem (by omega)⟩ : ∃ c, s.acts[j]? = some c) fun a ha => ?_
          have ham := List.mem_of_getElem? ha
          have hai := hs.ints a ham
          have hali := hlt.acts.2 a ham
          have hpo := may_ok hI.may hI.gh
          have hroom := hI.room
          have hvlen := hI.vlen
          have hnxt := ki_next hI (by omega) (by omega)
          have hgon := fun x (hg : Goes p x) => ki_goes hI (by omega) (by omega) hg
          refine ⟨by omega, a.cs, actsD_at ha, ?_⟩
          conv => whnf
          refine rdw ?_; repeat' ((with_reducible apply tw) <;> intro _)
          (refine (within_ok a.doo 4 (by decide) (by decide) hai.2).mono ?_; rintro _ _ ⟨rfl, rfl⟩; (conv => whnf))
          refine rdw ?_; repeat' ((with_reducible apply tw) <;> intro _)
          · have hmk := make_full p hpo (by omega) a.l (few_le 200 hali.l)
            refine hmk.mono ?_
            rintro _ _ ⟨⟨⟨-, hdg⟩, hrd, rfl⟩ | ⟨-, hrd, rfl⟩ | ⟨hno, rfl⟩, rfl⟩
            · conv => whnf
              refine rdw ?_; repeat' ((with_reducible apply tw) <;> intro _)
              refine (num20_ok 0).mono ?_
              rintro _ _ ⟨rfl, rfl⟩
              conv => whnf
              refine rdw ?_; repeat' ((with_reducible apply tw) <;> intro _)
              have hsl1 : (headC p a.l).bats.length ≤ 8 := by show (sortI (batsF a.l)).length ≤ 8; rw [sortI, List.length_mergeSort]; exact batsF_len a.l
              have hsl2 : (headC p a.l).pars.length ≤ p.dag.certs.length := by show (sortI (parsF p)).length ≤ _; rw [sortI, List.length_mergeSort, parsF, List.length_map]; exact List.length_filter_le ..
              have hpr := proposed_full p hpo (by omega) (headC p a.l) ⟨few_le 8 hsl1, few_le 1000 (by omega), few_nil⟩ ⟨by unfold tiny; omega, by unfold tiny; omega, tiny_nil⟩ a.d
              refine hpr.mono ?_
              rintro _ _ ⟨⟨q1, q2, q3, q4, rfl⟩ | ⟨q1, q2, q3, rfl⟩ | ⟨q1, q2, rfl⟩ | ⟨q1, rfl⟩, rfl⟩
              · have hg := goes_say hI.may (by omega) q1 q2
                obtain ⟨x, hx⟩ : ∃ x, sayP p (headC p a.l) a.d = x := ⟨_, rfl⟩
                rw [hx] at hg ⊢
                have hvl := votesD_length p.votes
                have hvlx := votesD_length x.votes
                have hgv := hg.vlen
                have hgr := hg.room
                have hcl := certsD_length p.dag.certs
                have hxm := rMay20_true x (may_ok hg.may (hg.gh hI.gh)) hg.may
                conv => whnf
                refine rdw ?_; repeat' ((with_reducible apply tw) <;> intro _)
                refine (num20_ok 0).mono ?_
                rintro _ _ ⟨rfl, rfl⟩
                conv => whnf
                refine rdw ?_; repeat' ((with_reducible apply tw) <;> intro _)
                refine hxm.mono ?_
                rintro _ _ ⟨rfl, rfl⟩
                conv => whnf
                refine rdw ?_; repeat' ((with_reducible apply tw) <;> intro _)
                all_goals first
                  | (exfalso; have := hg.round; have := hg.said; have := hg.id; have := hg.nodes; omega)
                  | skip
                refine loop_go ttOk zOk foOk (σ := Nat) (vSt s a p x j) (fun k => k ≤ p.votes.length) (fun k => p.votes.length - k) [1, 3, 4, 5, 6, 10] ?_ ?_
                · conv => whnf
                  exact ⟨0, rfl, rfl, Nat.zero_le _⟩
                · intro k hk
                  conv => whnf
                  refine rdw ?_; repeat' ((with_reducible apply tw) <;> intro _)
                  · rename_i hkl
                    replace hkl : (k : Int) < ((votesD p.votes).length : Int) := hkl
                    refine Exists.elim (⟨_, List.getElem?_eq_getElem (by omega)⟩ : ∃ v, p.votes[k]? = some v) fun v hv => ?_
                    have hvx := hg.votes v (List.mem_of_getElem? hv)
                    refine loop_go2 ttOk zOk foOk (σ := Bool) (ρ := Nat) (ySt s a p x j k) (fun b i => i ≤ x.votes.length ∧ (v ∈ x.votes.take i → b = true)) (fun _ i => x.votes.length - i) [1, 3, 4, 5, 6, 10, 11, 12] ?_ ?_
                    · conv => whnf
                      exact ⟨false, 0, rfl, rfl, Nat.zero_le _, fun h => by simp at h⟩
                    · rintro b i ⟨hi, hb⟩
                      conv => whnf
                      refine rdw ?_; repeat' ((with_reducible apply tw) <;> intro _)
                      · rename_i hil
                        replace hil : (i : Int) < ((votesD x.votes).length : Int) := hil
                        refine Exists.elim (⟨_, List.getElem?_eq_getElem (by omega)⟩ : ∃ v, x.votes[i]? = some v) fun y hy => ?_
                        have hsn : ∀ b', (b = true → b' = true) → (y = v → b' = true) → v ∈ x.votes.take (i + 1) → b' = true := fun b' h1 h2 h3 => by
                          rw [List.take_add_one, hy] at h3
                          rcases List.mem_append.1 h3 with h3 | h3
                          · exact h1 (hb h3)
                          · simp at h3; exact h2 h3.symm
                        ((with_reducible refine draw_pl ttOk zOk foOk mixedOk pl4x28 ?_ ?_); (focus kernel_rfl); (conv => whnf))
                        · repeat' (first | (first | ((with_reducible first | apply rd_intro | apply gd_and); (focus ((conv => whnf) <;> first | rfl | (intro K hK; (conv => whnf); first | exact hK | exact z_wrap (by omega) hK))); conv => whnf) | ((with_reducible apply z_wrap); (focus omega); conv => whnf) | ((with_reducible first | apply mt_dec | apply mt_eq | apply mt_ne | apply mt_not | apply mt_any) <;> (intro _; conv => whnf))) | ((with_reducible apply rd_intro); (focus (intro K hK; (conv => whnf); exact ix_map hy (by first | rfl | omega) hK)); (conv => whnf)) | ((with_reducible apply rd_intro); (focus (intro K hK; (conv => whnf); exact ix_map hv (by first | rfl | omega) hK)); (conv => whnf)))
                          all_goals first
                            | exact ⟨true, i + 1, rfl, rfl, ⟨by omega, fun _ => rfl⟩, by omega⟩
                            | (((with_reducible apply rd_intro); (focus (intro K hK; (conv => whnf); exact ⟨eqVote_ok, hK⟩)); (conv => whnf))
                               refine rdw ?_; repeat' ((with_reducible apply tw) <;> intro _)
                               exact ⟨_, i + 1, rfl, rfl, ⟨by omega, hsn _ (fun e => absurd (e.symm.trans ‹b = false›) (by decide)) (fun e => by subst e; simp)⟩, by omega⟩)
                      · rename_i hil hbf
                        exfalso
                        replace hil : ¬ (i : Int) < ((votesD x.votes).length : Int) := hil
                        have := hb (by rw [List.take_of_length_le (by omega)]; exact hvx)
                        rw [this] at hbf
                        cases hbf
                      · rename_i hil hbt
                        exact ⟨k + 1, rfl, rfl, by omega, by omega⟩
                  · rename_i hkl
                    refine loop_go ttOk zOk foOk (σ := Nat) (cSt s a p x j) (fun k => k ≤ p.dag.certs.length) (fun k => p.dag.certs.length - k) [1, 3, 4, 5, 6, 13] ?_ ?_
                    · conv => whnf
                      exact ⟨0, rfl, rfl, Nat.zero_le _⟩
                    · intro k hk
                      conv => whnf
                      refine rdw ?_; repeat' ((with_reducible apply tw) <;> intro _)
                      · rename_i hkl
                        replace hkl : (k : Int) < ((certsD p.dag.certs).length : Int) := hkl
                        refine Exists.elim (⟨_, List.getElem?_eq_getElem (by omega)⟩ : ∃ c, p.dag.certs[k]? = some c) fun c hc => ?_
                        have hcx := getI_mem (hg.certs c (List.mem_of_getElem? hc))
                        ((with_reducible refine draw_pl ttOk zOk foOk mixedOk pl4x34 ?_ ?_); (focus kernel_rfl); (conv => whnf))
                        refine rdw ?_; repeat' ((with_reducible apply tw) <;> intro _)
                        ((with_reducible apply rd_intro); (focus (intro K hK; (conv => whnf); exact ix_map hc (by first | rfl | omega) hK)); (conv => whnf))
                        refine rdw ?_; repeat' ((with_reducible apply tw) <;> intro _)
                        refine (rFind_ok x.dag (by unfold few; omega) c.digest).mono ?_
                        rintro _ _ ⟨rfl, rfl⟩
                        conv => whnf
                        refine rdw ?_; repeat' ((with_reducible apply tw) <;> intro _)
                        · rename_i hneg
                          exact absurd hneg hcx
                        · exact ⟨k + 1, rfl, rfl, by omega, by omega⟩
                      · rename_i hkl
                        refine (copyPrim_ok x (hg.may.tiny (by rw [(hg.gh hI.gh).2]; exact Nat.zero_le _))).mono ?_
                        rintro _ _ ⟨rfl, rfl⟩
                        conv => whnf
                        refine rdw ?_; repeat' ((with_reducible apply tw) <;> intro _)
                        exact ⟨x, j + 1, rfl, rfl, hgon x hg, by omega⟩
              · rcases q3 with q3 | q3
                all_goals
                  rw [q3]
                  conv => whnf
                  refine rdw ?_; repeat' ((with_reducible apply tw) <;> intro _)
                  refine (num20_ok _).mono ?_
                  rintro _ _ ⟨rfl, rfl⟩
                  conv => whnf
                  refine rdw ?_; repeat' ((with_reducible apply tw) <;> intro _)
                  exact ⟨p, j + 1, rfl, rfl, hnxt, by omega⟩
              · conv => whnf
                refine rdw ?_; repeat' ((with_reducible apply tw) <;> intro _)
                refine (num20_ok _).mono ?_
                rintro _ _ ⟨rfl, rfl⟩
                conv => whnf
                refine rdw ?_; repeat' ((with_reducible apply tw) <;> intro _)
                exact ⟨p, j + 1, rfl, rfl, hnxt, by omega⟩
              · conv => whnf
                refine rdw ?_; repeat' ((with_reducible apply tw) <;> intro _)
                refine (num20_ok _).mono ?_
                rintro _ _ ⟨rfl, rfl⟩
                conv => whnf
                refine rdw ?_; repeat' ((with_reducible apply tw) <;> intro _)
                exact ⟨p, j + 1, rfl, rfl, hnxt, by omega⟩
            · conv => whnf
              refine rdw ?_; repeat' ((with_reducible apply tw) <;> intro _)
              refine (num20_ok 10).mono ?_
              rintro _ _ ⟨rfl, rfl⟩
              conv => whnf
              refine rdw ?_; repeat' ((with_reducible apply tw) <;> intro _)
              exact ⟨p, j + 1, rfl, rfl, hnxt, by omega⟩
            · conv => whnf
              refine rdw ?_; repeat' ((with_reducible apply tw) <;> intro _)
              refine (num20_ok 1).mono ?_
              rintro _ _ ⟨rfl, rfl⟩
              conv => whnf
              refine rdw ?_; repeat' ((with_reducible apply tw) <;> intro _)
              exact ⟨p, j + 1, rfl, rfl, hnxt, by omega⟩
          · have htk := tick_full p hpo
            refine htk.mono ?_
            rintro _ _ ⟨⟨-, rfl⟩ | ⟨hno, rfl⟩, rfl⟩
            · have hg := goes_beat hI.may
              obtain ⟨x, hx⟩ : ∃ x, beatP p = x := ⟨_, rfl⟩
              rw [hx] at hg ⊢
              have hvl := votesD_length p.votes
              have hvlx := votesD_length x.votes
              have hgv := hg.vlen
              have hgr := hg.room
              have hcl := certsD_length p.dag.certs
              have hxm := rMay20_true x (may_ok hg.may (hg.gh hI.gh)) hg.may
              conv => whnf
              refine rdw ?_; repeat' ((with_reducible apply tw) <;> intro _)
              refine (num20_ok 0).mono ?_
              rintro _ _ ⟨rfl, rfl⟩
              conv => whnf
              refine rdw ?_; repeat' ((with_reducible apply tw) <;> intro _)
              refine hxm.mono ?_
              rintro _ _ ⟨rfl, rfl⟩
              conv => whnf
              refine rdw ?_; repeat' ((with_reducible apply tw) <;> intro _)
              all_goals first
                | (exfalso; have := hg.round; have := hg.said; have := hg.id; have := hg.nodes; omega)
                | skip
              refine loop_go ttOk zOk foOk (σ := Nat) (vSt s a p x j) (fun k => k ≤ p.votes.length) (fun k => p.votes.length - k) [1, 3, 4, 5, 6, 10] ?_ ?_
              · conv => whnf
                exact ⟨0, rfl, rfl, Nat.zero_le _⟩
              · intro k hk
                conv => whnf
                refine rdw ?_; repeat' ((with_reducible apply tw) <;> intro _)
                · rename_i hkl
                  replace hkl : (k : Int) < ((votesD p.votes).length : Int) := hkl
                  refine Exists.elim (⟨_, List.getElem?_eq_getElem (by omega)⟩ : ∃ v, p.votes[k]? = some v) fun v hv => ?_
                  have hvx := hg.votes v (List.mem_of_getElem? hv)
                  refine loop_go2 ttOk zOk foOk (σ := Bool) (ρ := Nat) (ySt s a p x j k) (fun b i => i ≤ x.votes.length ∧ (v ∈ x.votes.take i → b = true)) (fun _ i => x.votes.length - i) [1, 3, 4, 5, 6, 10, 11, 12] ?_ ?_
                  · conv => whnf
                    exact ⟨false, 0, rfl, rfl, Nat.zero_le _, fun h => by simp at h⟩
                  · rintro b i ⟨hi, hb⟩
                    conv => whnf
                    refine rdw ?_; repeat' ((with_reducible apply tw) <;> intro _)
                    · rename_i hil
                      replace hil : (i : Int) < ((votesD x.votes).length : Int) := hil
                      refine Exists.elim (⟨_, List.getElem?_eq_getElem (by omega)⟩ : ∃ v, x.votes[i]? = some v) fun y hy => ?_
                      have hsn : ∀ b', (b = true → b' = true) → (y = v → b' = true) → v ∈ x.votes.take (i + 1) → b' = true := fun b' h1 h2 h3 => by
                        rw [List.take_add_one, hy] at h3
                        rcases List.mem_append.1 h3 with h3 | h3
                        · exact h1 (hb h3)
                        · simp at h3; exact h2 h3.symm
                      ((with_reducible refine draw_pl ttOk zOk foOk mixedOk pl4x28 ?_ ?_); (focus kernel_rfl); (conv => whnf))
                      · repeat' (first | (first | ((with_reducible first | apply rd_intro | apply gd_and); (focus ((conv => whnf) <;> first | rfl | (intro K hK; (conv => whnf); first | exact hK | exact z_wrap (by omega) hK))); conv => whnf) | ((with_reducible apply z_wrap); (focus omega); conv => whnf) | ((with_reducible first | apply mt_dec | apply mt_eq | apply mt_ne | apply mt_not | apply mt_any) <;> (intro _; conv => whnf))) | ((with_reducible apply rd_intro); (focus (intro K hK; (conv => whnf); exact ix_map hy (by first | rfl | omega) hK)); (conv => whnf)) | ((with_reducible apply rd_intro); (focus (intro K hK; (conv => whnf); exact ix_map hv (by first | rfl | omega) hK)); (conv => whnf)))
                        all_goals first
                          | exact ⟨true, i + 1, rfl, rfl, ⟨by omega, fun _ => rfl⟩, by omega⟩
                          | (((with_reducible apply rd_intro); (focus (intro K hK; (conv => whnf); exact ⟨eqVote_ok, hK⟩)); (conv => whnf))
                             refine rdw ?_; repeat' ((with_reducible apply tw) <;> intro _)
                             exact ⟨_, i + 1, rfl, rfl, ⟨by omega, hsn _ (fun e => absurd (e.symm.trans ‹b = false›) (by decide)) (fun e => by subst e; simp)⟩, by omega⟩)
                    · rename_i hil hbf
                      exfalso
                      replace hil : ¬ (i : Int) < ((votesD x.votes).length : Int) := hil
                      have := hb (by rw [List.take_of_length_le (by omega)]; exact hvx)
                      rw [this] at hbf
                      cases hbf
                    · rename_i hil hbt
                      exact ⟨k + 1, rfl, rfl, by omega, by omega⟩
                · rename_i hkl
                  refine loop_go ttOk zOk foOk (σ := Nat) (cSt s a p x j) (fun k => k ≤ p.dag.certs.length) (fun k => p.dag.certs.length - k) [1, 3, 4, 5, 6, 13] ?_ ?_
                  · conv => whnf
                    exact ⟨0, rfl, rfl, Nat.zero_le _⟩
                  · intro k hk
                    conv => whnf
                    refine rdw ?_; repeat' ((with_reducible apply tw) <;> intro _)
                    · rename_i hkl
                      replace hkl : (k : Int) < ((certsD p.dag.certs).length : Int) := hkl
                      refine Exists.elim (⟨_, List.getElem?_eq_getElem (by omega)⟩ : ∃ c, p.dag.certs[k]? = some c) fun c hc => ?_
                      have hcx := getI_mem (hg.certs c (List.mem_of_getElem? hc))
                      ((with_reducible refine draw_pl ttOk zOk foOk mixedOk pl4x34 ?_ ?_); (focus kernel_rfl); (conv => whnf))
                      refine rdw ?_; repeat' ((with_reducible apply tw) <;> intro _)
                      ((with_reducible apply rd_intro); (focus (intro K hK; (conv => whnf); exact ix_map hc (by first | rfl | omega) hK)); (conv => whnf))
                      refine rdw ?_; repeat' ((with_reducible apply tw) <;> intro _)
                      refine (rFind_ok x.dag (by unfold few; omega) c.digest).mono ?_
                      rintro _ _ ⟨rfl, rfl⟩
                      conv => whnf
                      refine rdw ?_; repeat' ((with_reducible apply tw) <;> intro _)
                      · rename_i hneg
                        exact absurd hneg hcx
                      · exact ⟨k + 1, rfl, rfl, by omega, by omega⟩
                    · rename_i hkl
                      refine (copyPrim_ok x (hg.may.tiny (by rw [(hg.gh hI.gh).2]; exact Nat.zero_le _))).mono ?_
                      rintro _ _ ⟨rfl, rfl⟩
                      conv => whnf
                      refine rdw ?_; repeat' ((with_reducible apply tw) <;> intro _)
                      exact ⟨x, j + 1, rfl, rfl, hgon x hg, by omega⟩
            · exact absurd hI.may hno
          · ((with_reducible refine draw_pl ttOk zOk foOk mixedOk pl4x11 ?_ ?_); (focus kernel_rfl); (conv => whnf))
            refine rdw ?_; repeat' ((with_reducible apply tw) <;> intro _)
            refine (fit_ok p hpo (by omega) a (light_small hali.m (hs.hg a ham)) hai.1).mono ?_
            rintro _ _ ⟨⟨m, rfl, hms⟩, rfl⟩
            have htk := take_full p hpo (by omega) m hms.fine a.l (few_le 200 hali.l)
            conv => whnf
            refine rdw ?_; repeat' ((with_reducible apply tw) <;> intro _)
            refine htk.mono ?_
            rintro _ _ ⟨⟨q1, q2, rfl⟩ | ⟨q1, q2, rfl⟩ | ⟨q1, rfl⟩, rfl⟩
            · have hg := goes_got hI.may (by omega) q1.msg a.l
              obtain ⟨x, hx⟩ : ∃ x, gotP p m a.l = x := ⟨_, rfl⟩
              rw [hx] at hg ⊢
              have hvl := votesD_length p.votes
              have hvlx := votesD_length x.votes
              have hgv := hg.vlen
              have hgr := hg.room
              have hcl := certsD_length p.dag.certs
              have hxm := rMay20_true x (may_ok hg.may (hg.gh hI.gh)) hg.may
              conv => whnf
              refine rdw ?_; repeat' ((with_reducible apply tw) <;> intro _)
              refine (num20_ok 0).mono ?_
              rintro _ _ ⟨rfl, rfl⟩
              conv => whnf
              refine rdw ?_; repeat' ((with_reducible apply tw) <;> intro _)
              refine hxm.mono ?_
              rintro _ _ ⟨rfl, rfl⟩
              conv => whnf
              refine rdw ?_; repeat' ((with_reducible apply tw) <;> intro _)
              all_goals first
                | (exfalso; have := hg.round; have := hg.said; have := hg.id; have := hg.nodes; omega)
                | skip
              refine loop_go ttOk zOk foOk (σ := Nat) (vSt s a p x j) (fun k => k ≤ p.votes.length) (fun k => p.votes.length - k) [1, 3, 4, 5, 6, 10] ?_ ?_
              · conv => whnf
                exact ⟨0, rfl, rfl, Nat.zero_le _⟩
              · intro k hk
                conv => whnf
                refine rdw ?_; repeat' ((with_reducible apply tw) <;> intro _)
                · rename_i hkl
                  replace hkl : (k : Int) < ((votesD p.votes).length : Int) := hkl
                  refine Exists.elim (⟨_, List.getElem?_eq_getElem (by omega)⟩ : ∃ v, p.votes[k]? = some v) fun v hv => ?_
                  have hvx := hg.votes v (List.mem_of_getElem? hv)
                  refine loop_go2 ttOk zOk foOk (σ := Bool) (ρ := Nat) (ySt s a p x j k) (fun b i => i ≤ x.votes.length ∧ (v ∈ x.votes.take i → b = true)) (fun _ i => x.votes.length - i) [1, 3, 4, 5, 6, 10, 11, 12] ?_ ?_
                  · conv => whnf
                    exact ⟨false, 0, rfl, rfl, Nat.zero_le _, fun h => by simp at h⟩
                  · rintro b i ⟨hi, hb⟩
                    conv => whnf
                    refine rdw ?_; repeat' ((with_reducible apply tw) <;> intro _)
                    · rename_i hil
                      replace hil : (i : Int) < ((votesD x.votes).length : Int) := hil
                      refine Exists.elim (⟨_, List.getElem?_eq_getElem (by omega)⟩ : ∃ v, x.votes[i]? = some v) fun y hy => ?_
                      have hsn : ∀ b', (b = true → b' = true) → (y = v → b' = true) → v ∈ x.votes.take (i + 1) → b' = true := fun b' h1 h2 h3 => by
                        rw [List.take_add_one, hy] at h3
                        rcases List.mem_append.1 h3 with h3 | h3
                        · exact h1 (hb h3)
                        · simp at h3; exact h2 h3.symm
                      ((with_reducible refine draw_pl ttOk zOk foOk mixedOk pl4x28 ?_ ?_); (focus kernel_rfl); (conv => whnf))
                      · repeat' (first | (first | ((with_reducible first | apply rd_intro | apply gd_and); (focus ((conv => whnf) <;> first | rfl | (intro K hK; (conv => whnf); first | exact hK | exact z_wrap (by omega) hK))); conv => whnf) | ((with_reducible apply z_wrap); (focus omega); conv => whnf) | ((with_reducible first | apply mt_dec | apply mt_eq | apply mt_ne | apply mt_not | apply mt_any) <;> (intro _; conv => whnf))) | ((with_reducible apply rd_intro); (focus (intro K hK; (conv => whnf); exact ix_map hy (by first | rfl | omega) hK)); (conv => whnf)) | ((with_reducible apply rd_intro); (focus (intro K hK; (conv => whnf); exact ix_map hv (by first | rfl | omega) hK)); (conv => whnf)))
                        all_goals first
                          | exact ⟨true, i + 1, rfl, rfl, ⟨by omega, fun _ => rfl⟩, by omega⟩
                          | (((with_reducible apply rd_intro); (focus (intro K hK; (conv => whnf); exact ⟨eqVote_ok, hK⟩)); (conv => whnf))
                             refine rdw ?_; repeat' ((with_reducible apply tw) <;> intro _)
                             exact ⟨_, i + 1, rfl, rfl, ⟨by omega, hsn _ (fun e => absurd (e.symm.trans ‹b = false›) (by decide)) (fun e => by subst e; simp)⟩, by omega⟩)
                    · rename_i hil hbf
                      exfalso
                      replace hil : ¬ (i : Int) < ((votesD x.votes).length : Int) := hil
                      have := hb (by rw [List.take_of_length_le (by omega)]; exact hvx)
                      rw [this] at hbf
                      cases hbf
                    · rename_i hil hbt
                      exact ⟨k + 1, rfl, rfl, by omega, by omega⟩
                · rename_i hkl
                  refine loop_go ttOk zOk foOk (σ := Nat) (cSt s a p x j) (fun k => k ≤ p.dag.certs.length) (fun k => p.dag.certs.length - k) [1, 3, 4, 5, 6, 13] ?_ ?_
                  · conv => whnf
                    exact ⟨0, rfl, rfl, Nat.zero_le _⟩
                  · intro k hk
                    conv => whnf
                    refine rdw ?_; repeat' ((with_reducible apply tw) <;> intro _)
                    · rename_i hkl
                      replace hkl : (k : Int) < ((certsD p.dag.certs).length : Int) := hkl
                      refine Exists.elim (⟨_, List.getElem?_eq_getElem (by omega)⟩ : ∃ c, p.dag.certs[k]? = some c) fun c hc => ?_
                      have hcx := getI_mem (hg.certs c (List.mem_of_getElem? hc))
                      ((with_reducible refine draw_pl ttOk zOk foOk mixedOk pl4x34 ?_ ?_); (focus kernel_rfl); (conv => whnf))
                      refine rdw ?_; repeat' ((with_reducible apply tw) <;> intro _)
                      ((with_reducible apply rd_intro); (focus (intro K hK; (conv => whnf); exact ix_map hc (by first | rfl | omega) hK)); (conv => whnf))
                      refine rdw ?_; repeat' ((with_reducible apply tw) <;> intro _)
                      refine (rFind_ok x.dag (by unfold few; omega) c.digest).mono ?_
                      rintro _ _ ⟨rfl, rfl⟩
                      conv => whnf
                      refine rdw ?_; repeat' ((with_reducible apply tw) <;> intro _)
                      · rename_i hneg
                        exact absurd hneg hcx
                      · exact ⟨k + 1, rfl, rfl, by omega, by omega⟩
                    · rename_i hkl
                      refine (copyPrim_ok x (hg.may.tiny (by rw [(hg.gh hI.gh).2]; exact Nat.zero_le _))).mono ?_
                      rintro _ _ ⟨rfl, rfl⟩
                      conv => whnf
                      refine rdw ?_; repeat' ((with_reducible apply tw) <;> intro _)
                      exact ⟨x, j + 1, rfl, rfl, hgon x hg, by omega⟩
            · conv => whnf
              refine rdw ?_; repeat' ((with_reducible apply tw) <;> intro _)
              refine (num20_ok _).mono ?_
              rintro _ _ ⟨rfl, rfl⟩
              conv => whnf
              refine rdw ?_; repeat' ((with_reducible apply tw) <;> intro _)
              exact ⟨p, j + 1, rfl, rfl, hnxt, by omega⟩
            · conv => whnf
              refine rdw ?_; repeat' ((with_reducible apply tw) <;> intro _)
              refine (num20_ok _).mono ?_
              rintro _ _ ⟨rfl, rfl⟩
              conv => whnf
              refine rdw ?_; repeat' ((with_reducible apply tw) <;> intro _)
              exact ⟨p, j + 1, rfl, rfl, hnxt, by omega⟩
        all_goals
          refine wakes_ok.mono ?_
          rintro _ _ ⟨rfl, rfl⟩
          conv => whnf
          refine rdw ?_; repeat' ((with_reducible apply tw) <;> intro _)
          exact ⟨rfl, rfl⟩
    · rw [decide_eq_false hmay]
      conv => whnf
      refine rdw ?_; repeat' ((with_reducible apply tw) <;> intro _)
      exact ⟨rfl, rfl⟩
end Go.Proofs.YtdlfmgcmfoehdaaGreat
namespace Go.Proofs.YtdlfmgcmfoehdaaGreat
open Go.Ab Go.RowKit
theorem askR_head (k : Nat) {ds : List DV} (h : DTy tt (k + 3) 24 ds) : ∃ c : Cert, ds = [.int .i64 c.author, .int .i64 c.round, .sl 1 (nums c.bats), .sl 1 (nums c.pars)] ∧ c.ok ∧ c.digest = 0 ∧ c.sigs = [] := by
  obtain ⟨c, h1, h2⟩ := askP_head k h
  exact ⟨⟨c.author, c.round, c.bats, c.pars, 0, []⟩, h1, ⟨h2.author, h2.round, h2.bats, h2.pars, ⟨by show (-9223372036854775808 : Int) ≤ 0; decide, by show (0 : Int) < 9223372036854775808; decide⟩, ⟨Nat.zero_le _, fun n h => (by cases h)⟩⟩, rfl, rfl⟩
theorem askR_txs {a : List DV} (h : DTy tt 3 45 a) : ∃ l : List Tx, a = [.sl 4 (txsD l)] ∧ few l ∧ ∀ t ∈ l, t.ok := by
  replace h : ∃ xs, a = [.sl 4 xs] ∧ xs.length * 48 ≤ 140737488355328 ∧ ∀ x ∈ xs, DTy tt 2 164 x := h
  obtain ⟨x3, rfl, w3, e3⟩ := h
  obtain ⟨l, rfl, hl⟩ := map_of (f := Tx.cs) (ok := Tx.ok) (xs := x3) fun x hx => by
    have h := e3 x hx
    replace h : DTyF (DTy tt 1) [3, 3, 9, 9] x := h
    obtain ⟨a1, b1, rfl, h1, a2, b2, rfl, h2, a3, b3, rfl, h3, a4, b4, rfl, h4, rfl⟩ := h
    replace h1 : ∃ x, a1 = [.int .i64 x] ∧ (Lit.int .i64 x).wf = true := h1
    replace h2 : ∃ x, a2 = [.int .i64 x] ∧ (Lit.int .i64 x).wf = true := h2
    replace h3 : ∃ s, a3 = [.str s] ∧ s.size ≤ 140737488355328 := h3
    replace h4 : ∃ s, a4 = [.str s] ∧ s.size ≤ 140737488355328 := h4
    obtain ⟨x1, rfl, w1⟩ := h1
    obtain ⟨x2, rfl, w2⟩ := h2
    obtain ⟨x3, rfl, w3⟩ := h3
    obtain ⟨x4, rfl, w4⟩ := h4
    exact ⟨⟨x1, x2, x3, x4⟩, rfl, ⟨w3, w4⟩⟩
  simp only [List.length_map] at w3
  exact ⟨l, rfl, by unfold few; omega, hl⟩
theorem askR_msg {ds : List DV} (h : DTy tt 5 49 ds) : ∃ m : Msg, ds = m.cs ∧ m.ok ∧ (∀ t ∈ m.txs, t.ok) ∧ m.head.sigs = [] := by
  replace h : DTyF (DTy tt 4) [3, 3, 3, 3, 47, 24, 41, 22] ds := h
  obtain ⟨a1, b1, rfl, h1, a2, b2, rfl, h2, a3, b3, rfl, h3, a4, b4, rfl, h4, a5, b5, rfl, h5, a6, b6, rfl, h6, a7, b7, rfl, h7, a8, b8, rfl, h8, rfl⟩ := h
  replace h1 : ∃ x, a1 = [.int .i64 x] ∧ (Lit.int .i64 x).wf = true := h1
  replace h2 : ∃ x, a2 = [.int .i64 x] ∧ (Lit.int .i64 x).wf = true := h2
  replace h3 : ∃ x, a3 = [.int .i64 x] ∧ (Lit.int .i64 x).wf = true := h3
  replace h4 : ∃ x, a4 = [.int .i64 x] ∧ (Lit.int .i64 x).wf = true := h4
  replace h5 : DTyF (DTy tt 3) [3, 3, 45] a5 := h5
  obtain ⟨c1, d1, rfl, k1, c2, d2, rfl, k2, c3, d3, rfl, k3, rfl⟩ := h5
  replace k1 : ∃ x, c1 = [.int .i64 x] ∧ (Lit.int .i64 x).wf = true := k1
  replace k2 : ∃ x, c2 = [.int .i64 x] ∧ (Lit.int .i64 x).wf = true := k2
  obtain ⟨x1, rfl, w1⟩ := h1
  obtain ⟨x2, rfl, w2⟩ := h2
  obtain ⟨x3, rfl, w3⟩ := h3
  obtain ⟨x4, rfl, w4⟩ := h4
  obtain ⟨y1, rfl, v1⟩ := k1
  obtain ⟨y2, rfl, v2⟩ := k2
  obtain ⟨txs, rfl, htx, htk⟩ := askR_txs k3
  obtain ⟨hd, rfl, hh, hd0, hs0⟩ := askR_head 1 h6
  obtain ⟨c, rfl, hc⟩ := askP_cert 0 h7
  obtain ⟨l8, rfl, f8, e8⟩ := askP_row h8
  exact ⟨⟨x1, x2, x3, x4, y1, y2, txs, hd, c, l8⟩, rfl, ⟨htx, hh, hc, f8⟩, htk, hs0⟩
theorem askR_act {ds : List DV} (h : DTy tt 6 56 ds) : ∃ a : Act, ds = a.cs ∧ a.ok ∧ (∀ t ∈ a.m.txs, t.ok) ∧ a.m.head.sigs = [] ∧ few a.l ∧ i64 a.d ∧ i64 a.doo := by
  replace h : DTyF (DTy tt 5) [3, 3, 24, 49, 4, 22] ds := h
  obtain ⟨a1, b1, rfl, h1, a2, b2, rfl, h2, a3, b3, rfl, h3, a4, b4, rfl, h4, a5, b5, rfl, h5, a6, b6, rfl, h6, rfl⟩ := h
  replace h1 : ∃ x, a1 = [.int .i64 x] ∧ (Lit.int .i64 x).wf = true := h1
  replace h2 : ∃ x, a2 = [.int .i64 x] ∧ (Lit.int .i64 x).wf = true := h2
  replace h5 : ∃ b, a5 = [.bool b] := h5
  obtain ⟨x1, rfl, w1⟩ := h1
  obtain ⟨x2, rfl, w2⟩ := h2
  obtain ⟨hd, rfl, hh, -, -⟩ := askR_head 2 h3
  obtain ⟨m, rfl, hm, htx, hsg⟩ := askR_msg h4
  obtain ⟨b, rfl⟩ := h5
  obtain ⟨l6, rfl, f6, e6⟩ := askP_row h6
  exact ⟨⟨x1, x2, hd, m, b, l6⟩, rfl, ⟨hh, hm⟩, htx, hsg, f6, askP_i64 w2, askP_i64 w1⟩
theorem askR_acts {a : List DV} (h : DTy tt 7 31 a) : ∃ l : List Act, a = [.sl 26 (actsD l)] ∧ few l ∧ ∀ a ∈ l, a.ok ∧ (∀ t ∈ a.m.txs, t.ok) ∧ a.m.head.sigs = [] ∧ few a.l ∧ i64 a.d ∧ i64 a.doo := by
  replace h : ∃ xs, a = [.sl 26 xs] ∧ xs.length * 368 ≤ 140737488355328 ∧ ∀ x ∈ xs, DTy tt 6 56 x := h
  obtain ⟨x3, rfl, w3, e3⟩ := h
  obtain ⟨l, rfl, hl⟩ := map_of (f := Act.cs) (ok := fun a : Act => a.ok ∧ (∀ t ∈ a.m.txs, t.ok) ∧ a.m.head.sigs = [] ∧ few a.l ∧ i64 a.d ∧ i64 a.doo) fun x hx => askR_act (e3 x hx)
  simp only [List.length_map] at w3
  exact ⟨l, rfl, by unfold few; omega, hl⟩
theorem askR_of {ds : List DV} (h : DTy tt 8 33 ds) : ∃ s : Script, argS ds = s.av ∧ s.okk := by
  replace h : DTyF (DTy tt 7) [30, 31] ds := h
  obtain ⟨p, b0, rfl, hp, q, b1, rfl, hq, rfl⟩ := h
  obtain ⟨acts, rfl, fa, ea⟩ := askR_acts hq
  replace hp : DTyF (DTy tt 6) [3, 3, 3, 3, 3, 24, 3, 22, 25, 28, 26] p := hp
  obtain ⟨a1, b1, rfl, h1, a2, b2, rfl, h2, a3, b3, rfl, h3, a4, b4, rfl, h4, a5, b5, rfl, h5, a6, b6, rfl, h6, a7, b7, rfl, h7, a8, b8, rfl, h8, a9, b9, rfl, h9, c1, d1, rfl, k1, c2, d2, rfl, k2, rfl⟩ := hp
  replace h1 : ∃ x, a1 = [.int .i64 x] ∧ (Lit.int .i64 x).wf = true := h1
  replace h2 : ∃ x, a2 = [.int .i64 x] ∧ (Lit.int .i64 x).wf = true := h2
  replace h3 : ∃ x, a3 = [.int .i64 x] ∧ (Lit.int .i64 x).wf = true := h3
  replace h4 : ∃ x, a4 = [.int .i64 x] ∧ (Lit.int .i64 x).wf = true := h4
  replace h5 : ∃ x, a5 = [.int .i64 x] ∧ (Lit.int .i64 x).wf = true := h5
  replace h7 : ∃ x, a7 = [.int .i64 x] ∧ (Lit.int .i64 x).wf = true := h7
  obtain ⟨x1, rfl, w1⟩ := h1
  obtain ⟨x2, rfl, w2⟩ := h2
  obtain ⟨x3, rfl, w3⟩ := h3
  obtain ⟨x4, rfl, w4⟩ := h4
  obtain ⟨x5, rfl, w5⟩ := h5
  obtain ⟨hd, rfl, hh, hd0, hs0⟩ := askR_head 3 h6
  obtain ⟨x7, rfl, w7⟩ := h7
  obtain ⟨l8, rfl, f8, e8⟩ := askP_row h8
  obtain ⟨l9, rfl, f9⟩ := askP_votes h9
  obtain ⟨d, rfl, hdg⟩ := askP_dag k1
  obtain ⟨lt, rfl, flt, elt⟩ := askP_certs 1 k2
  exact ⟨⟨⟨x1, x2, x3, x4, x5, hd, x7, l8, l9, d, lt⟩, acts⟩, rfl, ⟨⟨⟨hh, f8, f9, hdg, ⟨flt, elt⟩, ⟨fa, fun a h => (ea a h).1⟩⟩, fun a h => (ea a h).2.1, fun a h => (ea a h).2.2.2.1⟩, fun a h => (ea a h).2.2.2.2, ⟨hd0, hs0⟩, fun a h => (ea a h).2.2.1⟩⟩
end Go.Proofs.YtdlfmgcmfoehdaaGreat
/- PrimaryKeeps: for every argument the law returns true, and its argument reads behind the call as it read before. No condition of ours. -/
namespace Go.Proofs.YtdlfmgcmfoehdaaGreat
open Go.Ab Go.RowKit Go.ChangeShapes Go.WideShapes Go.ChangeAt
theorem own : ownKnob Tryz.prog.godebug = none := by kernel_rfl
theorem laidOut : laidOutB Tryz.prog = true := by kernel_rfl
set_option maxRecDepth 100000 in
theorem primaryKeeps_lifted (os : Os) (started : os.Started) (H : Type) (enc : TypeId × Value → H) :
    ReturnsInHanded {} Tryz.checked os 4 .any (Rows.primaryKeepsSpec.pre6 enc Tryz.prog Tryz.f4 Rows.primaryKeepsRow.domain false) (Rows.primaryKeepsSpec.post enc Tryz.prog Tryz.f4 false true false false) := by
  refine returnsInHanded_of_change_sized (C := Tryz.checked) own started (by kernel_rfl) Tryz.func4
    (ChangeSpec.witness6 (enc := enc) (C := Tryz.checked) false ⟨#[], #[.agg #[.int .i64 0, .int .i64 0, .int .i64 0, .int .i64 0, .int .i64 0, .int .i64 0, .int .i64 0, .slice none 0 0, .slice none 0 0, .int .i64 0, .slice none 0 0, .slice none 0 0, .int .i64 0, .int .i64 0, .slice none 0 0, .slice none 0 0, .slice none 0 0]], []⟩ 8 (by kernel_rfl) (by kernel_rfl) (by kernel_rfl) (by kernel_rfl)) ?_
  intro W base args ds gs before hval hW _ hsz _
  exact law_contract ttOk (f := Tryz.f4) (tb := 4) (t := 33) rfl rfl Tryz.underlying4 rfl (fun _ _ => rfl) laidOut (by kernel_rfl) (of_decide_eq_true (by kernel_rfl)) 8 (by kernel_rfl) argS
    (fun W base v ds h1 h2 => argS_ok Tryz.underlying33 h1 h2)
    (fun ds hd => by
      obtain ⟨p, hp, hok⟩ := askR_of hd
      rw [hp]
      exact primaryKeeps_ok p hok) hval hW hsz
theorem primaryKeeps_holds : Rows.PrimaryKeepsSaid :=
  OpenClaim.holds_of_wide 4 Tryz.f4 rfl rfl rfl rfl rfl rfl rfl ⟨rfl, rfl, rfl, rfl, rfl⟩ rfl rfl rfl rfl rfl (by kernel_rfl) Tryz.func4 (by kernel_rfl)
    (of_decide_eq_true (by kernel_rfl)) (by unfold Func.isWrapper; first | (rw [if_pos (by decide +kernel)]; kernel_rfl) | (rw [if_neg (by decide +kernel)]; exact ⟨rfl, rfl⟩))
    (fun os started H enc _ => primaryKeeps_lifted os started H enc)
#print axioms primaryKeeps_holds
end Go.Proofs.YtdlfmgcmfoehdaaGreat
