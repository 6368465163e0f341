/- PrimaryTrims: contracts. -/
import Derived.Test.YtolkmjfkkkiboaaGreatPrimaryTrimsCodM
set_option linter.unusedVariables false
set_option linter.unusedSimpArgs false
namespace Go.Proofs.YtolkmjfkkkiboaaGreat
open Go.Ab Go.RowKit Go.MapKept
attribute [local irreducible] ACalls AW ADraw Into fltB fnear
set_option maxRecDepth 100000
theorem pass_allN (d : Dag) (l : List Cert) : ∀ j, j ≤ l.length → (passD d (l.take j)).2.length = j → (passD d (l.take j)).2 = l.take j
  | 0, _, _ => rfl
  | j + 1, hj, h => by
    obtain ⟨c, hc⟩ : ∃ c, l[j]? = some c := ⟨_, List.getElem?_eq_getElem (by omega)⟩
    have hl := pass_len d l j
    have ih := pass_allN d l j (by omega)
    rw [passD_snoc hc, stepD] at h ⊢
    simp only at h ⊢
    split at h
    · rename_i h7
      rw [if_pos h7]
      rw [List.length_append, List.length_singleton] at h
      rw [ih (by omega), List.take_add_one, hc]
      rfl
    · omega
def laSt (p : Prim) (out : List Msg) (s : Bool × Dag × List Cert) : AF × List AB := ([(0, .ptr 0 0), (2, .d (.bool s.1))], (p.withDL s.2).st out)
def laI (p : Prim) (out : List Msg) (d : Dag) (l : List Cert) (s : Bool × Nat) : AF × List AB := ([(0, .ptr 0 0), (2, .d (.bool s.1)), (3, .arr 2), (4, .d (.int .i64 s.2))], (p.withDL ((passD d (l.take s.2)).1, l)).st out ++ [.row 47 6 (certsD (passD d (l.take s.2)).2) false])
set_option maxHeartbeats 4000000 in
theorem late20_ok (p : Prim) (out : List Msg) (hf : Fine p.dag p.late) : ACalls Tryz.prog 101 [.ptr 0 0] (p.st out) (fun av L => av = .tup [] ∧ L = (p.withDL (againD p.dag p.late)).st out) := by
  (refine acalls_go ttOk zOk foOk Tryz.func101 rfl Tryz.ntmps101 rfl false rfl ?_); (conv => whnf)
  refine rdw ?_; repeat' ((with_reducible apply tw) <;> intro _)
  refine loop_goI ttOk zOk foOk (σ := Bool × Dag × List Cert) (laSt p out) (fun s => Fine s.2.1 s.2.2 ∧ (s.1 = true → againD s.2.1 s.2.2 = againD p.dag p.late) ∧ (s.1 = false → s.2 = againD p.dag p.late)) (fun s => if s.1 then s.2.2.length + 1 else 0) ?_ ?_
  · refine into_of [0, 2] ?_
    conv => whnf
    exact ⟨(true, p.dag, p.late), rfl, rfl, hf, fun _ => rfl, fun h => by cases h⟩
  · rintro ⟨b, d, l⟩ ⟨hfd, hag, hend⟩
    replace hfd : Fine d l := hfd
    cases b with
    | false =>
      replace hend : (d, l) = againD p.dag p.late := hend rfl
      conv => whnf
      refine rdw ?_; repeat' ((with_reducible apply tw) <;> intro _)
      rw [← hend]
      exact ⟨rfl, rfl⟩
    | true =>
      replace hag : againD d l = againD p.dag p.late := hag rfl
      have hcl := certsD_length l
      have hr := hfd.room
      conv => whnf
      refine rdw ?_; repeat' ((with_reducible apply tw) <;> intro _)
      refine loop_go2 ttOk zOk foOk (σ := Bool) (ρ := Nat) (fun b j => laI p out d l (b, j)) (fun b j => j ≤ l.length ∧ b = decide ((passD d (l.take j)).2.length < j)) (fun _ j => l.length - j) [0, 2, 3, 4] ?_ ?_
      · conv => whnf
        exact ⟨false, 0, rfl, rfl, Nat.zero_le _, rfl⟩
      · rintro b j ⟨hj, hb⟩
        obtain ⟨k1, k2, k3, k4, k5⟩ := pass_fine hfd j hj
        have hpl := pass_len d l j
        have hl2 := certsD_length (passD d (l.take j)).2
        conv => whnf
        refine rdw ?_; repeat' ((with_reducible apply tw) <;> intro _)
        · rename_i hjl
          replace hjl : (j : Int) < ((certsD l).length : Int) := hjl
          refine Exists.elim (⟨_, List.getElem?_eq_getElem (by omega)⟩ : ∃ c, l[j]? = some c) fun c hc => ?_
          obtain ⟨hok, hct⟩ := hfd.late c (List.mem_of_getElem? hc)
          have hsn := passD_snoc (d := d) hc
          have hadd := rAdd_ok (passD d (l.take j)).1 k1 c hct (certFew_of hfd.valid.nodes hok) (by rw [k2]; exact hok)
          ((with_reducible refine draw_pl ttOk zOk foOk mixedOk pl101x7 ?_ ?_); (focus kernel_rfl); (conv => whnf))
          repeat' (first | (first | ((with_reducible first | apply rd_intro | apply gd_and); (focus ((conv => whnf) <;> first | rfl | (intro K hK; (conv => whnf); first | exact hK | exact z_wrap (by omega) hK))); conv => whnf) | ((with_reducible apply z_wrap); (focus omega); conv => whnf) | ((with_reducible first | apply mt_dec | apply mt_eq | apply mt_ne | apply mt_not | apply mt_any) <;> (intro _; conv => whnf))) | ((with_reducible apply rd_intro); (focus (intro K hK; (conv => whnf); exact ⟨by omega, c.cs, certsD_at hc, hK⟩)); (conv => whnf)) | ((with_reducible apply rd_intro); (focus (intro K hK; (conv => whnf); exact ix_map hc (by first | rfl | omega) hK)); (conv => whnf)) | ((with_reducible apply rd_intro); (focus (intro K hK; (conv => whnf); refine (hadd).mono ?_; rintro _ _ ⟨rfl, rfl⟩; (conv => whnf); exact hK)); (conv => whnf)) | ((with_reducible apply gd_and); (focus ((conv => whnf); intro K hK; (conv => whnf); exact ⟨by omega, c.cs, certsD_at hc, hK⟩)); (conv => whnf)) | ((with_reducible apply gd_and); (focus ((conv => whnf); intro K hK; (conv => whnf); refine (hadd).mono ?_; rintro _ _ ⟨rfl, rfl⟩; (conv => whnf); exact hK)); (conv => whnf)) | fail)
          · rename_i h7
            replace h7 : putE (passD d (l.take j)).1 c = 7 := h7
            have hd7 : putD (passD d (l.take j)).1 c = (passD d (l.take j)).1 := by unfold putD; rw [if_neg (by omega)]
            rw [stepD, if_pos h7, hd7] at hsn
            refine ⟨by omega, c.cs, certsD_at hc, ?_⟩
            conv => whnf
            refine rdw ?_; repeat' ((with_reducible apply tw) <;> intro _)
            refine ⟨by simp; omega, ?_⟩
            conv => whnf
            refine rdw ?_; repeat' ((with_reducible apply tw) <;> intro _)
            refine ⟨b, j + 1, rfl, ?_, ⟨by omega, ?_⟩, by omega⟩
            · simp only [laI]
              rw [hsn]
              simp only
              rw [show certsD ((passD d (l.take j)).2 ++ [c]) = certsD (passD d (l.take j)).2 ++ [c.cs] by simp [certsD]]
              rfl
            · rw [hb, hsn]
              simp only [List.length_append, List.length_singleton]
              rw [decide_eq_decide]
              omega
          · rename_i h7
            replace h7 : ¬ putE (passD d (l.take j)).1 c = 7 := h7
            rw [stepD, if_neg h7] at hsn
            refine ⟨true, j + 1, rfl, ?_, ⟨by omega, ?_⟩, by omega⟩
            · simp only [laI]
              rw [hsn]
              rfl
            · rw [hsn]
              simp only
              rw [decide_eq_true (by omega)]
        · rename_i hjl
          replace hjl : ¬ (j : Int) < ((certsD l).length : Int) := hjl
          obtain rfl : j = l.length := by omega
          rw [List.take_length] at k1 k2 k3 k4 k5 hpl hl2 hb
          refine into_seal [(0, 15)] rfl ?_
          refine into_of [0, 2] ?_
          conv => whnf
          by_cases hlt : (passD d l).2.length < l.length
          · rw [decide_eq_true hlt] at hb
            subst hb
            refine ⟨(true, (passD d l).1, (passD d l).2), rfl, by rw [List.take_length]; rfl, ⟨⟨k1, by show (passD d l).1.certs.length + (passD d l).2.length ≤ _; omega, fun c hc => by rw [k2]; exact hfd.late c (k5 c hc)⟩, fun _ => ?_, fun h => by cases h⟩, by show (passD d l).2.length + 1 < l.length + 1; omega⟩
            show againD (passD d l).1 (passD d l).2 = _
            have e1 : againD d l = againF l.length (passD d l).1 (passD d l).2 := by
              rw [againD, againF, if_pos hlt]
            rw [← hag, e1, againD]
            exact againF_fuel _ _ _ _ (by omega) (by omega)
          · rw [decide_eq_false hlt] at hb
            subst hb
            have hall := pass_allN d l l.length (Nat.le_refl _) (by rw [List.take_length]; omega)
            rw [List.take_length] at hall
            have e1 : againD d l = ((passD d l).1, l) := by rw [againD, againF, if_neg hlt]
            refine ⟨(false, (passD d l).1, l), rfl, by rw [List.take_length, hall]; rfl, ⟨⟨k1, by show (passD d l).1.certs.length + l.length ≤ _; omega, fun c hc => by rw [k2]; exact hfd.late c hc⟩, ⟨fun h => (by cases h), fun _ => (by rw [← hag, e1])⟩⟩, by show 0 < l.length + 1; omega⟩
end Go.Proofs.YtolkmjfkkkiboaaGreat
