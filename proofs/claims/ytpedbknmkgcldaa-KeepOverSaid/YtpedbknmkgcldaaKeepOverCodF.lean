/- Part of the proof of KeepOver: the contracts of the functions. -/
import Derived.Test.YtpedbknmkgcldaaKeepOverCodE

set_option linter.unusedVariables false
set_option linter.unusedSimpArgs false
namespace Go.Proofs.Ytpedbknmkgcldaa
open Go.Ab Go.RowKit Go.MapKept
attribute [local irreducible] ACalls AW ADraw Into
set_option maxRecDepth 100000
theorem box_at0 {fs : List Fl} {f : Fl} (h : f ∈ fs) {r : List AB} : BoxIn (.map (fs.map Fl.ent) :: r) f.b f.cs := ⟨0, _, rfl, boxcs_mem h⟩
theorem pad_rows (l : List UInt8) (n : Nat) : u8s l ++ List.replicate ((n : Int) - ((u8s l).length : Int)).toNat [DV.int .u8 0] = u8s (padTo n l) := by
  unfold padTo
  rw [u8s_length, show ((n : Int) - (l.length : Int)).toNat = n - l.length by omega]
  simp [u8s]
theorem pad_length {l : List UInt8} {n : Nat} (h : l.length ≤ n) : (padTo n l).length = n := by
  unfold padTo; simp; omega
theorem torn_ok (fs : List Fl) (f : Fl) (hf : f ∈ fs) (h1 : f.safe.length ≤ 1048576) (h2 : f.seen.length ≤ 1048576) (hne : f.safe ≠ f.seen) (p : Int) (hp : -9223372036854775808 ≤ p ∧ p < 9223372036854775808) :
    ACalls Try.prog 73 [.mp 0 f.b 0, .d (.int .i64 p)] [.map (fs.map Fl.ent)] (fun av L => av = .d (.sl 1 (u8s (tornL f.safe f.seen p))) ∧ L = [.map (fs.map Fl.ent)]) := by
  have hu1 := u8s_length f.safe
  have hu2 := u8s_length f.seen
  refine acalls_go ttOk zOk foOk Try.func73 rfl Try.ntmps73 rfl false rfl ?_
  conv => whnf
  ((with_reducible refine draw_pl ttOk zOk foOk mixedOk pl73x1 ?_ ?_); (focus kernel_rfl); (conv => whnf))
  repeat' (first | ((with_reducible apply rd_intro); (focus (intro K hK; (conv => whnf); first | exact hK | (intro z hz; rw [wrapI (by omega)] at hz; subst hz; exact hK))); (conv => whnf)) | ((with_reducible apply gd_and); (focus ((conv => whnf); first | rfl | (intro K hK; (conv => whnf); first | exact hK | (intro z hz; rw [wrapI (by omega)] at hz; subst hz; exact hK)))); (conv => whnf)) | ((with_reducible apply z_wrap); (focus omega); (conv => whnf)) | ((with_reducible refine mt_dec (fun _ => ?_) (fun _ => ?_)) <;> (conv => whnf)) | ((with_reducible refine mt_eq (fun _ => ?_) (fun _ => ?_)) <;> (conv => whnf)) | ((with_reducible refine mt_ne (fun _ => ?_) (fun _ => ?_)) <;> (conv => whnf)) | ((with_reducible refine mt_not (fun _ => ?_) (fun _ => ?_)) <;> (conv => whnf)) | ((with_reducible refine mt_any (fun _ => ?_) (fun _ => ?_)) <;> (conv => whnf)))
  ((with_reducible apply rd_intro); (focus (intro K hK; (conv => whnf); exact ⟨f.cs, box_at0 hf, hK⟩)); (conv => whnf))
  repeat' (first | ((with_reducible apply rd_intro); (focus (intro K hK; (conv => whnf); first | exact hK | (intro z hz; rw [wrapI (by omega)] at hz; subst hz; exact hK))); (conv => whnf)) | ((with_reducible apply gd_and); (focus ((conv => whnf); first | rfl | (intro K hK; (conv => whnf); first | exact hK | (intro z hz; rw [wrapI (by omega)] at hz; subst hz; exact hK)))); (conv => whnf)) | ((with_reducible apply z_wrap); (focus omega); (conv => whnf)) | ((with_reducible refine mt_dec (fun _ => ?_) (fun _ => ?_)) <;> (conv => whnf)) | ((with_reducible refine mt_eq (fun _ => ?_) (fun _ => ?_)) <;> (conv => whnf)) | ((with_reducible refine mt_ne (fun _ => ?_) (fun _ => ?_)) <;> (conv => whnf)) | ((with_reducible refine mt_not (fun _ => ?_) (fun _ => ?_)) <;> (conv => whnf)) | ((with_reducible refine mt_any (fun _ => ?_) (fun _ => ?_)) <;> (conv => whnf)))
  ((with_reducible apply rd_intro); (focus (intro K hK; (conv => whnf); exact ⟨f.cs, box_at0 hf, hK⟩)); (conv => whnf))
  repeat' (first | ((with_reducible apply rd_intro); (focus (intro K hK; (conv => whnf); first | exact hK | (intro z hz; rw [wrapI (by omega)] at hz; subst hz; exact hK))); (conv => whnf)) | ((with_reducible apply gd_and); (focus ((conv => whnf); first | rfl | (intro K hK; (conv => whnf); first | exact hK | (intro z hz; rw [wrapI (by omega)] at hz; subst hz; exact hK)))); (conv => whnf)) | ((with_reducible apply z_wrap); (focus omega); (conv => whnf)) | ((with_reducible refine mt_dec (fun _ => ?_) (fun _ => ?_)) <;> (conv => whnf)) | ((with_reducible refine mt_eq (fun _ => ?_) (fun _ => ?_)) <;> (conv => whnf)) | ((with_reducible refine mt_ne (fun _ => ?_) (fun _ => ?_)) <;> (conv => whnf)) | ((with_reducible refine mt_not (fun _ => ?_) (fun _ => ?_)) <;> (conv => whnf)) | ((with_reducible refine mt_any (fun _ => ?_) (fun _ => ?_)) <;> (conv => whnf)))
  (refine Or.inl ?_; (conv => whnf))
  refine (longest_ok [f.safe, f.seen] (by simp)).mono ?_
  rintro _ _ ⟨rfl, rfl⟩
  conv => whnf
  rw [show longestL [f.safe, f.seen] = max f.safe.length f.seen.length by simp [longestL]]
  have hml : max f.safe.length f.seen.length ≤ 1048576 := by omega
  have hm1 : f.safe.length ≤ max f.safe.length f.seen.length := by omega
  have hm2 : f.seen.length ≤ max f.safe.length f.seen.length := by omega
  have hT : tornL f.safe f.seen p = ((padTo (max f.safe.length f.seen.length) f.seen).take (tornN f.safe f.seen p) ++ (padTo (max f.safe.length f.seen.length) f.safe).drop (tornN f.safe f.seen p)).take f.seen.length := rfl
  have hN : tornN f.safe f.seen p = min ((p % (((max f.safe.length f.seen.length + 31) / 32 : Nat) + 1 : Int)).toNat * 32) (max f.safe.length f.seen.length) := rfl
  rw [hT]
  clear hT
  have hpos : 0 < max f.safe.length f.seen.length := by
    rcases Nat.eq_zero_or_pos (max f.safe.length f.seen.length) with h | h
    · exact absurd (by rw [List.eq_nil_of_length_eq_zero (show f.safe.length = 0 by omega), List.eq_nil_of_length_eq_zero (show f.seen.length = 0 by omega)]) hne
    · exact h
  generalize hlg : max f.safe.length f.seen.length = lg at *
  repeat' (first | ((with_reducible apply rd_intro); (focus (intro K hK; (conv => whnf); first | exact hK | (intro z hz; rw [wrapI (by omega)] at hz; subst hz; exact hK))); (conv => whnf)) | ((with_reducible apply gd_and); (focus ((conv => whnf); first | rfl | (intro K hK; (conv => whnf); first | exact hK | (intro z hz; rw [wrapI (by omega)] at hz; subst hz; exact hK)))); (conv => whnf)) | ((with_reducible apply z_wrap); (focus omega); (conv => whnf)) | ((with_reducible refine mt_dec (fun _ => ?_) (fun _ => ?_)) <;> (conv => whnf)) | ((with_reducible refine mt_eq (fun _ => ?_) (fun _ => ?_)) <;> (conv => whnf)) | ((with_reducible refine mt_ne (fun _ => ?_) (fun _ => ?_)) <;> (conv => whnf)) | ((with_reducible refine mt_not (fun _ => ?_) (fun _ => ?_)) <;> (conv => whnf)) | ((with_reducible refine mt_any (fun _ => ?_) (fun _ => ?_)) <;> (conv => whnf)))
  refine ⟨by decide, ?_⟩
  intro z hz
  have hz' : z = ((lg + 31) / 32 : Nat) := by
    rw [hz, wrapI (by rw [Int.tdiv_eq_ediv_of_nonneg (by omega)]; omega), Int.tdiv_eq_ediv_of_nonneg (by omega)]; omega
  clear hz
  subst hz'
  conv => whnf
  repeat' (first | ((with_reducible apply rd_intro); (focus (intro K hK; (conv => whnf); first | exact hK | (intro z hz; rw [wrapI (by omega)] at hz; subst hz; exact hK))); (conv => whnf)) | ((with_reducible apply gd_and); (focus ((conv => whnf); first | rfl | (intro K hK; (conv => whnf); first | exact hK | (intro z hz; rw [wrapI (by omega)] at hz; subst hz; exact hK)))); (conv => whnf)) | ((with_reducible apply z_wrap); (focus omega); (conv => whnf)) | ((with_reducible refine mt_dec (fun _ => ?_) (fun _ => ?_)) <;> (conv => whnf)) | ((with_reducible refine mt_eq (fun _ => ?_) (fun _ => ?_)) <;> (conv => whnf)) | ((with_reducible refine mt_ne (fun _ => ?_) (fun _ => ?_)) <;> (conv => whnf)) | ((with_reducible refine mt_not (fun _ => ?_) (fun _ => ?_)) <;> (conv => whnf)) | ((with_reducible refine mt_any (fun _ => ?_) (fun _ => ?_)) <;> (conv => whnf)))
  have hm0 := Int.emod_nonneg p (show (((lg + 31) / 32 : Nat) : Int) + 1 ≠ 0 by omega)
  have hmk := Int.emod_lt_of_pos p (show (0 : Int) < (((lg + 31) / 32 : Nat) : Int) + 1 by omega)
  ((with_reducible refine (modulo_ok p ((((lg + 31) / 32 : Nat) : Int) + 1) (by omega) (by omega) hp).mono ?_); rintro _ _ ⟨rfl, rfl⟩; (conv => whnf))
  generalize p % ((((lg + 31) / 32 : Nat) : Int) + 1) = md at *
  generalize hnt : tornN f.safe f.seen p = nt at *
  repeat' (first | ((with_reducible apply rd_intro); (focus (intro K hK; (conv => whnf); first | exact hK | (intro z hz; rw [wrapI (by omega)] at hz; subst hz; exact hK))); (conv => whnf)) | ((with_reducible apply gd_and); (focus ((conv => whnf); first | rfl | (intro K hK; (conv => whnf); first | exact hK | (intro z hz; rw [wrapI (by omega)] at hz; subst hz; exact hK)))); (conv => whnf)) | ((with_reducible apply z_wrap); (focus omega); (conv => whnf)) | ((with_reducible refine mt_dec (fun _ => ?_) (fun _ => ?_)) <;> (conv => whnf)) | ((with_reducible refine mt_eq (fun _ => ?_) (fun _ => ?_)) <;> (conv => whnf)) | ((with_reducible refine mt_ne (fun _ => ?_) (fun _ => ?_)) <;> (conv => whnf)) | ((with_reducible refine mt_not (fun _ => ?_) (fun _ => ?_)) <;> (conv => whnf)) | ((with_reducible refine mt_any (fun _ => ?_) (fun _ => ?_)) <;> (conv => whnf)))
  rw [show min (md * 32) (lg : Int) = (nt : Int) by omega]
  ((with_reducible refine draw_pl ttOk zOk foOk mixedOk pl73x5 ?_ ?_); (focus kernel_rfl); (conv => whnf))
  repeat' (first | ((with_reducible apply rd_intro); (focus (intro K hK; (conv => whnf); first | exact hK | (intro z hz; rw [wrapI (by omega)] at hz; subst hz; exact hK))); (conv => whnf)) | ((with_reducible apply gd_and); (focus ((conv => whnf); first | rfl | (intro K hK; (conv => whnf); first | exact hK | (intro z hz; rw [wrapI (by omega)] at hz; subst hz; exact hK)))); (conv => whnf)) | ((with_reducible apply z_wrap); (focus omega); (conv => whnf)) | ((with_reducible refine mt_dec (fun _ => ?_) (fun _ => ?_)) <;> (conv => whnf)) | ((with_reducible refine mt_eq (fun _ => ?_) (fun _ => ?_)) <;> (conv => whnf)) | ((with_reducible refine mt_ne (fun _ => ?_) (fun _ => ?_)) <;> (conv => whnf)) | ((with_reducible refine mt_not (fun _ => ?_) (fun _ => ?_)) <;> (conv => whnf)) | ((with_reducible refine mt_any (fun _ => ?_) (fun _ => ?_)) <;> (conv => whnf)))
  ((with_reducible apply rd_intro); (focus (intro K hK; (conv => whnf); exact ⟨f.cs, box_at0 hf, hK⟩)); (conv => whnf))
  repeat' (first | ((with_reducible apply rd_intro); (focus (intro K hK; (conv => whnf); first | exact hK | (intro z hz; rw [wrapI (by omega)] at hz; subst hz; exact hK))); (conv => whnf)) | ((with_reducible apply gd_and); (focus ((conv => whnf); first | rfl | (intro K hK; (conv => whnf); first | exact hK | (intro z hz; rw [wrapI (by omega)] at hz; subst hz; exact hK)))); (conv => whnf)) | ((with_reducible apply z_wrap); (focus omega); (conv => whnf)) | ((with_reducible refine mt_dec (fun _ => ?_) (fun _ => ?_)) <;> (conv => whnf)) | ((with_reducible refine mt_eq (fun _ => ?_) (fun _ => ?_)) <;> (conv => whnf)) | ((with_reducible refine mt_ne (fun _ => ?_) (fun _ => ?_)) <;> (conv => whnf)) | ((with_reducible refine mt_not (fun _ => ?_) (fun _ => ?_)) <;> (conv => whnf)) | ((with_reducible refine mt_any (fun _ => ?_) (fun _ => ?_)) <;> (conv => whnf)))
  ((with_reducible apply rd_intro); (focus (intro K hK; (conv => whnf); exact ⟨f.cs, box_at0 hf, hK⟩)); (conv => whnf))
  repeat' (first | ((with_reducible apply rd_intro); (focus (intro K hK; (conv => whnf); first | exact hK | (intro z hz; rw [wrapI (by omega)] at hz; subst hz; exact hK))); (conv => whnf)) | ((with_reducible apply gd_and); (focus ((conv => whnf); first | rfl | (intro K hK; (conv => whnf); first | exact hK | (intro z hz; rw [wrapI (by omega)] at hz; subst hz; exact hK)))); (conv => whnf)) | ((with_reducible apply z_wrap); (focus omega); (conv => whnf)) | ((with_reducible refine mt_dec (fun _ => ?_) (fun _ => ?_)) <;> (conv => whnf)) | ((with_reducible refine mt_eq (fun _ => ?_) (fun _ => ?_)) <;> (conv => whnf)) | ((with_reducible refine mt_ne (fun _ => ?_) (fun _ => ?_)) <;> (conv => whnf)) | ((with_reducible refine mt_not (fun _ => ?_) (fun _ => ?_)) <;> (conv => whnf)) | ((with_reducible refine mt_any (fun _ => ?_) (fun _ => ?_)) <;> (conv => whnf)))
  refine (bclone_row f.safe (by omega)).mono ?_
  rintro _ _ ⟨rfl, rfl⟩
  conv => whnf
  repeat' (first | ((with_reducible apply rd_intro); (focus (intro K hK; (conv => whnf); first | exact hK | (intro z hz; rw [wrapI (by omega)] at hz; subst hz; exact hK))); (conv => whnf)) | ((with_reducible apply gd_and); (focus ((conv => whnf); first | rfl | (intro K hK; (conv => whnf); first | exact hK | (intro z hz; rw [wrapI (by omega)] at hz; subst hz; exact hK)))); (conv => whnf)) | ((with_reducible apply z_wrap); (focus omega); (conv => whnf)) | ((with_reducible refine mt_dec (fun _ => ?_) (fun _ => ?_)) <;> (conv => whnf)) | ((with_reducible refine mt_eq (fun _ => ?_) (fun _ => ?_)) <;> (conv => whnf)) | ((with_reducible refine mt_ne (fun _ => ?_) (fun _ => ?_)) <;> (conv => whnf)) | ((with_reducible refine mt_not (fun _ => ?_) (fun _ => ?_)) <;> (conv => whnf)) | ((with_reducible refine mt_any (fun _ => ?_) (fun _ => ?_)) <;> (conv => whnf)))
  ((with_reducible apply gd_and); (focus ((conv => whnf); intro K hK; (conv => whnf); exact ⟨f.cs, box_at0 hf, hK⟩)); (conv => whnf))
  repeat' (first | ((with_reducible apply rd_intro); (focus (intro K hK; (conv => whnf); first | exact hK | (intro z hz; rw [wrapI (by omega)] at hz; subst hz; exact hK))); (conv => whnf)) | ((with_reducible apply gd_and); (focus ((conv => whnf); first | rfl | (intro K hK; (conv => whnf); first | exact hK | (intro z hz; rw [wrapI (by omega)] at hz; subst hz; exact hK)))); (conv => whnf)) | ((with_reducible apply z_wrap); (focus omega); (conv => whnf)) | ((with_reducible refine mt_dec (fun _ => ?_) (fun _ => ?_)) <;> (conv => whnf)) | ((with_reducible refine mt_eq (fun _ => ?_) (fun _ => ?_)) <;> (conv => whnf)) | ((with_reducible refine mt_ne (fun _ => ?_) (fun _ => ?_)) <;> (conv => whnf)) | ((with_reducible refine mt_not (fun _ => ?_) (fun _ => ?_)) <;> (conv => whnf)) | ((with_reducible refine mt_any (fun _ => ?_) (fun _ => ?_)) <;> (conv => whnf)))
  refine ⟨by omega, by rw [hu1]; simp only [Nat.mul_one]; omega, ?_⟩
  rw [pad_rows]
  conv => whnf
  repeat' (first | ((with_reducible apply rd_intro); (focus (intro K hK; (conv => whnf); first | exact hK | (intro z hz; rw [wrapI (by omega)] at hz; subst hz; exact hK))); (conv => whnf)) | ((with_reducible apply gd_and); (focus ((conv => whnf); first | rfl | (intro K hK; (conv => whnf); first | exact hK | (intro z hz; rw [wrapI (by omega)] at hz; subst hz; exact hK)))); (conv => whnf)) | ((with_reducible apply z_wrap); (focus omega); (conv => whnf)) | ((with_reducible refine mt_dec (fun _ => ?_) (fun _ => ?_)) <;> (conv => whnf)) | ((with_reducible refine mt_eq (fun _ => ?_) (fun _ => ?_)) <;> (conv => whnf)) | ((with_reducible refine mt_ne (fun _ => ?_) (fun _ => ?_)) <;> (conv => whnf)) | ((with_reducible refine mt_not (fun _ => ?_) (fun _ => ?_)) <;> (conv => whnf)) | ((with_reducible refine mt_any (fun _ => ?_) (fun _ => ?_)) <;> (conv => whnf)))
  ((with_reducible refine draw_pl ttOk zOk foOk mixedOk pl73x6 ?_ ?_); (focus kernel_rfl); (conv => whnf))
  repeat' (first | ((with_reducible apply rd_intro); (focus (intro K hK; (conv => whnf); first | exact hK | (intro z hz; rw [wrapI (by omega)] at hz; subst hz; exact hK))); (conv => whnf)) | ((with_reducible apply gd_and); (focus ((conv => whnf); first | rfl | (intro K hK; (conv => whnf); first | exact hK | (intro z hz; rw [wrapI (by omega)] at hz; subst hz; exact hK)))); (conv => whnf)) | ((with_reducible apply z_wrap); (focus omega); (conv => whnf)) | ((with_reducible refine mt_dec (fun _ => ?_) (fun _ => ?_)) <;> (conv => whnf)) | ((with_reducible refine mt_eq (fun _ => ?_) (fun _ => ?_)) <;> (conv => whnf)) | ((with_reducible refine mt_ne (fun _ => ?_) (fun _ => ?_)) <;> (conv => whnf)) | ((with_reducible refine mt_not (fun _ => ?_) (fun _ => ?_)) <;> (conv => whnf)) | ((with_reducible refine mt_any (fun _ => ?_) (fun _ => ?_)) <;> (conv => whnf)))
  ((with_reducible apply rd_intro); (focus (intro K hK; (conv => whnf); exact ⟨f.cs, box_at0 hf, hK⟩)); (conv => whnf))
  repeat' (first | ((with_reducible apply rd_intro); (focus (intro K hK; (conv => whnf); first | exact hK | (intro z hz; rw [wrapI (by omega)] at hz; subst hz; exact hK))); (conv => whnf)) | ((with_reducible apply gd_and); (focus ((conv => whnf); first | rfl | (intro K hK; (conv => whnf); first | exact hK | (intro z hz; rw [wrapI (by omega)] at hz; subst hz; exact hK)))); (conv => whnf)) | ((with_reducible apply z_wrap); (focus omega); (conv => whnf)) | ((with_reducible refine mt_dec (fun _ => ?_) (fun _ => ?_)) <;> (conv => whnf)) | ((with_reducible refine mt_eq (fun _ => ?_) (fun _ => ?_)) <;> (conv => whnf)) | ((with_reducible refine mt_ne (fun _ => ?_) (fun _ => ?_)) <;> (conv => whnf)) | ((with_reducible refine mt_not (fun _ => ?_) (fun _ => ?_)) <;> (conv => whnf)) | ((with_reducible refine mt_any (fun _ => ?_) (fun _ => ?_)) <;> (conv => whnf)))
  ((with_reducible apply rd_intro); (focus (intro K hK; (conv => whnf); exact ⟨f.cs, box_at0 hf, hK⟩)); (conv => whnf))
  repeat' (first | ((with_reducible apply rd_intro); (focus (intro K hK; (conv => whnf); first | exact hK | (intro z hz; rw [wrapI (by omega)] at hz; subst hz; exact hK))); (conv => whnf)) | ((with_reducible apply gd_and); (focus ((conv => whnf); first | rfl | (intro K hK; (conv => whnf); first | exact hK | (intro z hz; rw [wrapI (by omega)] at hz; subst hz; exact hK)))); (conv => whnf)) | ((with_reducible apply z_wrap); (focus omega); (conv => whnf)) | ((with_reducible refine mt_dec (fun _ => ?_) (fun _ => ?_)) <;> (conv => whnf)) | ((with_reducible refine mt_eq (fun _ => ?_) (fun _ => ?_)) <;> (conv => whnf)) | ((with_reducible refine mt_ne (fun _ => ?_) (fun _ => ?_)) <;> (conv => whnf)) | ((with_reducible refine mt_not (fun _ => ?_) (fun _ => ?_)) <;> (conv => whnf)) | ((with_reducible refine mt_any (fun _ => ?_) (fun _ => ?_)) <;> (conv => whnf)))
  refine (bclone_row f.seen (by omega)).mono ?_
  rintro _ _ ⟨rfl, rfl⟩
  conv => whnf
  repeat' (first | ((with_reducible apply rd_intro); (focus (intro K hK; (conv => whnf); first | exact hK | (intro z hz; rw [wrapI (by omega)] at hz; subst hz; exact hK))); (conv => whnf)) | ((with_reducible apply gd_and); (focus ((conv => whnf); first | rfl | (intro K hK; (conv => whnf); first | exact hK | (intro z hz; rw [wrapI (by omega)] at hz; subst hz; exact hK)))); (conv => whnf)) | ((with_reducible apply z_wrap); (focus omega); (conv => whnf)) | ((with_reducible refine mt_dec (fun _ => ?_) (fun _ => ?_)) <;> (conv => whnf)) | ((with_reducible refine mt_eq (fun _ => ?_) (fun _ => ?_)) <;> (conv => whnf)) | ((with_reducible refine mt_ne (fun _ => ?_) (fun _ => ?_)) <;> (conv => whnf)) | ((with_reducible refine mt_not (fun _ => ?_) (fun _ => ?_)) <;> (conv => whnf)) | ((with_reducible refine mt_any (fun _ => ?_) (fun _ => ?_)) <;> (conv => whnf)))
  ((with_reducible apply gd_and); (focus ((conv => whnf); intro K hK; (conv => whnf); exact ⟨f.cs, box_at0 hf, hK⟩)); (conv => whnf))
  repeat' (first | ((with_reducible apply rd_intro); (focus (intro K hK; (conv => whnf); first | exact hK | (intro z hz; rw [wrapI (by omega)] at hz; subst hz; exact hK))); (conv => whnf)) | ((with_reducible apply gd_and); (focus ((conv => whnf); first | rfl | (intro K hK; (conv => whnf); first | exact hK | (intro z hz; rw [wrapI (by omega)] at hz; subst hz; exact hK)))); (conv => whnf)) | ((with_reducible apply z_wrap); (focus omega); (conv => whnf)) | ((with_reducible refine mt_dec (fun _ => ?_) (fun _ => ?_)) <;> (conv => whnf)) | ((with_reducible refine mt_eq (fun _ => ?_) (fun _ => ?_)) <;> (conv => whnf)) | ((with_reducible refine mt_ne (fun _ => ?_) (fun _ => ?_)) <;> (conv => whnf)) | ((with_reducible refine mt_not (fun _ => ?_) (fun _ => ?_)) <;> (conv => whnf)) | ((with_reducible refine mt_any (fun _ => ?_) (fun _ => ?_)) <;> (conv => whnf)))
  refine ⟨by omega, by rw [hu2]; simp only [Nat.mul_one]; omega, ?_⟩
  rw [pad_rows]
  conv => whnf
  repeat' (first | ((with_reducible apply rd_intro); (focus (intro K hK; (conv => whnf); first | exact hK | (intro z hz; rw [wrapI (by omega)] at hz; subst hz; exact hK))); (conv => whnf)) | ((with_reducible apply gd_and); (focus ((conv => whnf); first | rfl | (intro K hK; (conv => whnf); first | exact hK | (intro z hz; rw [wrapI (by omega)] at hz; subst hz; exact hK)))); (conv => whnf)) | ((with_reducible apply z_wrap); (focus omega); (conv => whnf)) | ((with_reducible refine mt_dec (fun _ => ?_) (fun _ => ?_)) <;> (conv => whnf)) | ((with_reducible refine mt_eq (fun _ => ?_) (fun _ => ?_)) <;> (conv => whnf)) | ((with_reducible refine mt_ne (fun _ => ?_) (fun _ => ?_)) <;> (conv => whnf)) | ((with_reducible refine mt_not (fun _ => ?_) (fun _ => ?_)) <;> (conv => whnf)) | ((with_reducible refine mt_any (fun _ => ?_) (fun _ => ?_)) <;> (conv => whnf)))
  have hq1 : (u8s (padTo lg f.safe)).length = lg := by rw [u8s_length, pad_length hm1]
  have hq2 : (u8s (padTo lg f.seen)).length = lg := by rw [u8s_length, pad_length hm2]
  refine .inr ⟨rfl, by omega, by omega, fun h => (by rw [h] at hq1; simp at hq1; omega), ?_⟩
  rw [Int.toNat_natCast]
  conv => whnf
  repeat' (first | ((with_reducible apply rd_intro); (focus (intro K hK; (conv => whnf); first | exact hK | (intro z hz; rw [wrapI (by omega)] at hz; subst hz; exact hK))); (conv => whnf)) | ((with_reducible apply gd_and); (focus ((conv => whnf); first | rfl | (intro K hK; (conv => whnf); first | exact hK | (intro z hz; rw [wrapI (by omega)] at hz; subst hz; exact hK)))); (conv => whnf)) | ((with_reducible apply z_wrap); (focus omega); (conv => whnf)) | ((with_reducible refine mt_dec (fun _ => ?_) (fun _ => ?_)) <;> (conv => whnf)) | ((with_reducible refine mt_eq (fun _ => ?_) (fun _ => ?_)) <;> (conv => whnf)) | ((with_reducible refine mt_ne (fun _ => ?_) (fun _ => ?_)) <;> (conv => whnf)) | ((with_reducible refine mt_not (fun _ => ?_) (fun _ => ?_)) <;> (conv => whnf)) | ((with_reducible refine mt_any (fun _ => ?_) (fun _ => ?_)) <;> (conv => whnf)))
  refine ⟨by omega, ?_⟩
  rw [hq2, show (u8s (padTo lg f.seen)).take nt ++ (u8s (padTo lg f.safe)).drop (min lg nt) = u8s ((padTo lg f.seen).take nt ++ (padTo lg f.safe).drop nt) by rw [show min lg nt = nt by omega]; simp [u8s]]
  conv => whnf
  repeat' (first | ((with_reducible apply rd_intro); (focus (intro K hK; (conv => whnf); first | exact hK | (intro z hz; rw [wrapI (by omega)] at hz; subst hz; exact hK))); (conv => whnf)) | ((with_reducible apply gd_and); (focus ((conv => whnf); first | rfl | (intro K hK; (conv => whnf); first | exact hK | (intro z hz; rw [wrapI (by omega)] at hz; subst hz; exact hK)))); (conv => whnf)) | ((with_reducible apply z_wrap); (focus omega); (conv => whnf)) | ((with_reducible refine mt_dec (fun _ => ?_) (fun _ => ?_)) <;> (conv => whnf)) | ((with_reducible refine mt_eq (fun _ => ?_) (fun _ => ?_)) <;> (conv => whnf)) | ((with_reducible refine mt_ne (fun _ => ?_) (fun _ => ?_)) <;> (conv => whnf)) | ((with_reducible refine mt_not (fun _ => ?_) (fun _ => ?_)) <;> (conv => whnf)) | ((with_reducible refine mt_any (fun _ => ?_) (fun _ => ?_)) <;> (conv => whnf)))
  refine ⟨f.cs, box_at0 hf, ?_⟩
  conv => whnf
  repeat' (first | ((with_reducible apply rd_intro); (focus (intro K hK; (conv => whnf); first | exact hK | (intro z hz; rw [wrapI (by omega)] at hz; subst hz; exact hK))); (conv => whnf)) | ((with_reducible apply gd_and); (focus ((conv => whnf); first | rfl | (intro K hK; (conv => whnf); first | exact hK | (intro z hz; rw [wrapI (by omega)] at hz; subst hz; exact hK)))); (conv => whnf)) | ((with_reducible apply z_wrap); (focus omega); (conv => whnf)) | ((with_reducible refine mt_dec (fun _ => ?_) (fun _ => ?_)) <;> (conv => whnf)) | ((with_reducible refine mt_eq (fun _ => ?_) (fun _ => ?_)) <;> (conv => whnf)) | ((with_reducible refine mt_ne (fun _ => ?_) (fun _ => ?_)) <;> (conv => whnf)) | ((with_reducible refine mt_not (fun _ => ?_) (fun _ => ?_)) <;> (conv => whnf)) | ((with_reducible refine mt_any (fun _ => ?_) (fun _ => ?_)) <;> (conv => whnf)))
  have hq3 : (u8s ((padTo lg f.seen).take nt ++ (padTo lg f.safe).drop nt)).length = lg := by
    rw [u8s_length, List.length_append, List.length_take, List.length_drop, pad_length hm1, pad_length hm2]; omega
  refine .inl ?_
  conv => whnf
  refine ⟨by omega, by omega, by omega, ?_⟩
  conv => whnf
  refine ⟨?_, rfl⟩
  rw [hu2]
  simp [u8s, List.map_take]
end Go.Proofs.Ytpedbknmkgcldaa

namespace Go.Proofs.Ytpedbknmkgcldaa
open Go.Ab Go.RowKit Go.MapKept
attribute [local irreducible] ACalls AW ADraw Into
set_option maxRecDepth 100000
theorem crash_same (d : Dk) (hd : d.dat.fine) (picks : List Int) (hp : ∀ k ∈ picks, -9223372036854775808 ≤ k ∧ k < 9223372036854775808) (hpl : picks.length ≤ 140737488355328) (hsame : ∀ f ∈ d.dat.fs, f.safe = f.seen) :
    ACalls Try.prog 21 [.ptr 0 0, .d (.sl 1 (nums picks))] d.L (fun av L => ∃ ss : List ByteArray, ss.Perm (d.dat.fs.map FD.name) ∧ risingS ss ∧ av = .d (.sl 2 ((crashAt (pickFs ss d.dat.fs) picks ss.length).1.map FileS.cs)) ∧ L = d.L) := by
  refine acalls_go ttOk zOk foOk Try.func21 rfl Try.ntmps21 rfl false rfl ?_
  conv => whnf
  ((with_reducible refine (keys_ok _).mono ?_); rintro _ _ ⟨rfl, rfl⟩; (conv => whnf))
  refine (sorted_ok _ (d.fs.map Fl.name) (ent_keys _) (by have := hd.nd; rwa [show d.dat.fs = d.fs.map Fl.dat from rfl, dat_names] at this) (by have := hd.few; simp [Dk.dat] at this ⊢; omega) ?_).mono ?_
  · intro n hn
    obtain ⟨f, hf, rfl⟩ := List.mem_map.1 hn
    have := goodS_size (hd.good f.dat (List.mem_map.2 ⟨f, hf, rfl⟩))
    have h2 : (1000 : Nat) ≤ maxLen := by decide
    exact Nat.le_trans this h2
  rintro _ _ ⟨rfl, ss, hss, hr, rfl⟩
  have hss' : ss.Perm (d.dat.fs.map FD.name) := by rw [show d.dat.fs = d.fs.map Fl.dat from rfl, dat_names]; exact hss
  conv => whnf
  have hln : ss.length = d.fs.length := by have := hss.length_eq; simpa using this
  have hmem : ∀ n ∈ ss, n ∈ d.dat.fs.map FD.name := fun n hn => hss'.subset hn
  have hpk : (pickFs ss d.dat.fs).length = ss.length := by have := congrArg List.length (pick_names hmem); simpa using this
  have hfew : ss.length ≤ 16 := by have := hd.few; rw [hln]; simpa [Dk.dat] using this
  refine loop_go ttOk zOk foOk (σ := Nat) (fun k => ([(0, .ptr 0 0), (1, .d (.sl 1 (nums (crashAt (pickFs ss d.dat.fs) picks k).2))), (4, .arr 2), (17, .arr 3), (18, .d (.int .i64 (strs ss).length)), (19, .d (.int .i64 k))], d.L ++ [.row 36 2 ((crashAt (pickFs ss d.dat.fs) picks k).1.map FileS.cs) false, .row 9 1 (strs ss) false]))
    (fun k => k ≤ ss.length) (fun k => ss.length - k) [0, 1, 4, 17, 18, 19] ?_ ?_
  · conv => whnf
    exact ⟨0, rfl, rfl, by omega⟩
  · rintro k hk
    conv => whnf
    refine sp_dec (fun h => ?_) (fun h => ?_) <;> simp only [strs, List.length_map] at h
    · conv => whnf
      have hkl : k < ss.length := by omega
      obtain ⟨f, hff⟩ : ∃ f, (pickFs ss d.dat.fs)[k]? = some f := ⟨_, List.getElem?_eq_getElem (by omega)⟩
      obtain ⟨hnk, hget⟩ := pick_get hmem hff
      refine ⟨by omega, by simp [strs]; omega, ?_⟩
      conv => whnf
      refine ⟨[.str f.name], by simp [strs, hnk], ?_⟩
      conv => whnf
      obtain ⟨i, g, hgf, rfl⟩ := findF_of_get hget
      refine ⟨_, mfind_ent _ d.fs 0, ?_⟩
      rw [hgf]
      conv => whnf
      repeat' (first | ((with_reducible apply rd_intro); (focus (intro K hK; (conv => whnf); first | exact hK | (intro z hz; rw [wrapI (by omega)] at hz; subst hz; exact hK))); (conv => whnf)) | ((with_reducible apply gd_and); (focus ((conv => whnf); first | rfl | (intro K hK; (conv => whnf); first | exact hK | (intro z hz; rw [wrapI (by omega)] at hz; subst hz; exact hK)))); (conv => whnf)) | ((with_reducible apply z_wrap); (focus omega); (conv => whnf)) | ((with_reducible refine mt_dec (fun _ => ?_) (fun _ => ?_)) <;> (conv => whnf)) | ((with_reducible refine mt_eq (fun _ => ?_) (fun _ => ?_)) <;> (conv => whnf)) | ((with_reducible refine mt_ne (fun _ => ?_) (fun _ => ?_)) <;> (conv => whnf)) | ((with_reducible refine mt_not (fun _ => ?_) (fun _ => ?_)) <;> (conv => whnf)) | ((with_reducible refine mt_any (fun _ => ?_) (fun _ => ?_)) <;> (conv => whnf)))
      refine ⟨g.cs, box_at (findF_mem hgf), ?_⟩
      conv => whnf
      repeat' (first | ((with_reducible apply rd_intro); (focus (intro K hK; (conv => whnf); first | exact hK | (intro z hz; rw [wrapI (by omega)] at hz; subst hz; exact hK))); (conv => whnf)) | ((with_reducible apply gd_and); (focus ((conv => whnf); first | rfl | (intro K hK; (conv => whnf); first | exact hK | (intro z hz; rw [wrapI (by omega)] at hz; subst hz; exact hK)))); (conv => whnf)) | ((with_reducible apply z_wrap); (focus omega); (conv => whnf)) | ((with_reducible refine mt_dec (fun _ => ?_) (fun _ => ?_)) <;> (conv => whnf)) | ((with_reducible refine mt_eq (fun _ => ?_) (fun _ => ?_)) <;> (conv => whnf)) | ((with_reducible refine mt_ne (fun _ => ?_) (fun _ => ?_)) <;> (conv => whnf)) | ((with_reducible refine mt_not (fun _ => ?_) (fun _ => ?_)) <;> (conv => whnf)) | ((with_reducible refine mt_any (fun _ => ?_) (fun _ => ?_)) <;> (conv => whnf)))
      ((with_reducible refine draw_pl ttOk zOk foOk mixedOk pl21x6 ?_ ?_); (focus kernel_rfl); (conv => whnf))
      repeat' (first | ((with_reducible apply rd_intro); (focus (intro K hK; (conv => whnf); first | exact hK | (intro z hz; rw [wrapI (by omega)] at hz; subst hz; exact hK))); (conv => whnf)) | ((with_reducible apply gd_and); (focus ((conv => whnf); first | rfl | (intro K hK; (conv => whnf); first | exact hK | (intro z hz; rw [wrapI (by omega)] at hz; subst hz; exact hK)))); (conv => whnf)) | ((with_reducible apply z_wrap); (focus omega); (conv => whnf)) | ((with_reducible refine mt_dec (fun _ => ?_) (fun _ => ?_)) <;> (conv => whnf)) | ((with_reducible refine mt_eq (fun _ => ?_) (fun _ => ?_)) <;> (conv => whnf)) | ((with_reducible refine mt_ne (fun _ => ?_) (fun _ => ?_)) <;> (conv => whnf)) | ((with_reducible refine mt_not (fun _ => ?_) (fun _ => ?_)) <;> (conv => whnf)) | ((with_reducible refine mt_any (fun _ => ?_) (fun _ => ?_)) <;> (conv => whnf)))
      ((with_reducible apply rd_intro); (focus (intro K hK; (conv => whnf); exact ⟨g.cs, box_at (findF_mem hgf), hK⟩)); (conv => whnf))
      repeat' (first | ((with_reducible apply rd_intro); (focus (intro K hK; (conv => whnf); first | exact hK | (intro z hz; rw [wrapI (by omega)] at hz; subst hz; exact hK))); (conv => whnf)) | ((with_reducible apply gd_and); (focus ((conv => whnf); first | rfl | (intro K hK; (conv => whnf); first | exact hK | (intro z hz; rw [wrapI (by omega)] at hz; subst hz; exact hK)))); (conv => whnf)) | ((with_reducible apply z_wrap); (focus omega); (conv => whnf)) | ((with_reducible refine mt_dec (fun _ => ?_) (fun _ => ?_)) <;> (conv => whnf)) | ((with_reducible refine mt_eq (fun _ => ?_) (fun _ => ?_)) <;> (conv => whnf)) | ((with_reducible refine mt_ne (fun _ => ?_) (fun _ => ?_)) <;> (conv => whnf)) | ((with_reducible refine mt_not (fun _ => ?_) (fun _ => ?_)) <;> (conv => whnf)) | ((with_reducible refine mt_any (fun _ => ?_) (fun _ => ?_)) <;> (conv => whnf)))
      ((with_reducible apply rd_intro); (focus (intro K hK; (conv => whnf); exact ⟨g.cs, box_at (findF_mem hgf), hK⟩)); (conv => whnf))
      repeat' (first | ((with_reducible apply rd_intro); (focus (intro K hK; (conv => whnf); first | exact hK | (intro z hz; rw [wrapI (by omega)] at hz; subst hz; exact hK))); (conv => whnf)) | ((with_reducible apply gd_and); (focus ((conv => whnf); first | rfl | (intro K hK; (conv => whnf); first | exact hK | (intro z hz; rw [wrapI (by omega)] at hz; subst hz; exact hK)))); (conv => whnf)) | ((with_reducible apply z_wrap); (focus omega); (conv => whnf)) | ((with_reducible refine mt_dec (fun _ => ?_) (fun _ => ?_)) <;> (conv => whnf)) | ((with_reducible refine mt_eq (fun _ => ?_) (fun _ => ?_)) <;> (conv => whnf)) | ((with_reducible refine mt_ne (fun _ => ?_) (fun _ => ?_)) <;> (conv => whnf)) | ((with_reducible refine mt_not (fun _ => ?_) (fun _ => ?_)) <;> (conv => whnf)) | ((with_reducible refine mt_any (fun _ => ?_) (fun _ => ?_)) <;> (conv => whnf)))
      ((with_reducible refine (equal_ok g.safe g.seen).mono ?_); rintro _ _ ⟨rfl, rfl⟩; (conv => whnf))
      repeat' (first | ((with_reducible apply rd_intro); (focus (intro K hK; (conv => whnf); first | exact hK | (intro z hz; rw [wrapI (by omega)] at hz; subst hz; exact hK))); (conv => whnf)) | ((with_reducible apply gd_and); (focus ((conv => whnf); first | rfl | (intro K hK; (conv => whnf); first | exact hK | (intro z hz; rw [wrapI (by omega)] at hz; subst hz; exact hK)))); (conv => whnf)) | ((with_reducible apply z_wrap); (focus omega); (conv => whnf)) | ((with_reducible refine mt_dec (fun _ => ?_) (fun _ => ?_)) <;> (conv => whnf)) | ((with_reducible refine mt_eq (fun _ => ?_) (fun _ => ?_)) <;> (conv => whnf)) | ((with_reducible refine mt_ne (fun _ => ?_) (fun _ => ?_)) <;> (conv => whnf)) | ((with_reducible refine mt_not (fun _ => ?_) (fun _ => ?_)) <;> (conv => whnf)) | ((with_reducible refine mt_any (fun _ => ?_) (fun _ => ?_)) <;> (conv => whnf)))
      · rename_i h1 h2
        exact absurd (hsame g.dat (mem_getN hget)) (by simp at h1; exact h1)
      · rename_i h1 h2
        exact absurd (hsame g.dat (mem_getN hget)) (by simp at h1; exact h1)
      · have hlen : g.seen.length ≤ 1048576 := (hd.ok.len g.dat (mem_getN hget)).1
        have heq : g.dat.safe = g.dat.seen := by rename_i h1; simp at h1; exact h1
        have hst : stepC g.dat (crashAt (pickFs ss d.dat.fs) picks k).2 = (g.seen, (crashAt (pickFs ss d.dat.fs) picks k).2) := by rw [stepC, if_pos heq]; rfl
        ((with_reducible refine (clone_ok g.seen (by omega)).mono ?_); rintro _ _ ⟨rfl, rfl⟩; (conv => whnf))
        repeat' (first | ((with_reducible apply rd_intro); (focus (intro K hK; (conv => whnf); first | exact hK | (intro z hz; rw [wrapI (by omega)] at hz; subst hz; exact hK))); (conv => whnf)) | ((with_reducible apply gd_and); (focus ((conv => whnf); first | rfl | (intro K hK; (conv => whnf); first | exact hK | (intro z hz; rw [wrapI (by omega)] at hz; subst hz; exact hK)))); (conv => whnf)) | ((with_reducible apply z_wrap); (focus omega); (conv => whnf)) | ((with_reducible refine mt_dec (fun _ => ?_) (fun _ => ?_)) <;> (conv => whnf)) | ((with_reducible refine mt_eq (fun _ => ?_) (fun _ => ?_)) <;> (conv => whnf)) | ((with_reducible refine mt_ne (fun _ => ?_) (fun _ => ?_)) <;> (conv => whnf)) | ((with_reducible refine mt_not (fun _ => ?_) (fun _ => ?_)) <;> (conv => whnf)) | ((with_reducible refine mt_any (fun _ => ?_) (fun _ => ?_)) <;> (conv => whnf)))
        refine ⟨by have := crash_length (fs := pickFs ss d.dat.fs) (picks := picks) (show k ≤ (pickFs ss d.dat.fs).length by omega); rw [List.length_map, this]; simp only [List.length_cons, List.length_nil]; omega, ?_⟩
        conv => whnf
        repeat' (first | ((with_reducible apply rd_intro); (focus (intro K hK; (conv => whnf); first | exact hK | (intro z hz; rw [wrapI (by omega)] at hz; subst hz; exact hK))); (conv => whnf)) | ((with_reducible apply gd_and); (focus ((conv => whnf); first | rfl | (intro K hK; (conv => whnf); first | exact hK | (intro z hz; rw [wrapI (by omega)] at hz; subst hz; exact hK)))); (conv => whnf)) | ((with_reducible apply z_wrap); (focus omega); (conv => whnf)) | ((with_reducible refine mt_dec (fun _ => ?_) (fun _ => ?_)) <;> (conv => whnf)) | ((with_reducible refine mt_eq (fun _ => ?_) (fun _ => ?_)) <;> (conv => whnf)) | ((with_reducible refine mt_ne (fun _ => ?_) (fun _ => ?_)) <;> (conv => whnf)) | ((with_reducible refine mt_not (fun _ => ?_) (fun _ => ?_)) <;> (conv => whnf)) | ((with_reducible refine mt_any (fun _ => ?_) (fun _ => ?_)) <;> (conv => whnf)))
        refine ⟨k + 1, ?_, ?_, by omega, by omega⟩
        · rw [crashAt_succ hff, hst]; rfl
        · rw [crashAt_succ hff, hst, List.map_append]; rfl
    · conv => whnf
      obtain rfl : k = ss.length := by omega
      exact ⟨ss, hss', hr, rfl, rfl⟩
end Go.Proofs.Ytpedbknmkgcldaa

namespace Go.Proofs.Ytpedbknmkgcldaa
open Go.Ab Go.RowKit Go.MapKept
attribute [local irreducible] ACalls AW ADraw Into
set_option maxRecDepth 100000
theorem nums_tail (x : Int) (r : List Int) : ((nums (x :: r)).take ((nums (x :: r)).length : Int).toNat).drop (Int.toNat 1) = nums r := by
  rw [List.take_of_length_le (by simp)]
  rfl
set_option maxHeartbeats 4000000 in
theorem crash_ok (d : Dk) (hd : d.dat.fine) (picks : List Int) (hp : ∀ k ∈ picks, -9223372036854775808 ≤ k ∧ k < 9223372036854775808) (hpl : picks.length ≤ 140737488355328) :
    ACalls Try.prog 21 [.ptr 0 0, .d (.sl 1 (nums picks))] d.L (fun av L => ∃ ss : List ByteArray, ss.Perm (d.dat.fs.map FD.name) ∧ risingS ss ∧ av = .d (.sl 2 ((crashAt (pickFs ss d.dat.fs) picks ss.length).1.map FileS.cs)) ∧ L = d.L) := by
  refine acalls_go ttOk zOk foOk Try.func21 rfl Try.ntmps21 rfl false rfl ?_
  conv => whnf
  ((with_reducible refine (keys_ok _).mono ?_); rintro _ _ ⟨rfl, rfl⟩; (conv => whnf))
  refine (sorted_ok _ (d.fs.map Fl.name) (ent_keys _) (by have := hd.nd; rwa [show d.dat.fs = d.fs.map Fl.dat from rfl, dat_names] at this) (by have := hd.few; simp [Dk.dat] at this ⊢; omega) ?_).mono ?_
  · intro n hn
    obtain ⟨f, hf, rfl⟩ := List.mem_map.1 hn
    have := goodS_size (hd.good f.dat (List.mem_map.2 ⟨f, hf, rfl⟩))
    have h2 : (1000 : Nat) ≤ maxLen := by decide
    exact Nat.le_trans this h2
  rintro _ _ ⟨rfl, ss, hss, hr, rfl⟩
  have hss' : ss.Perm (d.dat.fs.map FD.name) := by rw [show d.dat.fs = d.fs.map Fl.dat from rfl, dat_names]; exact hss
  conv => whnf
  have hln : ss.length = d.fs.length := by have := hss.length_eq; simpa using this
  have hmem : ∀ n ∈ ss, n ∈ d.dat.fs.map FD.name := fun n hn => hss'.subset hn
  have hpk : (pickFs ss d.dat.fs).length = ss.length := by have := congrArg List.length (pick_names hmem); simpa using this
  have hfew : ss.length ≤ 16 := by have := hd.few; rw [hln]; simpa [Dk.dat] using this
  refine loop_go ttOk zOk foOk (σ := Nat) (fun k => ([(0, .ptr 0 0), (1, .d (.sl 1 (nums (crashAt (pickFs ss d.dat.fs) picks k).2))), (4, .arr 2), (17, .arr 3), (18, .d (.int .i64 (strs ss).length)), (19, .d (.int .i64 k))], d.L ++ [.row 36 2 ((crashAt (pickFs ss d.dat.fs) picks k).1.map FileS.cs) false, .row 9 1 (strs ss) false]))
    (fun k => k ≤ ss.length) (fun k => ss.length - k) [0, 1, 4, 17, 18, 19] ?_ ?_
  · conv => whnf
    exact ⟨0, rfl, rfl, by omega⟩
  · rintro k hk
    conv => whnf
    refine sp_dec (fun h => ?_) (fun h => ?_) <;> simp only [strs, List.length_map] at h
    · conv => whnf
      have hkl : k < ss.length := by omega
      obtain ⟨f, hff⟩ : ∃ f, (pickFs ss d.dat.fs)[k]? = some f := ⟨_, List.getElem?_eq_getElem (by omega)⟩
      obtain ⟨hnk, hget⟩ := pick_get hmem hff
      refine ⟨by omega, by simp [strs]; omega, ?_⟩
      conv => whnf
      refine ⟨[.str f.name], by simp [strs, hnk], ?_⟩
      conv => whnf
      obtain ⟨i, g, hgf, rfl⟩ := findF_of_get hget
      refine ⟨_, mfind_ent _ d.fs 0, ?_⟩
      rw [hgf]
      conv => whnf
      repeat' (first | ((with_reducible apply rd_intro); (focus (intro K hK; (conv => whnf); first | exact hK | (intro z hz; rw [wrapI (by omega)] at hz; subst hz; exact hK))); (conv => whnf)) | ((with_reducible apply gd_and); (focus ((conv => whnf); first | rfl | (intro K hK; (conv => whnf); first | exact hK | (intro z hz; rw [wrapI (by omega)] at hz; subst hz; exact hK)))); (conv => whnf)) | ((with_reducible apply z_wrap); (focus omega); (conv => whnf)) | ((with_reducible refine mt_dec (fun _ => ?_) (fun _ => ?_)) <;> (conv => whnf)) | ((with_reducible refine mt_eq (fun _ => ?_) (fun _ => ?_)) <;> (conv => whnf)) | ((with_reducible refine mt_ne (fun _ => ?_) (fun _ => ?_)) <;> (conv => whnf)) | ((with_reducible refine mt_not (fun _ => ?_) (fun _ => ?_)) <;> (conv => whnf)) | ((with_reducible refine mt_any (fun _ => ?_) (fun _ => ?_)) <;> (conv => whnf)))
      refine ⟨g.cs, box_at (findF_mem hgf), ?_⟩
      conv => whnf
      repeat' (first | ((with_reducible apply rd_intro); (focus (intro K hK; (conv => whnf); first | exact hK | (intro z hz; rw [wrapI (by omega)] at hz; subst hz; exact hK))); (conv => whnf)) | ((with_reducible apply gd_and); (focus ((conv => whnf); first | rfl | (intro K hK; (conv => whnf); first | exact hK | (intro z hz; rw [wrapI (by omega)] at hz; subst hz; exact hK)))); (conv => whnf)) | ((with_reducible apply z_wrap); (focus omega); (conv => whnf)) | ((with_reducible refine mt_dec (fun _ => ?_) (fun _ => ?_)) <;> (conv => whnf)) | ((with_reducible refine mt_eq (fun _ => ?_) (fun _ => ?_)) <;> (conv => whnf)) | ((with_reducible refine mt_ne (fun _ => ?_) (fun _ => ?_)) <;> (conv => whnf)) | ((with_reducible refine mt_not (fun _ => ?_) (fun _ => ?_)) <;> (conv => whnf)) | ((with_reducible refine mt_any (fun _ => ?_) (fun _ => ?_)) <;> (conv => whnf)))
      ((with_reducible refine draw_pl ttOk zOk foOk mixedOk pl21x6 ?_ ?_); (focus kernel_rfl); (conv => whnf))
      repeat' (first | ((with_reducible apply rd_intro); (focus (intro K hK; (conv => whnf); first | exact hK | (intro z hz; rw [wrapI (by omega)] at hz; subst hz; exact hK))); (conv => whnf)) | ((with_reducible apply gd_and); (focus ((conv => whnf); first | rfl | (intro K hK; (conv => whnf); first | exact hK | (intro z hz; rw [wrapI (by omega)] at hz; subst hz; exact hK)))); (conv => whnf)) | ((with_reducible apply z_wrap); (focus omega); (conv => whnf)) | ((with_reducible refine mt_dec (fun _ => ?_) (fun _ => ?_)) <;> (conv => whnf)) | ((with_reducible refine mt_eq (fun _ => ?_) (fun _ => ?_)) <;> (conv => whnf)) | ((with_reducible refine mt_ne (fun _ => ?_) (fun _ => ?_)) <;> (conv => whnf)) | ((with_reducible refine mt_not (fun _ => ?_) (fun _ => ?_)) <;> (conv => whnf)) | ((with_reducible refine mt_any (fun _ => ?_) (fun _ => ?_)) <;> (conv => whnf)))
      ((with_reducible apply rd_intro); (focus (intro K hK; (conv => whnf); exact ⟨g.cs, box_at (findF_mem hgf), hK⟩)); (conv => whnf))
      repeat' (first | ((with_reducible apply rd_intro); (focus (intro K hK; (conv => whnf); first | exact hK | (intro z hz; rw [wrapI (by omega)] at hz; subst hz; exact hK))); (conv => whnf)) | ((with_reducible apply gd_and); (focus ((conv => whnf); first | rfl | (intro K hK; (conv => whnf); first | exact hK | (intro z hz; rw [wrapI (by omega)] at hz; subst hz; exact hK)))); (conv => whnf)) | ((with_reducible apply z_wrap); (focus omega); (conv => whnf)) | ((with_reducible refine mt_dec (fun _ => ?_) (fun _ => ?_)) <;> (conv => whnf)) | ((with_reducible refine mt_eq (fun _ => ?_) (fun _ => ?_)) <;> (conv => whnf)) | ((with_reducible refine mt_ne (fun _ => ?_) (fun _ => ?_)) <;> (conv => whnf)) | ((with_reducible refine mt_not (fun _ => ?_) (fun _ => ?_)) <;> (conv => whnf)) | ((with_reducible refine mt_any (fun _ => ?_) (fun _ => ?_)) <;> (conv => whnf)))
      ((with_reducible apply rd_intro); (focus (intro K hK; (conv => whnf); exact ⟨g.cs, box_at (findF_mem hgf), hK⟩)); (conv => whnf))
      repeat' (first | ((with_reducible apply rd_intro); (focus (intro K hK; (conv => whnf); first | exact hK | (intro z hz; rw [wrapI (by omega)] at hz; subst hz; exact hK))); (conv => whnf)) | ((with_reducible apply gd_and); (focus ((conv => whnf); first | rfl | (intro K hK; (conv => whnf); first | exact hK | (intro z hz; rw [wrapI (by omega)] at hz; subst hz; exact hK)))); (conv => whnf)) | ((with_reducible apply z_wrap); (focus omega); (conv => whnf)) | ((with_reducible refine mt_dec (fun _ => ?_) (fun _ => ?_)) <;> (conv => whnf)) | ((with_reducible refine mt_eq (fun _ => ?_) (fun _ => ?_)) <;> (conv => whnf)) | ((with_reducible refine mt_ne (fun _ => ?_) (fun _ => ?_)) <;> (conv => whnf)) | ((with_reducible refine mt_not (fun _ => ?_) (fun _ => ?_)) <;> (conv => whnf)) | ((with_reducible refine mt_any (fun _ => ?_) (fun _ => ?_)) <;> (conv => whnf)))
      ((with_reducible refine (equal_ok g.safe g.seen).mono ?_); rintro _ _ ⟨rfl, rfl⟩; (conv => whnf))
      repeat' (first | ((with_reducible apply rd_intro); (focus (intro K hK; (conv => whnf); first | exact hK | (intro z hz; rw [wrapI (by omega)] at hz; subst hz; exact hK))); (conv => whnf)) | ((with_reducible apply gd_and); (focus ((conv => whnf); first | rfl | (intro K hK; (conv => whnf); first | exact hK | (intro z hz; rw [wrapI (by omega)] at hz; subst hz; exact hK)))); (conv => whnf)) | ((with_reducible apply z_wrap); (focus omega); (conv => whnf)) | ((with_reducible refine mt_dec (fun _ => ?_) (fun _ => ?_)) <;> (conv => whnf)) | ((with_reducible refine mt_eq (fun _ => ?_) (fun _ => ?_)) <;> (conv => whnf)) | ((with_reducible refine mt_ne (fun _ => ?_) (fun _ => ?_)) <;> (conv => whnf)) | ((with_reducible refine mt_not (fun _ => ?_) (fun _ => ?_)) <;> (conv => whnf)) | ((with_reducible refine mt_any (fun _ => ?_) (fun _ => ?_)) <;> (conv => whnf)))
      · rename_i h1 h2
        have hne : g.safe ≠ g.seen := by simp at h1; exact h1
        obtain ⟨x, r, hq⟩ : ∃ x r, (crashAt (pickFs ss d.dat.fs) picks k).2 = x :: r := by
          cases hc : (crashAt (pickFs ss d.dat.fs) picks k).2 with
          | nil => rw [hc] at h2; simp [nums] at h2
          | cons x r => exact ⟨x, r, rfl⟩
        have hx := hp x (crash_picks x (by rw [hq]; simp))
        rw [hq]
        have hnl : (nums (x :: r)).length = r.length + 1 := by simp [nums]
        ((with_reducible refine draw_pl ttOk zOk foOk mixedOk pl21x9 ?_ ?_); (focus kernel_rfl); (conv => whnf))
        repeat' (first | ((with_reducible apply rd_intro); (focus (intro K hK; (conv => whnf); first | exact hK | (intro z hz; rw [wrapI (by omega)] at hz; subst hz; exact hK))); (conv => whnf)) | ((with_reducible apply gd_and); (focus ((conv => whnf); first | rfl | (intro K hK; (conv => whnf); first | exact hK | (intro z hz; rw [wrapI (by omega)] at hz; subst hz; exact hK)))); (conv => whnf)) | ((with_reducible apply z_wrap); (focus omega); (conv => whnf)) | ((with_reducible refine mt_dec (fun _ => ?_) (fun _ => ?_)) <;> (conv => whnf)) | ((with_reducible refine mt_eq (fun _ => ?_) (fun _ => ?_)) <;> (conv => whnf)) | ((with_reducible refine mt_ne (fun _ => ?_) (fun _ => ?_)) <;> (conv => whnf)) | ((with_reducible refine mt_not (fun _ => ?_) (fun _ => ?_)) <;> (conv => whnf)) | ((with_reducible refine mt_any (fun _ => ?_) (fun _ => ?_)) <;> (conv => whnf)))
        ((with_reducible apply rd_intro); (focus (intro K hK; (conv => whnf); exact ⟨by decide, [.int .i64 x], rfl, hK⟩)); (conv => whnf))
        repeat' (first | ((with_reducible apply rd_intro); (focus (intro K hK; (conv => whnf); first | exact hK | (intro z hz; rw [wrapI (by omega)] at hz; subst hz; exact hK))); (conv => whnf)) | ((with_reducible apply gd_and); (focus ((conv => whnf); first | rfl | (intro K hK; (conv => whnf); first | exact hK | (intro z hz; rw [wrapI (by omega)] at hz; subst hz; exact hK)))); (conv => whnf)) | ((with_reducible apply z_wrap); (focus omega); (conv => whnf)) | ((with_reducible refine mt_dec (fun _ => ?_) (fun _ => ?_)) <;> (conv => whnf)) | ((with_reducible refine mt_eq (fun _ => ?_) (fun _ => ?_)) <;> (conv => whnf)) | ((with_reducible refine mt_ne (fun _ => ?_) (fun _ => ?_)) <;> (conv => whnf)) | ((with_reducible refine mt_not (fun _ => ?_) (fun _ => ?_)) <;> (conv => whnf)) | ((with_reducible refine mt_any (fun _ => ?_) (fun _ => ?_)) <;> (conv => whnf)))
        ((with_reducible apply rd_intro); (focus (intro K hK; (conv => whnf); exact ⟨by decide, by omega, by omega, hK⟩)); (conv => whnf))
        repeat' (first | ((with_reducible apply rd_intro); (focus (intro K hK; (conv => whnf); first | exact hK | (intro z hz; rw [wrapI (by omega)] at hz; subst hz; exact hK))); (conv => whnf)) | ((with_reducible apply gd_and); (focus ((conv => whnf); first | rfl | (intro K hK; (conv => whnf); first | exact hK | (intro z hz; rw [wrapI (by omega)] at hz; subst hz; exact hK)))); (conv => whnf)) | ((with_reducible apply z_wrap); (focus omega); (conv => whnf)) | ((with_reducible refine mt_dec (fun _ => ?_) (fun _ => ?_)) <;> (conv => whnf)) | ((with_reducible refine mt_eq (fun _ => ?_) (fun _ => ?_)) <;> (conv => whnf)) | ((with_reducible refine mt_ne (fun _ => ?_) (fun _ => ?_)) <;> (conv => whnf)) | ((with_reducible refine mt_not (fun _ => ?_) (fun _ => ?_)) <;> (conv => whnf)) | ((with_reducible refine mt_any (fun _ => ?_) (fun _ => ?_)) <;> (conv => whnf)))
        rw [show ((nums (x :: r)).take ((nums (x :: r)).length : Int).toNat).drop (Int.toNat 1) = nums r from nums_tail x r]
        refine (modulo_ok x 3 (by decide) (by decide) hx).mono ?_
        rintro _ _ ⟨rfl, rfl⟩
        conv => whnf
        have hneD : ¬ g.dat.safe = g.dat.seen := hne
        have hl1 : g.safe.length ≤ 1048576 := (hd.ok.len g.dat (mem_getN hget)).2
        have hl2 : g.seen.length ≤ 1048576 := (hd.ok.len g.dat (mem_getN hget)).1
        repeat' (first | ((with_reducible apply rd_intro); (focus (intro K hK; (conv => whnf); first | exact hK | (intro z hz; rw [wrapI (by omega)] at hz; subst hz; exact hK))); (conv => whnf)) | ((with_reducible apply gd_and); (focus ((conv => whnf); first | rfl | (intro K hK; (conv => whnf); first | exact hK | (intro z hz; rw [wrapI (by omega)] at hz; subst hz; exact hK)))); (conv => whnf)) | ((with_reducible apply z_wrap); (focus omega); (conv => whnf)) | ((with_reducible refine mt_dec (fun _ => ?_) (fun _ => ?_)) <;> (conv => whnf)) | ((with_reducible refine mt_eq (fun _ => ?_) (fun _ => ?_)) <;> (conv => whnf)) | ((with_reducible refine mt_ne (fun _ => ?_) (fun _ => ?_)) <;> (conv => whnf)) | ((with_reducible refine mt_not (fun _ => ?_) (fun _ => ?_)) <;> (conv => whnf)) | ((with_reducible refine mt_any (fun _ => ?_) (fun _ => ?_)) <;> (conv => whnf)))
        · rename_i hh
          have hst : stepC g.dat (crashAt (pickFs ss d.dat.fs) picks k).2 = (g.safe, r) := by
            rw [hq, stepC, if_neg hneD, if_pos (show headP (x :: r) % 3 = 0 from hh)]; rfl
          refine ⟨g.cs, box_at (findF_mem hgf), ?_⟩
          conv => whnf
          repeat' (first | ((with_reducible apply rd_intro); (focus (intro K hK; (conv => whnf); first | exact hK | (intro z hz; rw [wrapI (by omega)] at hz; subst hz; exact hK))); (conv => whnf)) | ((with_reducible apply gd_and); (focus ((conv => whnf); first | rfl | (intro K hK; (conv => whnf); first | exact hK | (intro z hz; rw [wrapI (by omega)] at hz; subst hz; exact hK)))); (conv => whnf)) | ((with_reducible apply z_wrap); (focus omega); (conv => whnf)) | ((with_reducible refine mt_dec (fun _ => ?_) (fun _ => ?_)) <;> (conv => whnf)) | ((with_reducible refine mt_eq (fun _ => ?_) (fun _ => ?_)) <;> (conv => whnf)) | ((with_reducible refine mt_ne (fun _ => ?_) (fun _ => ?_)) <;> (conv => whnf)) | ((with_reducible refine mt_not (fun _ => ?_) (fun _ => ?_)) <;> (conv => whnf)) | ((with_reducible refine mt_any (fun _ => ?_) (fun _ => ?_)) <;> (conv => whnf)))
          ((with_reducible refine (clone_ok g.safe (by omega)).mono ?_); rintro _ _ ⟨rfl, rfl⟩; (conv => whnf))
          repeat' (first | ((with_reducible apply rd_intro); (focus (intro K hK; (conv => whnf); first | exact hK | (intro z hz; rw [wrapI (by omega)] at hz; subst hz; exact hK))); (conv => whnf)) | ((with_reducible apply gd_and); (focus ((conv => whnf); first | rfl | (intro K hK; (conv => whnf); first | exact hK | (intro z hz; rw [wrapI (by omega)] at hz; subst hz; exact hK)))); (conv => whnf)) | ((with_reducible apply z_wrap); (focus omega); (conv => whnf)) | ((with_reducible refine mt_dec (fun _ => ?_) (fun _ => ?_)) <;> (conv => whnf)) | ((with_reducible refine mt_eq (fun _ => ?_) (fun _ => ?_)) <;> (conv => whnf)) | ((with_reducible refine mt_ne (fun _ => ?_) (fun _ => ?_)) <;> (conv => whnf)) | ((with_reducible refine mt_not (fun _ => ?_) (fun _ => ?_)) <;> (conv => whnf)) | ((with_reducible refine mt_any (fun _ => ?_) (fun _ => ?_)) <;> (conv => whnf)))
          refine ⟨by have := crash_length (fs := pickFs ss d.dat.fs) (picks := picks) (show k ≤ (pickFs ss d.dat.fs).length by omega); rw [List.length_map, this]; simp only [List.length_cons, List.length_nil]; omega, ?_⟩
          conv => whnf
          repeat' (first | ((with_reducible apply rd_intro); (focus (intro K hK; (conv => whnf); first | exact hK | (intro z hz; rw [wrapI (by omega)] at hz; subst hz; exact hK))); (conv => whnf)) | ((with_reducible apply gd_and); (focus ((conv => whnf); first | rfl | (intro K hK; (conv => whnf); first | exact hK | (intro z hz; rw [wrapI (by omega)] at hz; subst hz; exact hK)))); (conv => whnf)) | ((with_reducible apply z_wrap); (focus omega); (conv => whnf)) | ((with_reducible refine mt_dec (fun _ => ?_) (fun _ => ?_)) <;> (conv => whnf)) | ((with_reducible refine mt_eq (fun _ => ?_) (fun _ => ?_)) <;> (conv => whnf)) | ((with_reducible refine mt_ne (fun _ => ?_) (fun _ => ?_)) <;> (conv => whnf)) | ((with_reducible refine mt_not (fun _ => ?_) (fun _ => ?_)) <;> (conv => whnf)) | ((with_reducible refine mt_any (fun _ => ?_) (fun _ => ?_)) <;> (conv => whnf)))
          refine ⟨k + 1, ?_, ?_, by omega, by omega⟩
          · rw [crashAt_succ hff, hst]; rfl
          · rw [crashAt_succ hff, hst, List.map_append]; rfl
        · rename_i hh hh2
          have hst : stepC g.dat (crashAt (pickFs ss d.dat.fs) picks k).2 = (tornL g.safe g.seen (x / 3), r) := by
            rw [hq, stepC, if_neg hneD, if_neg (show ¬ headP (x :: r) % 3 = 0 from hh), if_pos (show headP (x :: r) % 3 = 2 from hh2)]; rfl
          refine (torn_ok d.fs g (findF_mem hgf) hl1 hl2 hne (x / 3) (by omega)).mono ?_
          rintro _ _ ⟨rfl, rfl⟩
          conv => whnf
          repeat' (first | ((with_reducible apply rd_intro); (focus (intro K hK; (conv => whnf); first | exact hK | (intro z hz; rw [wrapI (by omega)] at hz; subst hz; exact hK))); (conv => whnf)) | ((with_reducible apply gd_and); (focus ((conv => whnf); first | rfl | (intro K hK; (conv => whnf); first | exact hK | (intro z hz; rw [wrapI (by omega)] at hz; subst hz; exact hK)))); (conv => whnf)) | ((with_reducible apply z_wrap); (focus omega); (conv => whnf)) | ((with_reducible refine mt_dec (fun _ => ?_) (fun _ => ?_)) <;> (conv => whnf)) | ((with_reducible refine mt_eq (fun _ => ?_) (fun _ => ?_)) <;> (conv => whnf)) | ((with_reducible refine mt_ne (fun _ => ?_) (fun _ => ?_)) <;> (conv => whnf)) | ((with_reducible refine mt_not (fun _ => ?_) (fun _ => ?_)) <;> (conv => whnf)) | ((with_reducible refine mt_any (fun _ => ?_) (fun _ => ?_)) <;> (conv => whnf)))
          ((with_reducible refine (clone_ok (tornL g.safe g.seen (x / 3)) (by unfold tornL; rw [List.length_take]; omega)).mono ?_); rintro _ _ ⟨rfl, rfl⟩; (conv => whnf))
          repeat' (first | ((with_reducible apply rd_intro); (focus (intro K hK; (conv => whnf); first | exact hK | (intro z hz; rw [wrapI (by omega)] at hz; subst hz; exact hK))); (conv => whnf)) | ((with_reducible apply gd_and); (focus ((conv => whnf); first | rfl | (intro K hK; (conv => whnf); first | exact hK | (intro z hz; rw [wrapI (by omega)] at hz; subst hz; exact hK)))); (conv => whnf)) | ((with_reducible apply z_wrap); (focus omega); (conv => whnf)) | ((with_reducible refine mt_dec (fun _ => ?_) (fun _ => ?_)) <;> (conv => whnf)) | ((with_reducible refine mt_eq (fun _ => ?_) (fun _ => ?_)) <;> (conv => whnf)) | ((with_reducible refine mt_ne (fun _ => ?_) (fun _ => ?_)) <;> (conv => whnf)) | ((with_reducible refine mt_not (fun _ => ?_) (fun _ => ?_)) <;> (conv => whnf)) | ((with_reducible refine mt_any (fun _ => ?_) (fun _ => ?_)) <;> (conv => whnf)))
          refine ⟨by have := crash_length (fs := pickFs ss d.dat.fs) (picks := picks) (show k ≤ (pickFs ss d.dat.fs).length by omega); rw [List.length_map, this]; simp only [List.length_cons, List.length_nil]; omega, ?_⟩
          conv => whnf
          repeat' (first | ((with_reducible apply rd_intro); (focus (intro K hK; (conv => whnf); first | exact hK | (intro z hz; rw [wrapI (by omega)] at hz; subst hz; exact hK))); (conv => whnf)) | ((with_reducible apply gd_and); (focus ((conv => whnf); first | rfl | (intro K hK; (conv => whnf); first | exact hK | (intro z hz; rw [wrapI (by omega)] at hz; subst hz; exact hK)))); (conv => whnf)) | ((with_reducible apply z_wrap); (focus omega); (conv => whnf)) | ((with_reducible refine mt_dec (fun _ => ?_) (fun _ => ?_)) <;> (conv => whnf)) | ((with_reducible refine mt_eq (fun _ => ?_) (fun _ => ?_)) <;> (conv => whnf)) | ((with_reducible refine mt_ne (fun _ => ?_) (fun _ => ?_)) <;> (conv => whnf)) | ((with_reducible refine mt_not (fun _ => ?_) (fun _ => ?_)) <;> (conv => whnf)) | ((with_reducible refine mt_any (fun _ => ?_) (fun _ => ?_)) <;> (conv => whnf)))
          refine ⟨k + 1, ?_, ?_, by omega, by omega⟩
          · rw [crashAt_succ hff, hst]; rfl
          · rw [crashAt_succ hff, hst, List.map_append]; rfl
        · rename_i hh hh2
          have hst : stepC g.dat (crashAt (pickFs ss d.dat.fs) picks k).2 = (g.seen, r) := by
            rw [hq, stepC, if_neg hneD, if_neg (show ¬ headP (x :: r) % 3 = 0 from hh), if_neg (show ¬ headP (x :: r) % 3 = 2 from hh2)]; rfl
          ((with_reducible refine (clone_ok g.seen (by omega)).mono ?_); rintro _ _ ⟨rfl, rfl⟩; (conv => whnf))
          repeat' (first | ((with_reducible apply rd_intro); (focus (intro K hK; (conv => whnf); first | exact hK | (intro z hz; rw [wrapI (by omega)] at hz; subst hz; exact hK))); (conv => whnf)) | ((with_reducible apply gd_and); (focus ((conv => whnf); first | rfl | (intro K hK; (conv => whnf); first | exact hK | (intro z hz; rw [wrapI (by omega)] at hz; subst hz; exact hK)))); (conv => whnf)) | ((with_reducible apply z_wrap); (focus omega); (conv => whnf)) | ((with_reducible refine mt_dec (fun _ => ?_) (fun _ => ?_)) <;> (conv => whnf)) | ((with_reducible refine mt_eq (fun _ => ?_) (fun _ => ?_)) <;> (conv => whnf)) | ((with_reducible refine mt_ne (fun _ => ?_) (fun _ => ?_)) <;> (conv => whnf)) | ((with_reducible refine mt_not (fun _ => ?_) (fun _ => ?_)) <;> (conv => whnf)) | ((with_reducible refine mt_any (fun _ => ?_) (fun _ => ?_)) <;> (conv => whnf)))
          refine ⟨by have := crash_length (fs := pickFs ss d.dat.fs) (picks := picks) (show k ≤ (pickFs ss d.dat.fs).length by omega); rw [List.length_map, this]; simp only [List.length_cons, List.length_nil]; omega, ?_⟩
          conv => whnf
          repeat' (first | ((with_reducible apply rd_intro); (focus (intro K hK; (conv => whnf); first | exact hK | (intro z hz; rw [wrapI (by omega)] at hz; subst hz; exact hK))); (conv => whnf)) | ((with_reducible apply gd_and); (focus ((conv => whnf); first | rfl | (intro K hK; (conv => whnf); first | exact hK | (intro z hz; rw [wrapI (by omega)] at hz; subst hz; exact hK)))); (conv => whnf)) | ((with_reducible apply z_wrap); (focus omega); (conv => whnf)) | ((with_reducible refine mt_dec (fun _ => ?_) (fun _ => ?_)) <;> (conv => whnf)) | ((with_reducible refine mt_eq (fun _ => ?_) (fun _ => ?_)) <;> (conv => whnf)) | ((with_reducible refine mt_ne (fun _ => ?_) (fun _ => ?_)) <;> (conv => whnf)) | ((with_reducible refine mt_not (fun _ => ?_) (fun _ => ?_)) <;> (conv => whnf)) | ((with_reducible refine mt_any (fun _ => ?_) (fun _ => ?_)) <;> (conv => whnf)))
          refine ⟨k + 1, ?_, ?_, by omega, by omega⟩
          · rw [crashAt_succ hff, hst]; rfl
          · rw [crashAt_succ hff, hst, List.map_append]; rfl
      · rename_i h1 h2
        have hne : g.safe ≠ g.seen := by simp at h1; exact h1
        have hq : (crashAt (pickFs ss d.dat.fs) picks k).2 = [] := by
          cases hc : (crashAt (pickFs ss d.dat.fs) picks k).2 with
          | nil => rfl
          | cons x r => rw [hc] at h2; simp [nums] at h2
        rw [hq]
        refine (modulo_ok 0 3 (by decide) (by decide) (by decide)).mono ?_
        rintro _ _ ⟨rfl, rfl⟩
        conv => whnf
        have hneD : ¬ g.dat.safe = g.dat.seen := hne
        have hl1 : g.safe.length ≤ 1048576 := (hd.ok.len g.dat (mem_getN hget)).2
        have hl2 : g.seen.length ≤ 1048576 := (hd.ok.len g.dat (mem_getN hget)).1
        repeat' (first | ((with_reducible apply rd_intro); (focus (intro K hK; (conv => whnf); first | exact hK | (intro z hz; rw [wrapI (by omega)] at hz; subst hz; exact hK))); (conv => whnf)) | ((with_reducible apply gd_and); (focus ((conv => whnf); first | rfl | (intro K hK; (conv => whnf); first | exact hK | (intro z hz; rw [wrapI (by omega)] at hz; subst hz; exact hK)))); (conv => whnf)) | ((with_reducible apply z_wrap); (focus omega); (conv => whnf)) | ((with_reducible refine mt_dec (fun _ => ?_) (fun _ => ?_)) <;> (conv => whnf)) | ((with_reducible refine mt_eq (fun _ => ?_) (fun _ => ?_)) <;> (conv => whnf)) | ((with_reducible refine mt_ne (fun _ => ?_) (fun _ => ?_)) <;> (conv => whnf)) | ((with_reducible refine mt_not (fun _ => ?_) (fun _ => ?_)) <;> (conv => whnf)) | ((with_reducible refine mt_any (fun _ => ?_) (fun _ => ?_)) <;> (conv => whnf)))
        have hst : stepC g.dat (crashAt (pickFs ss d.dat.fs) picks k).2 = (g.safe, []) := by
          rw [hq, stepC, if_neg hneD, if_pos (show headP ([] : List Int) % 3 = 0 from rfl)]; rfl
        refine ⟨g.cs, box_at (findF_mem hgf), ?_⟩
        conv => whnf
        repeat' (first | ((with_reducible apply rd_intro); (focus (intro K hK; (conv => whnf); first | exact hK | (intro z hz; rw [wrapI (by omega)] at hz; subst hz; exact hK))); (conv => whnf)) | ((with_reducible apply gd_and); (focus ((conv => whnf); first | rfl | (intro K hK; (conv => whnf); first | exact hK | (intro z hz; rw [wrapI (by omega)] at hz; subst hz; exact hK)))); (conv => whnf)) | ((with_reducible apply z_wrap); (focus omega); (conv => whnf)) | ((with_reducible refine mt_dec (fun _ => ?_) (fun _ => ?_)) <;> (conv => whnf)) | ((with_reducible refine mt_eq (fun _ => ?_) (fun _ => ?_)) <;> (conv => whnf)) | ((with_reducible refine mt_ne (fun _ => ?_) (fun _ => ?_)) <;> (conv => whnf)) | ((with_reducible refine mt_not (fun _ => ?_) (fun _ => ?_)) <;> (conv => whnf)) | ((with_reducible refine mt_any (fun _ => ?_) (fun _ => ?_)) <;> (conv => whnf)))
        ((with_reducible refine (clone_ok g.safe (by omega)).mono ?_); rintro _ _ ⟨rfl, rfl⟩; (conv => whnf))
        repeat' (first | ((with_reducible apply rd_intro); (focus (intro K hK; (conv => whnf); first | exact hK | (intro z hz; rw [wrapI (by omega)] at hz; subst hz; exact hK))); (conv => whnf)) | ((with_reducible apply gd_and); (focus ((conv => whnf); first | rfl | (intro K hK; (conv => whnf); first | exact hK | (intro z hz; rw [wrapI (by omega)] at hz; subst hz; exact hK)))); (conv => whnf)) | ((with_reducible apply z_wrap); (focus omega); (conv => whnf)) | ((with_reducible refine mt_dec (fun _ => ?_) (fun _ => ?_)) <;> (conv => whnf)) | ((with_reducible refine mt_eq (fun _ => ?_) (fun _ => ?_)) <;> (conv => whnf)) | ((with_reducible refine mt_ne (fun _ => ?_) (fun _ => ?_)) <;> (conv => whnf)) | ((with_reducible refine mt_not (fun _ => ?_) (fun _ => ?_)) <;> (conv => whnf)) | ((with_reducible refine mt_any (fun _ => ?_) (fun _ => ?_)) <;> (conv => whnf)))
        refine ⟨by have := crash_length (fs := pickFs ss d.dat.fs) (picks := picks) (show k ≤ (pickFs ss d.dat.fs).length by omega); rw [List.length_map, this]; simp only [List.length_cons, List.length_nil]; omega, ?_⟩
        conv => whnf
        repeat' (first | ((with_reducible apply rd_intro); (focus (intro K hK; (conv => whnf); first | exact hK | (intro z hz; rw [wrapI (by omega)] at hz; subst hz; exact hK))); (conv => whnf)) | ((with_reducible apply gd_and); (focus ((conv => whnf); first | rfl | (intro K hK; (conv => whnf); first | exact hK | (intro z hz; rw [wrapI (by omega)] at hz; subst hz; exact hK)))); (conv => whnf)) | ((with_reducible apply z_wrap); (focus omega); (conv => whnf)) | ((with_reducible refine mt_dec (fun _ => ?_) (fun _ => ?_)) <;> (conv => whnf)) | ((with_reducible refine mt_eq (fun _ => ?_) (fun _ => ?_)) <;> (conv => whnf)) | ((with_reducible refine mt_ne (fun _ => ?_) (fun _ => ?_)) <;> (conv => whnf)) | ((with_reducible refine mt_not (fun _ => ?_) (fun _ => ?_)) <;> (conv => whnf)) | ((with_reducible refine mt_any (fun _ => ?_) (fun _ => ?_)) <;> (conv => whnf)))
        refine ⟨k + 1, ?_, ?_, by omega, by omega⟩
        · rw [crashAt_succ hff, hst]; rfl
        · rw [crashAt_succ hff, hst, List.map_append]; rfl
      · have hlen : g.seen.length ≤ 1048576 := (hd.ok.len g.dat (mem_getN hget)).1
        have heq : g.dat.safe = g.dat.seen := by rename_i h1; simp at h1; exact h1
        have hst : stepC g.dat (crashAt (pickFs ss d.dat.fs) picks k).2 = (g.seen, (crashAt (pickFs ss d.dat.fs) picks k).2) := by rw [stepC, if_pos heq]; rfl
        ((with_reducible refine (clone_ok g.seen (by omega)).mono ?_); rintro _ _ ⟨rfl, rfl⟩; (conv => whnf))
        repeat' (first | ((with_reducible apply rd_intro); (focus (intro K hK; (conv => whnf); first | exact hK | (intro z hz; rw [wrapI (by omega)] at hz; subst hz; exact hK))); (conv => whnf)) | ((with_reducible apply gd_and); (focus ((conv => whnf); first | rfl | (intro K hK; (conv => whnf); first | exact hK | (intro z hz; rw [wrapI (by omega)] at hz; subst hz; exact hK)))); (conv => whnf)) | ((with_reducible apply z_wrap); (focus omega); (conv => whnf)) | ((with_reducible refine mt_dec (fun _ => ?_) (fun _ => ?_)) <;> (conv => whnf)) | ((with_reducible refine mt_eq (fun _ => ?_) (fun _ => ?_)) <;> (conv => whnf)) | ((with_reducible refine mt_ne (fun _ => ?_) (fun _ => ?_)) <;> (conv => whnf)) | ((with_reducible refine mt_not (fun _ => ?_) (fun _ => ?_)) <;> (conv => whnf)) | ((with_reducible refine mt_any (fun _ => ?_) (fun _ => ?_)) <;> (conv => whnf)))
        refine ⟨by have := crash_length (fs := pickFs ss d.dat.fs) (picks := picks) (show k ≤ (pickFs ss d.dat.fs).length by omega); rw [List.length_map, this]; simp only [List.length_cons, List.length_nil]; omega, ?_⟩
        conv => whnf
        repeat' (first | ((with_reducible apply rd_intro); (focus (intro K hK; (conv => whnf); first | exact hK | (intro z hz; rw [wrapI (by omega)] at hz; subst hz; exact hK))); (conv => whnf)) | ((with_reducible apply gd_and); (focus ((conv => whnf); first | rfl | (intro K hK; (conv => whnf); first | exact hK | (intro z hz; rw [wrapI (by omega)] at hz; subst hz; exact hK)))); (conv => whnf)) | ((with_reducible apply z_wrap); (focus omega); (conv => whnf)) | ((with_reducible refine mt_dec (fun _ => ?_) (fun _ => ?_)) <;> (conv => whnf)) | ((with_reducible refine mt_eq (fun _ => ?_) (fun _ => ?_)) <;> (conv => whnf)) | ((with_reducible refine mt_ne (fun _ => ?_) (fun _ => ?_)) <;> (conv => whnf)) | ((with_reducible refine mt_not (fun _ => ?_) (fun _ => ?_)) <;> (conv => whnf)) | ((with_reducible refine mt_any (fun _ => ?_) (fun _ => ?_)) <;> (conv => whnf)))
        refine ⟨k + 1, ?_, ?_, by omega, by omega⟩
        · rw [crashAt_succ hff, hst]; rfl
        · rw [crashAt_succ hff, hst, List.map_append]; rfl
    · conv => whnf
      obtain rfl : k = ss.length := by omega
      exact ⟨ss, hss', hr, rfl, rfl⟩
end Go.Proofs.Ytpedbknmkgcldaa

namespace Go.Proofs.Ytpedbknmkgcldaa
open Go.Ab Go.RowKit
def nK : ByteArray := ⟨#[107, 101, 112, 116]⟩
def keepL : List UInt8 := [107, 101, 112, 116, 32, 102, 111, 114, 32, 101, 118, 101, 114, 44, 32, 119, 104, 97, 116, 101, 118, 101, 114, 32, 101, 108, 115, 101, 32, 116, 104, 101, 114, 101, 32, 105, 115, 44, 32, 97, 110, 100, 32, 109, 111, 114, 101, 32, 116, 104, 97, 110, 32, 111, 110, 101, 32, 115, 101, 99, 116, 111, 114, 32, 108, 111, 110, 103, 44, 32, 97, 115, 32, 105, 116, 32, 119, 97, 115, 32, 115, 121, 110, 99, 101, 100]
theorem keep_len : keepL.length = 86 := rfl
structure DD.kept (d : DD) : Prop where
  fine : d.fine
  on : d.off = false
  u : d.upto = 0
  k : getN nK d.fs = some ⟨nK, keepL, keepL⟩
theorem getN_upd {n m : ByteArray} {g : FD → FD} (hg : ∀ f, (g f).name = f.name) (h : n ≠ m) : ∀ fs : List FD, getN m (updN n g fs) = getN m fs
  | [] => rfl
  | x :: r => by
    simp only [updN]
    by_cases e : n = x.name
    · rw [if_pos e]
      have h1 : ¬ m = x.name := fun e2 => h (e.trans e2.symm)
      have h2 : ¬ m = (g x).name := by rw [hg]; exact h1
      simp only [getN, if_neg h1, if_neg h2]
    · rw [if_neg e]
      simp only [getN, getN_upd hg h r]
theorem getN_updC {n m : ByteArray} {g : FD} (hg : g.name = n) (h : n ≠ m) : ∀ fs : List FD, getN m (updN n (fun _ => g) fs) = getN m fs
  | [] => rfl
  | x :: r => by
    simp only [updN]
    by_cases e : n = x.name
    · rw [if_pos e]
      have h1 : ¬ m = x.name := fun e2 => h (e.trans e2.symm)
      have h2 : ¬ m = g.name := by rw [hg]; exact fun e2 => h e2.symm
      simp only [getN, if_neg h1, if_neg h2]
    · rw [if_neg e]
      simp only [getN, getN_updC hg h r]
theorem getN_delO {n m : ByteArray} (h : n ≠ m) : ∀ fs : List FD, getN m (delN n fs) = getN m fs
  | [] => rfl
  | x :: r => by
    simp only [delN]
    by_cases e : n = x.name
    · rw [if_pos e]
      have h1 : ¬ m = x.name := fun e2 => h (e.trans e2.symm)
      simp only [getN, if_neg h1]
    · rw [if_neg e]
      simp only [getN, getN_delO h r]
theorem getN_app {m : ByteArray} {g : FD} (h : g.name ≠ m) : ∀ fs : List FD, getN m (fs ++ [g]) = getN m fs
  | [] => by simp only [List.nil_append, getN, if_neg (fun e : m = g.name => h e.symm)]
  | x :: r => by simp only [List.cons_append, getN, getN_app h r]
theorem getN_setO {m : ByteArray} {g : FD} (h : g.name ≠ m) (fs : List FD) : getN m (setN g fs) = getN m fs := by
  unfold setN
  split
  · exact getN_app h fs
  · exact getN_updC rfl h fs
theorem DD.kept.spend {d : DD} (h : d.kept) : d.spend.kept := ⟨h.fine.spend, by simp [DD.spend, h.on, h.u], h.u, h.k⟩
theorem DD.kept.append {d : DD} (h : d.kept) {n : ByteArray} (hn : n ≠ nK) (b : List UInt8) : (d.append n b).2.kept := by
  have hf := h.fine.append n b
  revert hf
  unfold DD.append
  split
  · exact fun _ => h
  split
  · exact fun _ => h.spend
  split
  · split
    · exact fun _ => h.spend
    split
    · exact fun _ => h.spend
    · exact fun hf => ⟨hf, h.spend.on, h.u, (getN_app hn _).trans h.k⟩
  · split
    · exact fun _ => h.spend
    · exact fun hf => ⟨hf, h.spend.on, h.u, (getN_upd (g := fun f => { f with seen := f.seen ++ b }) (fun _ => rfl) hn d.fs).trans h.k⟩
theorem DD.kept.sync {d : DD} (h : d.kept) {n : ByteArray} (hn : n ≠ nK) : (d.sync n).2.kept := by
  have hf := h.fine.sync n
  revert hf
  unfold DD.sync
  split
  · exact fun _ => h
  split
  · exact fun _ => h.spend
  split
  · exact fun _ => h.spend
  · exact fun hf => ⟨hf, h.spend.on, h.u, (getN_upd (g := fun f => { f with safe := f.seen }) (fun _ => rfl) hn d.fs).trans h.k⟩
theorem DD.kept.cut {d : DD} (h : d.kept) {n : ByteArray} (hn : n ≠ nK) (k : Int) : (d.cut n k).2.kept := by
  have hf := h.fine.cut n k
  revert hf
  unfold DD.cut
  split
  · exact fun _ => h
  split
  · exact fun _ => h.spend
  split
  · exact fun _ => h.spend
  split
  · exact fun _ => h.spend
  · exact fun hf => ⟨hf, h.spend.on, h.u, (getN_upd (g := fun f => { f with seen := f.seen.take k.toNat }) (fun _ => rfl) hn d.fs).trans h.k⟩
theorem DD.kept.remove {d : DD} (h : d.kept) {n : ByteArray} (hn : n ≠ nK) : (d.remove n).2.kept := by
  have hf := h.fine.remove n
  revert hf
  unfold DD.remove
  split
  · exact fun _ => h
  split
  · exact fun _ => h.spend
  split
  · exact fun _ => h.spend
  · exact fun hf => ⟨hf, h.spend.on, h.u, (getN_delO hn _).trans h.k⟩
theorem DD.kept.rename {d : DD} (h : d.kept) {n t : ByteArray} (hn : n ≠ nK) (ht : t ≠ nK) : (d.rename n t).2.kept := by
  have hf := h.fine.rename n t
  revert hf
  unfold DD.rename
  split
  · exact fun _ => h
  split
  · exact fun _ => h.spend
  split
  · exact fun _ => h.spend
  · exact fun hf => ⟨hf, h.spend.on, h.u, ((getN_setO ht _).trans (getN_delO hn _)).trans h.k⟩
/-! the files of a crash -/
theorem crash_names {fs : List FD} {picks : List Int} : ∀ {k : Nat}, k ≤ fs.length → (crashAt fs picks k).1.map FileS.name = (fs.take k).map FD.name
  | 0, _ => rfl
  | k + 1, h => by
    have hf := List.getElem?_eq_getElem (show k < fs.length by omega)
    rw [crashAt_succ hf, List.take_add_one, hf, List.map_append, List.map_append, crash_names (show k ≤ fs.length by omega)]
    rfl
theorem step_len {f : FD} {picks : List Int} {m : Nat} (h1 : f.safe.length ≤ m) (h2 : f.seen.length ≤ m) : (stepC f picks).1.length ≤ m := by
  unfold stepC
  split
  · exact h2
  · show (if _ then _ else _ : List UInt8).length ≤ m
    split
    · exact h1
    · split
      · unfold tornL; rw [List.length_take]; omega
      · exact h2
theorem crash_len {fs : List FD} {picks : List Int} {m : Nat} (h : ∀ f ∈ fs, f.safe.length ≤ m ∧ f.seen.length ≤ m) : ∀ {k : Nat}, ∀ x ∈ (crashAt fs picks k).1, x.data.length ≤ m
  | 0, x, hx => by cases hx
  | k + 1, x, hx => by
    cases hf : fs[k]? with
    | none => simp only [crashAt, hf] at hx; exact crash_len h x hx
    | some f =>
      rw [crashAt_succ hf] at hx
      rcases List.mem_append.1 hx with hx | hx
      · exact crash_len h x hx
      · simp only [List.mem_singleton] at hx
        subst hx
        have := h f (List.mem_of_getElem? hf)
        exact step_len this.1 this.2
theorem crash_same_mem {fs : List FD} {picks : List Int} {f : FD} (hs : f.safe = f.seen) {j : Nat} (hj : fs[j]? = some f) : ∀ {k : Nat}, j < k → (⟨f.name, f.seen⟩ : FileS) ∈ (crashAt fs picks k).1
  | 0, h => by omega
  | k + 1, h => by
    by_cases e : j = k
    · subst e
      rw [crashAt_succ hj]
      apply List.mem_append_right
      have : (stepC f (crashAt fs picks j).2).1 = f.seen := by rw [stepC, if_pos hs]
      rw [this]
      exact List.mem_singleton.2 rfl
    · have ih := crash_same_mem (picks := picks) hs hj (k := k) (by omega)
      cases hf : fs[k]? with
      | none => simp only [crashAt, hf]; exact ih
      | some g => rw [crashAt_succ hf]; exact List.mem_append_left _ ih
theorem mayNew_of {l : List FileS} (h1 : ∀ f ∈ l, goodS f.name = true) (h2 : ∀ f ∈ l, f.data.length ≤ 1048576) (h3 : risingS (l.map FileS.name)) (h4 : l.length ≤ 16) : mayNew l = true := by
  unfold mayNew
  rw [decide_eq_true h4, Bool.and_true, List.all_eq_true]
  intro k hk
  rw [List.mem_range] at hk
  obtain ⟨f, hf⟩ : ∃ f, l[k]? = some f := ⟨_, List.getElem?_eq_getElem hk⟩
  rw [mayAt_eq hf, h1 f (List.mem_of_getElem? hf), decide_eq_true (h2 f (List.mem_of_getElem? hf))]
  by_cases h0 : k = 0
  · simp [h0]
  · obtain ⟨g, hg⟩ : ∃ g, l[k - 1]? = some g := ⟨_, List.getElem?_eq_getElem (by omega)⟩
    rw [prevLess_eq hg]
    have := (List.pairwise_iff_getElem.1 h3) (k - 1) k (by simp; omega) (by simpa using hk) (by omega)
    simp only [List.getElem_map] at this
    rw [(List.getElem?_eq_some_iff.1 hf).2, (List.getElem?_eq_some_iff.1 hg).2] at this
    simp [this]
/-- a new disk of such files -/
def newDD (l : List FileS) : DD := ⟨0, false, 0, l.map fun f => ⟨f.name, f.data, f.data⟩⟩
theorem newFl_dat {fs : List Fl} {l : List FileS} (h : newFl fs l) : (Dk.mk 0 false 0 fs).dat = newDD l := by
  unfold newFl at h
  have := congrArg (List.map fun x : ByteArray × List UInt8 × List UInt8 => FD.mk x.1 x.2.1 x.2.2) h
  simp only [List.map_map] at this
  exact congrArg (DD.mk 0 false 0) this
theorem rising_nodup {l : List ByteArray} (h : risingS l) : l.Nodup := by
  refine h.imp fun h => ?_
  intro e
  subst e
  rw [lessS_irr] at h; cases h
theorem newDD_fine {l : List FileS} (h1 : ∀ f ∈ l, goodS f.name = true) (h2 : ∀ f ∈ l, f.data.length ≤ 1048576) (h3 : risingS (l.map FileS.name)) (h4 : l.length ≤ 16) : (newDD l).fine := by
  refine ⟨⟨fun f hf => ?_⟩, ?_, fun f hf => ?_, by simpa [newDD] using h4⟩
  · obtain ⟨g, hg, rfl⟩ := List.mem_map.1 hf
    exact ⟨h2 g hg, h2 g hg⟩
  · have := rising_nodup h3
    simpa [newDD, Function.comp_def] using this
  · obtain ⟨g, hg, rfl⟩ := List.mem_map.1 hf
    exact h1 g hg
theorem crash_kept {d : DD} (h : d.kept) {ss : List ByteArray} (hs : ss.Perm (d.fs.map FD.name)) (hr : risingS ss) (picks : List Int) :
    let l := (crashAt (pickFs ss d.fs) picks ss.length).1
    mayNew l = true ∧ l.length = ss.length ∧ l.length ≤ 16 ∧ (∀ f ∈ l, f.data.length ≤ 1048576) ∧ (newDD l).kept := by
  have hmem : ∀ n ∈ ss, n ∈ d.fs.map FD.name := fun n hn => hs.subset hn
  have hpk : (pickFs ss d.fs).length = ss.length := by have := congrArg List.length (pick_names hmem); simpa using this
  have hperm := pick_perm h.fine.nd hs
  have hln : ss.length ≤ 16 := by have := hs.length_eq; have := h.fine.few; simp at *; omega
  intro l
  have hl : l.length = ss.length := crash_length (by omega)
  have hnames : l.map FileS.name = ss := by
    have := crash_names (fs := pickFs ss d.fs) (picks := picks) (k := ss.length) (by omega)
    rw [List.take_of_length_le (by omega), pick_names hmem] at this
    exact this
  have h2 : ∀ f ∈ l, f.data.length ≤ 1048576 := crash_len fun f hf => by
    have := h.fine.ok.len f (hperm.subset hf)
    exact ⟨this.2, this.1⟩
  have h1 : ∀ f ∈ l, goodS f.name = true := by
    intro f hf
    have : f.name ∈ ss := by rw [← hnames]; exact List.mem_map.2 ⟨f, hf, rfl⟩
    obtain ⟨g, hg, e⟩ := List.mem_map.1 (hmem _ this)
    rw [← e]; exact h.fine.good g hg
  have h3 : risingS (l.map FileS.name) := by rw [hnames]; exact hr
  have hfine := newDD_fine h1 h2 h3 (by omega)
  refine ⟨mayNew_of h1 h2 h3 (by omega), hl, by omega, h2, hfine, rfl, rfl, ?_⟩
  have hk : (⟨nK, keepL, keepL⟩ : FD) ∈ pickFs ss d.fs := hperm.symm.subset (mem_getN h.k)
  obtain ⟨j, hj⟩ := List.mem_iff_getElem?.1 hk
  have hjl := (List.getElem?_eq_some_iff.1 hj).1
  have hin : (⟨nK, keepL⟩ : FileS) ∈ l := crash_same_mem (f := ⟨nK, keepL, keepL⟩) rfl hj (k := ss.length) (by omega)
  exact getN_mem (f := ⟨nK, keepL, keepL⟩) hfine.nd (List.mem_map.2 ⟨_, hin, rfl⟩)
end Go.Proofs.Ytpedbknmkgcldaa

namespace Go.Proofs.Ytpedbknmkgcldaa
open Go.Ab Go.RowKit Go.MapKept
attribute [local irreducible] ACalls AW ADraw Into
set_option maxRecDepth 100000
theorem crash_may {d : DD} (hd : d.fine) {ss : List ByteArray} (hss : ss.Perm (d.fs.map FD.name)) (hrs : risingS ss) (picks : List Int) :
    let l := (crashAt (pickFs ss d.fs) picks ss.length).1
    mayNew l = true ∧ l.length ≤ 16 ∧ (∀ f ∈ l, f.data.length ≤ 1048576) ∧ (newDD l).fine := by
  intro l
  have hmem : ∀ n ∈ ss, n ∈ d.fs.map FD.name := fun n hn => hss.subset hn
  have hpn := pick_names hmem
  have hpk : (pickFs ss d.fs).length = ss.length := by have := congrArg List.length hpn; simpa using this
  have hln : ss.length ≤ 16 := by have := hss.length_eq; have := hd.few; simp at *; omega
  have hnames : l.map FileS.name = ss := by
    show (crashAt _ _ _).1.map FileS.name = ss
    rw [crash_names (by omega), ← hpk, List.take_length, hpn]
  have hlen : l.length = ss.length := by have := congrArg List.length hnames; simpa using this
  have hdat : ∀ f ∈ l, f.data.length ≤ 1048576 := crash_len (fun f hf => by
    unfold pickFs at hf
    obtain ⟨n, _, hg⟩ := List.mem_filterMap.1 hf
    have := hd.ok.len f (mem_getN hg)
    exact ⟨this.2, this.1⟩)
  have hgood : ∀ f ∈ l, goodS f.name = true := fun f hf => by
    have h1 : f.name ∈ ss := by rw [← hnames]; exact List.mem_map.2 ⟨f, hf, rfl⟩
    obtain ⟨g, hg, e⟩ := List.mem_map.1 (hmem _ h1)
    rw [← e]; exact hd.good g hg
  refine ⟨mayNew_of hgood hdat (by rw [hnames]; exact hrs) (by omega), by omega, hdat, ?_⟩
  refine ⟨⟨?_⟩, ?_, ?_, ?_⟩
  · intro f hf
    obtain ⟨g, hg, rfl⟩ := List.mem_map.1 hf
    exact ⟨hdat g hg, hdat g hg⟩
  · show ((l.map fun f => (⟨f.name, f.data, f.data⟩ : FD)).map FD.name).Nodup
    rw [List.map_map]
    show (l.map FileS.name).Nodup
    rw [hnames]
    exact rising_nodup hrs
  · intro f hf
    obtain ⟨g, hg, rfl⟩ := List.mem_map.1 hf
    exact hgood g hg
  · show (l.map _).length ≤ 16
    rw [List.length_map]; omega
def Dk.at2 (d : Dk) : List AB := [.cells [.d (.int .i64 d.calls), .d (.bool d.off), .d (.int .i64 d.upto), .map 3], .map (d.fs.map Fl.ent)]
theorem again_ok (d : Dk) (hd : d.dat.fine) (picks : List Int) (hp : ∀ k ∈ picks, -9223372036854775808 ≤ k ∧ k < 9223372036854775808) (hpl : picks.length ≤ 140737488355328) :
    ACalls Try.prog 51 [.ptr 0 0, .d (.sl 1 (nums picks))] d.L (fun av L => ∃ (ss : List ByteArray) (d2 : Dk), ss.Perm (d.dat.fs.map FD.name) ∧ risingS ss ∧ d2.dat = newDD (crashAt (pickFs ss d.dat.fs) picks ss.length).1 ∧ d2.dat.fine ∧ av = .ptr 2 0 ∧ L = d.L ++ d2.at2) := by
  refine acalls_go ttOk zOk foOk Try.func51 rfl Try.ntmps51 rfl true rfl ?_
  conv => whnf
  repeat' (first | ((with_reducible apply z_wrap); (focus omega); (conv => whnf)) | ((with_reducible refine mt_dec (fun _ => ?_) (fun _ => ?_)) <;> (conv => whnf)) | ((with_reducible refine mt_eq (fun _ => ?_) (fun _ => ?_)) <;> (conv => whnf)) | ((with_reducible refine mt_ne (fun _ => ?_) (fun _ => ?_)) <;> (conv => whnf)) | ((with_reducible refine mt_not (fun _ => ?_) (fun _ => ?_)) <;> (conv => whnf)) | ((with_reducible refine mt_any (fun _ => ?_) (fun _ => ?_)) <;> (conv => whnf)))
  refine (crash_ok d hd picks hp hpl).mono ?_
  rintro _ _ ⟨ss, hss, hrs, rfl, rfl⟩
  obtain ⟨hmay, hl16, hdl, hfine⟩ := crash_may hd hss hrs picks
  obtain ⟨l, hl⟩ : ∃ l, (crashAt (pickFs ss d.dat.fs) picks ss.length).1 = l := ⟨_, rfl⟩
  rw [hl] at hmay hl16 hdl hfine ⊢
  conv => whnf
  repeat' (first | ((with_reducible apply z_wrap); (focus omega); (conv => whnf)) | ((with_reducible refine mt_dec (fun _ => ?_) (fun _ => ?_)) <;> (conv => whnf)) | ((with_reducible refine mt_eq (fun _ => ?_) (fun _ => ?_)) <;> (conv => whnf)) | ((with_reducible refine mt_ne (fun _ => ?_) (fun _ => ?_)) <;> (conv => whnf)) | ((with_reducible refine mt_not (fun _ => ?_) (fun _ => ?_)) <;> (conv => whnf)) | ((with_reducible refine mt_any (fun _ => ?_) (fun _ => ?_)) <;> (conv => whnf)))
  refine (new_ok l (fun f hf => by have := hdl f hf; omega) (by omega)).mono ?_
  rintro _ _ ⟨hn1, _⟩
  obtain ⟨rfl, fs, rfl, hfs⟩ := hn1 hmay
  have hx := newFl_dat hfs
  clear hn1
  conv => whnf
  ((with_reducible refine (num10_ok 0).mono ?_); rintro _ _ ⟨rfl, rfl⟩; (conv => whnf))
  repeat' (first | ((with_reducible apply z_wrap); (focus omega); (conv => whnf)) | ((with_reducible refine mt_dec (fun _ => ?_) (fun _ => ?_)) <;> (conv => whnf)) | ((with_reducible refine mt_eq (fun _ => ?_) (fun _ => ?_)) <;> (conv => whnf)) | ((with_reducible refine mt_ne (fun _ => ?_) (fun _ => ?_)) <;> (conv => whnf)) | ((with_reducible refine mt_not (fun _ => ?_) (fun _ => ?_)) <;> (conv => whnf)) | ((with_reducible refine mt_any (fun _ => ?_) (fun _ => ?_)) <;> (conv => whnf)))
  exact ⟨ss, Dk.mk 0 false 0 fs, hss, hrs, by rw [hx, hl], by rw [hx]; exact hfine, rfl, rfl⟩
end Go.Proofs.Ytpedbknmkgcldaa

namespace Go.Proofs.Ytpedbknmkgcldaa
open Go.Ab Go.RowKit Go.MapKept
attribute [local irreducible] ACalls AW ADraw Into
set_option maxRecDepth 100000
def aS : ByteArray := ⟨#[97]⟩
theorem put_room {x : LS} {key val : ByteArray} (h1 : wsum x.recs + key.size + val.size + 20 ≤ 524288) (_h : badK key val = false) : ((recK kP key val).size : Int) + 16 ≤ 524288 - wsum x.recs := by
  have := rec_size kP key val
  have hk : kP.size = 1 := rfl
  omega
theorem put_ok_ok {x : LS} (hx : x.ok) {key val : ByteArray} (h1 : wsum x.recs + key.size + val.size + 20 ≤ 524288) (h : badK key val = false) : (x.put (recK kP key val)).ok := by
  have hs := rec_size kP key val
  have hk : kP.size = 1 := rfl
  have hb : goodK key = true ∧ ¬ (val.size : Int) > 4032 - key.size := by simpa [badK] using h
  have h32 : key.size ≤ 32 := by have := hb.1; simp [goodK] at this; omega
  exact LS.put_ok hx (by omega) (by omega)
set_option maxHeartbeats 4000000 in
theorem wakes11_ok : ACalls Try.prog 59 [] [] (fun av L => av = .d (.bool true) ∧ L = []) := by
  have w0 : wsum LS0.recs = 0 := rfl
  have a1 : aS.size = 1 := rfl
  have b1 : (⟨#[49]⟩ : ByteArray).size = 1 := rfl
  refine acalls_go ttOk zOk foOk Try.func59 rfl Try.ntmps59 rfl false rfl ?_
  conv => whnf
  ((with_reducible refine (disk10_ok).mono ?_); rintro _ _ ⟨rfl, rfl⟩; (conv => whnf))
  repeat' (first | ((with_reducible apply z_wrap); (focus omega); (conv => whnf)) | ((with_reducible refine mt_dec (fun _ => ?_) (fun _ => ?_)) <;> (conv => whnf)) | ((with_reducible refine mt_eq (fun _ => ?_) (fun _ => ?_)) <;> (conv => whnf)) | ((with_reducible refine mt_ne (fun _ => ?_) (fun _ => ?_)) <;> (conv => whnf)) | ((with_reducible refine mt_not (fun _ => ?_) (fun _ => ?_)) <;> (conv => whnf)) | ((with_reducible refine mt_any (fun _ => ?_) (fun _ => ?_)) <;> (conv => whnf)))
  refine kopen_new.mono ?_
  rintro _ _ ⟨rfl, l, rfl, hl⟩
  conv => whnf
  repeat' (first | ((with_reducible apply z_wrap); (focus omega); (conv => whnf)) | ((with_reducible refine mt_dec (fun _ => ?_) (fun _ => ?_)) <;> (conv => whnf)) | ((with_reducible refine mt_eq (fun _ => ?_) (fun _ => ?_)) <;> (conv => whnf)) | ((with_reducible refine mt_ne (fun _ => ?_) (fun _ => ?_)) <;> (conv => whnf)) | ((with_reducible refine mt_not (fun _ => ?_) (fun _ => ?_)) <;> (conv => whnf)) | ((with_reducible refine mt_any (fun _ => ?_) (fun _ => ?_)) <;> (conv => whnf)))
  ((with_reducible refine (num11_ok 0).mono ?_); rintro _ _ ⟨rfl, rfl⟩; (conv => whnf))
  repeat' (first | ((with_reducible apply z_wrap); (focus omega); (conv => whnf)) | ((with_reducible refine mt_dec (fun _ => ?_) (fun _ => ?_)) <;> (conv => whnf)) | ((with_reducible refine mt_eq (fun _ => ?_) (fun _ => ?_)) <;> (conv => whnf)) | ((with_reducible refine mt_ne (fun _ => ?_) (fun _ => ?_)) <;> (conv => whnf)) | ((with_reducible refine mt_not (fun _ => ?_) (fun _ => ?_)) <;> (conv => whnf)) | ((with_reducible refine mt_any (fun _ => ?_) (fun _ => ?_)) <;> (conv => whnf)))
  refine put_ok l [] LS0_ok hl (by simp) aS ⟨#[49]⟩ (by rw [a1, b1]; decide) (put_room (by omega)) _ ?_ ?_
  · intro h; exact absurd h (by decide)
  intro _ l1 hl1
  conv => whnf
  repeat' (first | ((with_reducible apply z_wrap); (focus omega); (conv => whnf)) | ((with_reducible refine mt_dec (fun _ => ?_) (fun _ => ?_)) <;> (conv => whnf)) | ((with_reducible refine mt_eq (fun _ => ?_) (fun _ => ?_)) <;> (conv => whnf)) | ((with_reducible refine mt_ne (fun _ => ?_) (fun _ => ?_)) <;> (conv => whnf)) | ((with_reducible refine mt_not (fun _ => ?_) (fun _ => ?_)) <;> (conv => whnf)) | ((with_reducible refine mt_any (fun _ => ?_) (fun _ => ?_)) <;> (conv => whnf)))
  ((with_reducible refine (num11_ok 0).mono ?_); rintro _ _ ⟨rfl, rfl⟩; (conv => whnf))
  repeat' (first | ((with_reducible apply z_wrap); (focus omega); (conv => whnf)) | ((with_reducible refine mt_dec (fun _ => ?_) (fun _ => ?_)) <;> (conv => whnf)) | ((with_reducible refine mt_eq (fun _ => ?_) (fun _ => ?_)) <;> (conv => whnf)) | ((with_reducible refine mt_ne (fun _ => ?_) (fun _ => ?_)) <;> (conv => whnf)) | ((with_reducible refine mt_not (fun _ => ?_) (fun _ => ?_)) <;> (conv => whnf)) | ((with_reducible refine mt_any (fun _ => ?_) (fun _ => ?_)) <;> (conv => whnf)))
  refine (getC l1 (setP aS ⟨#[49]⟩ []) false aS).mono ?_
  rintro _ _ ⟨rfl, rfl⟩
  rw [show getP aS (setP aS ⟨#[49]⟩ []) = some ⟨#[49]⟩ from rfl]
  conv => whnf
  repeat' (first | ((with_reducible apply z_wrap); (focus omega); (conv => whnf)) | ((with_reducible refine mt_dec (fun _ => ?_) (fun _ => ?_)) <;> (conv => whnf)) | ((with_reducible refine mt_eq (fun _ => ?_) (fun _ => ?_)) <;> (conv => whnf)) | ((with_reducible refine mt_ne (fun _ => ?_) (fun _ => ?_)) <;> (conv => whnf)) | ((with_reducible refine mt_not (fun _ => ?_) (fun _ => ?_)) <;> (conv => whnf)) | ((with_reducible refine mt_any (fun _ => ?_) (fun _ => ?_)) <;> (conv => whnf)))
  ((with_reducible refine (num11_ok 0).mono ?_); rintro _ _ ⟨rfl, rfl⟩; (conv => whnf))
  repeat' (first | ((with_reducible apply z_wrap); (focus omega); (conv => whnf)) | ((with_reducible refine mt_dec (fun _ => ?_) (fun _ => ?_)) <;> (conv => whnf)) | ((with_reducible refine mt_eq (fun _ => ?_) (fun _ => ?_)) <;> (conv => whnf)) | ((with_reducible refine mt_ne (fun _ => ?_) (fun _ => ?_)) <;> (conv => whnf)) | ((with_reducible refine mt_not (fun _ => ?_) (fun _ => ?_)) <;> (conv => whnf)) | ((with_reducible refine mt_any (fun _ => ?_) (fun _ => ?_)) <;> (conv => whnf)))
  exact ⟨boolEq (by simp), rfl⟩
end Go.Proofs.Ytpedbknmkgcldaa

namespace Go.Proofs.Ytpedbknmkgcldaa
open Go.Ab Go.RowKit
/-- the disk of a crash behind a Sync -/
theorem crash_synced {x : LS} (hs : x.file = true → x.safe = layL x.recs) {ss : List ByteArray} (hss : ss.Perm (x.l.d.fs.map FD.name)) (picks : List Int) : newDD (crashAt (pickFs ss x.l.d.fs) picks ss.length).1 = x.crashed.l.d := by
  show newDD (crashAt (pickFs ss x.fs) picks ss.length).1 = DD.mk 0 false 0 x.crashed.fs
  have hss' : ss.Perm (x.fs.map FD.name) := hss
  cases hx : x.file with
  | false =>
    have e : x.fs = [] := by simp [LS.fs, hx]
    rw [e] at hss' ⊢
    obtain rfl : ss = [] := by simpa using hss'
    simp [pickFs, crashAt, newDD, LS.fs, LS.crashed, hx]
  | true =>
    have e : x.fs = [⟨logN, layL x.recs, layL x.recs⟩] := by simp [LS.fs, hx, hs hx]
    rw [e] at hss' ⊢
    obtain rfl : ss = [logN] := by simpa using hss'
    simp [pickFs, crashAt, newDD, LS.fs, LS.crashed, hx, getN, stepC]
end Go.Proofs.Ytpedbknmkgcldaa

namespace Go.Proofs.Ytpedbknmkgcldaa
open Go.Ab Go.RowKit Go.MapKept
attribute [local irreducible] ACalls AW ADraw Into
set_option maxRecDepth 100000
theorem keyO_bad (i : Nat) (hi : i < 300) : badK (keyO i) (zb (3000 + i)) = false := by
  have h1 := keyO_size i
  have h2 := zb_size (3000 + i)
  simp [badK, goodK, h1, h2]
  omega
theorem getP_in {k v : ByteArray} : ∀ {ps : List (ByteArray × ByteArray)}, getP k ps = some v → (k, v) ∈ ps
  | [], h => by simp [getP] at h
  | p :: r, h => by
    simp only [getP] at h
    split at h
    · rename_i e
      cases h
      rw [e]; simp
    · exact List.mem_cons_of_mem _ (getP_in h)
theorem putO (i : Nat) (l : Lg) (ps : List (ByteArray × ByteArray)) {x : LS} {os : List Op11} (h : OInv i l ps x os) (hi : i < 300) :
    ACalls Try.prog 55 [.ptr 0 0, .d (.str (keyO i)), .d (.str (zb (3000 + i)))] (Kc l ps false) (fun av L => ∃ (l' : Lg) (ps' : List (ByteArray × ByteArray)) (x' : LS) (os' : List Op11), av = .d (.int .i64 0) ∧ (L = Kc1 l' ps' false ∨ ∃ old osh, L = Kc2 l' ps' false old osh) ∧ OInv (i + 1) l' ps' x' os') := by
  have hb := keyO_bad i hi
  have hk := keyO_size i
  have hv := zb_size (3000 + i)
  have hr := rec_size kP (keyO i) (zb (3000 + i))
  have hkp : kP.size = 1 := rfl
  obtain ⟨s1, s2⟩ := h.sizes
  have s3 := h.len
  by_cases hroom : ((recK kP (keyO i) (zb (3000 + i))).size : Int) + 16 ≤ 524288 - wsum x.recs
  · refine put_ok l ps h.ok h.l h.nd (keyO i) (zb (3000 + i)) (by omega) (fun _ => hroom) _ ?_ ?_
    · intro h2; rw [hb] at h2; cases h2
    · intro _ l' hl'
      refine ⟨l', _, _, os ++ [.put (keyO i) (zb (3000 + i))], rfl, .inl rfl, h.step hi (LS.put_ok h.ok (by omega) hroom) hl' ?_ ?_ ?_⟩
      · show x.recs ++ [_] = _
        rw [h.recs]; simp [Op11.enc]
      · intro o ho
        rcases List.mem_append.1 ho with ho | ho
        · exact h.good o ho
        · rw [List.mem_singleton.1 ho]; exact ⟨by omega, by omega⟩
      · rw [show foldO (os ++ [.put (keyO i) (zb (3000 + i))]) = setP (keyO i) (zb (3000 + i)) (foldO os) by simp [foldO, Op11.app]]
        exact setP_perm h.perm h.nd (fold_nodup os)
  · refine put_full l ps h.ok h.l h.nd (by omega) (fun q hq => by have := s2 q hq; omega) (keyO i) (zb (3000 + i)) hb (by omega) (by omega) (fun ss hss => (h.laid (by omega) (by omega) hss).1) _ ?_
    intro l' ss old osh hss hl'
    obtain ⟨c1, c2⟩ := h.laid (key := keyO i) (val := zb (3000 + i)) (by omega) (by omega) hss
    exact ⟨l', _, _, laidR ss (keyO i) (zb (3000 + i)) ps, rfl, .inr ⟨old, osh, rfl⟩, h.step hi (LS.laid_ok x c1) hl' rfl c2 (fold_laid h.nd hss).symm⟩
theorem syncO (i : Nat) (l : Lg) (ps : List (ByteArray × ByteArray)) {x : LS} {os : List Op11} (h : OInv i l ps x os) : ACalls Try.prog 60 [.ptr 0 0] (Kc l ps false) (fun av L => av = .d (.int .i64 0) ∧ ∃ (l' : Lg) (x' : LS), L = Kc l' ps false ∧ OInv i l' ps x' os ∧ (x'.file = true → x'.safe = layL x'.recs)) := by
  refine (ksync_ok l ps h.ok h.l).mono ?_
  rintro _ _ ⟨rfl, l', rfl, hl'⟩
  refine ⟨rfl, l', ?_⟩
  cases hf : x.file with
  | false =>
    rw [hf] at hl'
    exact ⟨x, rfl, ⟨h.ok, hl', h.recs, h.good, h.perm, h.nd, h.keys, h.last⟩, fun e => by rw [hf] at e; cases e⟩
  | true =>
    rw [hf] at hl'
    exact ⟨x.synced, rfl, ⟨LS.synced_ok h.ok, hl', h.recs, h.good, h.perm, h.nd, h.keys, h.last⟩, fun _ => rfl⟩
def overN : List Int := [30, 40, 30, 50, 40, 30, 60, 200]
theorem over_at (m : Nat) (h : m < 8) : ∃ n : Nat, (overN.map fun n => [DV.int .i64 n])[m]? = some [DV.int .i64 (n : Int)] ∧ 3 ≤ n ∧ n ≤ 200 := by
  rcases (show m = 0 ∨ m = 1 ∨ m = 2 ∨ m = 3 ∨ m = 4 ∨ m = 5 ∨ m = 6 ∨ m = 7 by omega) with rfl | rfl | rfl | rfl | rfl | rfl | rfl | rfl
  · exact ⟨30, rfl, by decide, by decide⟩
  · exact ⟨40, rfl, by decide, by decide⟩
  · exact ⟨30, rfl, by decide, by decide⟩
  · exact ⟨50, rfl, by decide, by decide⟩
  · exact ⟨40, rfl, by decide, by decide⟩
  · exact ⟨30, rfl, by decide, by decide⟩
  · exact ⟨60, rfl, by decide, by decide⟩
  · exact ⟨200, rfl, by decide, by decide⟩
theorem key_at (i : Nat) : ([[DV.str ⟨#[97]⟩], [DV.str ⟨#[98]⟩], [DV.str ⟨#[99]⟩]] : List (List DV))[i % 3]? = some [DV.str (keyO i)] := by
  have hj : i % 3 < 3 := Nat.mod_lt _ (by decide)
  unfold keyO
  rcases (show i % 3 = 0 ∨ i % 3 = 1 ∨ i % 3 = 2 by omega) with h | h | h <;> simp [h]
def overSt (n : Nat) : Nat × Lg × List (ByteArray × ByteArray) → AF × List AB
  | (i, l, ps) => ([(3, .ptr 0 0), (4, .ptr 1 0), (6, .d (.int .i64 n)), (7, .d (.int .i64 i))], [.cells [.d (.int .i64 l.d.calls), .d (.bool l.d.off), .d (.int .i64 l.d.upto), .map 2], .cells [.ptr 3 0, .map 4, .d (.int .i64 (psum ps)), .d (.bool false)], .map (l.d.fs.map Fl.ent), .cells (.ptr 0 0 :: .arr 5 :: l.tail), .map (ps.map pe), .row 9 1 (strs l.recs) l.sh])
def overSt2 (n : Nat) (l : Lg) (ps : List (ByteArray × ByteArray)) (l2 : Lg) (ps2 : List (ByteArray × ByteArray)) (i : Nat) : AF × List AB :=
  ([(4, .ptr 0 0), (6, .d (.int .i64 n)), (9, .ptr 1 0), (10, .d (.int .i64 i))], [.cells [.ptr 2 0, .map 3, .d (.int .i64 (psum ps)), .d (.bool false)], .cells [.ptr 4 0, .map 5, .d (.int .i64 (psum ps2)), .d (.bool false)], .cells (.ptr 6 0 :: .arr 7 :: l.tail), .map (ps.map pe), .cells (.ptr 8 0 :: .arr 9 :: l2.tail), .map (ps2.map pe), .cells [.d (.int .i64 l.d.calls), .d (.bool l.d.off), .d (.int .i64 l.d.upto), .map 10], .row 9 1 (strs l.recs) l.sh, .cells [.d (.int .i64 l2.d.calls), .d (.bool l2.d.off), .d (.int .i64 l2.d.upto), .map 11], .row 9 1 (strs l2.recs) l2.sh, .map (l.d.fs.map Fl.ent), .map (l2.d.fs.map Fl.ent)])
theorem rem_nat (i k : Nat) {z : Int} (h : z = (i : Int).tmod (k : Int)) : z = ((i % k : Nat) : Int) := by rw [h]; rfl
set_option maxHeartbeats 8000000 in
theorem keepOver_ok (acts : List (List DV)) (off : DV) (hla : acts.length ≤ 140737488355328) : ACalls Try.prog 12 [.agg [.d (.sl 4 acts), .d off]] [] (fun av L => av = .d (.bool true) ∧ L = []) := by
  refine acalls_go ttOk zOk foOk Try.func12 rfl Try.ntmps12 rfl false rfl ?_
  conv => whnf
  ((with_reducible refine (disk10_ok).mono ?_); rintro _ _ ⟨rfl, rfl⟩; (conv => whnf))
  repeat' (first | ((with_reducible apply z_wrap); (focus omega); (conv => whnf)) | ((with_reducible refine mt_dec (fun _ => ?_) (fun _ => ?_)) <;> (conv => whnf)) | ((with_reducible refine mt_eq (fun _ => ?_) (fun _ => ?_)) <;> (conv => whnf)) | ((with_reducible refine mt_ne (fun _ => ?_) (fun _ => ?_)) <;> (conv => whnf)) | ((with_reducible refine mt_not (fun _ => ?_) (fun _ => ?_)) <;> (conv => whnf)) | ((with_reducible refine mt_any (fun _ => ?_) (fun _ => ?_)) <;> (conv => whnf)))
  refine kopen_new.mono ?_
  rintro _ _ ⟨rfl, l, rfl, hl⟩
  conv => whnf
  repeat' (first | ((with_reducible apply z_wrap); (focus omega); (conv => whnf)) | ((with_reducible refine mt_dec (fun _ => ?_) (fun _ => ?_)) <;> (conv => whnf)) | ((with_reducible refine mt_eq (fun _ => ?_) (fun _ => ?_)) <;> (conv => whnf)) | ((with_reducible refine mt_ne (fun _ => ?_) (fun _ => ?_)) <;> (conv => whnf)) | ((with_reducible refine mt_not (fun _ => ?_) (fun _ => ?_)) <;> (conv => whnf)) | ((with_reducible refine mt_any (fun _ => ?_) (fun _ => ?_)) <;> (conv => whnf)))
  ((with_reducible refine (num11_ok 0).mono ?_); rintro _ _ ⟨rfl, rfl⟩; (conv => whnf))
  repeat' (first | ((with_reducible apply z_wrap); (focus omega); (conv => whnf)) | ((with_reducible refine mt_dec (fun _ => ?_) (fun _ => ?_)) <;> (conv => whnf)) | ((with_reducible refine mt_eq (fun _ => ?_) (fun _ => ?_)) <;> (conv => whnf)) | ((with_reducible refine mt_ne (fun _ => ?_) (fun _ => ?_)) <;> (conv => whnf)) | ((with_reducible refine mt_not (fun _ => ?_) (fun _ => ?_)) <;> (conv => whnf)) | ((with_reducible refine mt_any (fun _ => ?_) (fun _ => ?_)) <;> (conv => whnf)))
  refine (within_ok (acts.length : Int) 8 (by decide) (by decide) (by omega)).mono ?_
  rintro _ _ ⟨rfl, rfl⟩
  obtain ⟨m, hm, hm8⟩ : ∃ m : Nat, ((acts.length : Int) % 18446744073709551616) % 8 = (m : Int) ∧ m < 8 := ⟨((acts.length : Int) % 18446744073709551616 % 8).toNat, by omega, by omega⟩
  rw [hm]
  obtain ⟨n, hn, hn3, hn200⟩ := over_at m hm8
  conv => whnf
  repeat' (first | ((with_reducible apply z_wrap); (focus omega); (conv => whnf)) | ((with_reducible refine mt_dec (fun _ => ?_) (fun _ => ?_)) <;> (conv => whnf)) | ((with_reducible refine mt_eq (fun _ => ?_) (fun _ => ?_)) <;> (conv => whnf)) | ((with_reducible refine mt_ne (fun _ => ?_) (fun _ => ?_)) <;> (conv => whnf)) | ((with_reducible refine mt_not (fun _ => ?_) (fun _ => ?_)) <;> (conv => whnf)) | ((with_reducible refine mt_any (fun _ => ?_) (fun _ => ?_)) <;> (conv => whnf)))
  refine ⟨by omega, by rw [Int.toNat_natCast]; exact hm8, ?_⟩
  conv => whnf
  refine ⟨[.int .i64 (n : Int)], by rw [Int.toNat_natCast]; exact hn, ?_⟩
  conv => whnf
  repeat' (first | ((with_reducible apply z_wrap); (focus omega); (conv => whnf)) | ((with_reducible refine mt_dec (fun _ => ?_) (fun _ => ?_)) <;> (conv => whnf)) | ((with_reducible refine mt_eq (fun _ => ?_) (fun _ => ?_)) <;> (conv => whnf)) | ((with_reducible refine mt_ne (fun _ => ?_) (fun _ => ?_)) <;> (conv => whnf)) | ((with_reducible refine mt_not (fun _ => ?_) (fun _ => ?_)) <;> (conv => whnf)) | ((with_reducible refine mt_any (fun _ => ?_) (fun _ => ?_)) <;> (conv => whnf)))
  refine loop_go ttOk zOk foOk (σ := Nat × Lg × List (ByteArray × ByteArray)) (overSt n) (fun q => q.1 ≤ n ∧ ∃ x os, OInv q.1 q.2.1 q.2.2 x os) (fun q => n - q.1) [3, 4, 6, 7] ?_ ?_
  · conv => whnf
    exact ⟨(0, l, []), rfl, rfl, Nat.zero_le _, LS0, [], ⟨LS0_ok, hl, rfl, by simp, List.Perm.refl _, by simp, by simp, fun j h => absurd h (Nat.not_lt_zero _)⟩⟩
  · rintro ⟨i, l, ps⟩ ⟨hin, x, os, hi⟩
    simp only at hin hi
    conv => whnf
    repeat' (first | ((with_reducible apply z_wrap); (focus omega); (conv => whnf)) | ((with_reducible refine mt_dec (fun _ => ?_) (fun _ => ?_)) <;> (conv => whnf)) | ((with_reducible refine mt_eq (fun _ => ?_) (fun _ => ?_)) <;> (conv => whnf)) | ((with_reducible refine mt_ne (fun _ => ?_) (fun _ => ?_)) <;> (conv => whnf)) | ((with_reducible refine mt_not (fun _ => ?_) (fun _ => ?_)) <;> (conv => whnf)) | ((with_reducible refine mt_any (fun _ => ?_) (fun _ => ?_)) <;> (conv => whnf)))
    · rename_i h
      have hi300 : i < 300 := by omega
      refine ⟨rfl, by omega, by (show ((3000 : Int) + i).toNat * 1 ≤ _); omega, by omega, ?_⟩
      rw [show List.replicate ((3000 : Int) + i).toNat [DV.int .u8 0] = u8s (List.replicate (3000 + i) 0) by rw [u8s, List.map_replicate, show ((3000 : Int) + i).toNat = 3000 + i by omega]; rfl]
      obtain ⟨zs, hzs⟩ : ∃ zs : List UInt8, zs = List.replicate (3000 + i) 0 := ⟨_, rfl⟩
      rw [← hzs]
      conv => whnf
      repeat' (first | ((with_reducible apply z_wrap); (focus omega); (conv => whnf)) | ((with_reducible refine mt_dec (fun _ => ?_) (fun _ => ?_)) <;> (conv => whnf)) | ((with_reducible refine mt_eq (fun _ => ?_) (fun _ => ?_)) <;> (conv => whnf)) | ((with_reducible refine mt_ne (fun _ => ?_) (fun _ => ?_)) <;> (conv => whnf)) | ((with_reducible refine mt_not (fun _ => ?_) (fun _ => ?_)) <;> (conv => whnf)) | ((with_reducible refine mt_any (fun _ => ?_) (fun _ => ?_)) <;> (conv => whnf)))
      refine ⟨zs, rfl, ?_⟩
      obtain ⟨v, hv⟩ : ∃ v : ByteArray, ByteArray.mk zs.toArray = v := ⟨_, rfl⟩
      have hvz : v = zb (3000 + i) := by rw [← hv, hzs]; rfl
      conv => whnf
      rw [hv]
      repeat' (first | ((with_reducible apply z_wrap); (focus omega); (conv => whnf)) | ((with_reducible refine mt_dec (fun _ => ?_) (fun _ => ?_)) <;> (conv => whnf)) | ((with_reducible refine mt_eq (fun _ => ?_) (fun _ => ?_)) <;> (conv => whnf)) | ((with_reducible refine mt_ne (fun _ => ?_) (fun _ => ?_)) <;> (conv => whnf)) | ((with_reducible refine mt_not (fun _ => ?_) (fun _ => ?_)) <;> (conv => whnf)) | ((with_reducible refine mt_any (fun _ => ?_) (fun _ => ?_)) <;> (conv => whnf)))
      refine ⟨by decide, ?_⟩
      intro z hz
      rw [rem_nat i 3 hz]
      have hj : i % 3 < 3 := Nat.mod_lt _ (by decide)
      conv => whnf
      refine ⟨by omega, by rw [Int.toNat_natCast]; exact hj, [.str (keyO i)], by rw [Int.toNat_natCast]; exact key_at i, ?_⟩
      conv => whnf
      repeat' (first | ((with_reducible apply z_wrap); (focus omega); (conv => whnf)) | ((with_reducible refine mt_dec (fun _ => ?_) (fun _ => ?_)) <;> (conv => whnf)) | ((with_reducible refine mt_eq (fun _ => ?_) (fun _ => ?_)) <;> (conv => whnf)) | ((with_reducible refine mt_ne (fun _ => ?_) (fun _ => ?_)) <;> (conv => whnf)) | ((with_reducible refine mt_not (fun _ => ?_) (fun _ => ?_)) <;> (conv => whnf)) | ((with_reducible refine mt_any (fun _ => ?_) (fun _ => ?_)) <;> (conv => whnf)))
      rw [hvz]
      refine (putO i l ps hi hi300).mono ?_
      rintro _ _ ⟨l1, ps1, x1, os1, rfl, rfl | ⟨old, osh, rfl⟩, hi1⟩
      · conv => whnf
        repeat' (first | ((with_reducible apply z_wrap); (focus omega); (conv => whnf)) | ((with_reducible refine mt_dec (fun _ => ?_) (fun _ => ?_)) <;> (conv => whnf)) | ((with_reducible refine mt_eq (fun _ => ?_) (fun _ => ?_)) <;> (conv => whnf)) | ((with_reducible refine mt_ne (fun _ => ?_) (fun _ => ?_)) <;> (conv => whnf)) | ((with_reducible refine mt_not (fun _ => ?_) (fun _ => ?_)) <;> (conv => whnf)) | ((with_reducible refine mt_any (fun _ => ?_) (fun _ => ?_)) <;> (conv => whnf)))
        refine (num11_ok 0).mono ?_
        rintro _ _ ⟨rfl, rfl⟩
        conv => whnf
        repeat' (first | ((with_reducible apply z_wrap); (focus omega); (conv => whnf)) | ((with_reducible refine mt_dec (fun _ => ?_) (fun _ => ?_)) <;> (conv => whnf)) | ((with_reducible refine mt_eq (fun _ => ?_) (fun _ => ?_)) <;> (conv => whnf)) | ((with_reducible refine mt_ne (fun _ => ?_) (fun _ => ?_)) <;> (conv => whnf)) | ((with_reducible refine mt_not (fun _ => ?_) (fun _ => ?_)) <;> (conv => whnf)) | ((with_reducible refine mt_any (fun _ => ?_) (fun _ => ?_)) <;> (conv => whnf)))
        refine ⟨by decide, ?_⟩
        intro z2 hz2
        rw [rem_nat i 40 hz2]
        conv => whnf
        repeat' (first | ((with_reducible apply z_wrap); (focus omega); (conv => whnf)) | ((with_reducible refine mt_dec (fun _ => ?_) (fun _ => ?_)) <;> (conv => whnf)) | ((with_reducible refine mt_eq (fun _ => ?_) (fun _ => ?_)) <;> (conv => whnf)) | ((with_reducible refine mt_ne (fun _ => ?_) (fun _ => ?_)) <;> (conv => whnf)) | ((with_reducible refine mt_not (fun _ => ?_) (fun _ => ?_)) <;> (conv => whnf)) | ((with_reducible refine mt_any (fun _ => ?_) (fun _ => ?_)) <;> (conv => whnf)))
        · refine (syncO (i + 1) l1 ps1 hi1).mono ?_
          rintro _ _ ⟨rfl, l2, x2, rfl, hi2, _⟩
          conv => whnf
          repeat' (first | ((with_reducible apply z_wrap); (focus omega); (conv => whnf)) | ((with_reducible refine mt_dec (fun _ => ?_) (fun _ => ?_)) <;> (conv => whnf)) | ((with_reducible refine mt_eq (fun _ => ?_) (fun _ => ?_)) <;> (conv => whnf)) | ((with_reducible refine mt_ne (fun _ => ?_) (fun _ => ?_)) <;> (conv => whnf)) | ((with_reducible refine mt_not (fun _ => ?_) (fun _ => ?_)) <;> (conv => whnf)) | ((with_reducible refine mt_any (fun _ => ?_) (fun _ => ?_)) <;> (conv => whnf)))
          refine (num11_ok 0).mono ?_
          rintro _ _ ⟨rfl, rfl⟩
          conv => whnf
          repeat' (first | ((with_reducible apply z_wrap); (focus omega); (conv => whnf)) | ((with_reducible refine mt_dec (fun _ => ?_) (fun _ => ?_)) <;> (conv => whnf)) | ((with_reducible refine mt_eq (fun _ => ?_) (fun _ => ?_)) <;> (conv => whnf)) | ((with_reducible refine mt_ne (fun _ => ?_) (fun _ => ?_)) <;> (conv => whnf)) | ((with_reducible refine mt_not (fun _ => ?_) (fun _ => ?_)) <;> (conv => whnf)) | ((with_reducible refine mt_any (fun _ => ?_) (fun _ => ?_)) <;> (conv => whnf)))
          exact ⟨(i + 1, l2, ps1), rfl, rfl, ⟨by show i + 1 ≤ n; omega, _, _, hi2⟩, by show n - (i + 1) < n - i; omega⟩
        · exact ⟨(i + 1, l1, ps1), rfl, rfl, ⟨by show i + 1 ≤ n; omega, _, _, hi1⟩, by show n - (i + 1) < n - i; omega⟩
      · conv => whnf
        repeat' (first | ((with_reducible apply z_wrap); (focus omega); (conv => whnf)) | ((with_reducible refine mt_dec (fun _ => ?_) (fun _ => ?_)) <;> (conv => whnf)) | ((with_reducible refine mt_eq (fun _ => ?_) (fun _ => ?_)) <;> (conv => whnf)) | ((with_reducible refine mt_ne (fun _ => ?_) (fun _ => ?_)) <;> (conv => whnf)) | ((with_reducible refine mt_not (fun _ => ?_) (fun _ => ?_)) <;> (conv => whnf)) | ((with_reducible refine mt_any (fun _ => ?_) (fun _ => ?_)) <;> (conv => whnf)))
        refine (num11_ok 0).mono ?_
        rintro _ _ ⟨rfl, rfl⟩
        conv => whnf
        repeat' (first | ((with_reducible apply z_wrap); (focus omega); (conv => whnf)) | ((with_reducible refine mt_dec (fun _ => ?_) (fun _ => ?_)) <;> (conv => whnf)) | ((with_reducible refine mt_eq (fun _ => ?_) (fun _ => ?_)) <;> (conv => whnf)) | ((with_reducible refine mt_ne (fun _ => ?_) (fun _ => ?_)) <;> (conv => whnf)) | ((with_reducible refine mt_not (fun _ => ?_) (fun _ => ?_)) <;> (conv => whnf)) | ((with_reducible refine mt_any (fun _ => ?_) (fun _ => ?_)) <;> (conv => whnf)))
        refine ⟨by decide, ?_⟩
        intro z2 hz2
        rw [rem_nat i 40 hz2]
        conv => whnf
        repeat' (first | ((with_reducible apply z_wrap); (focus omega); (conv => whnf)) | ((with_reducible refine mt_dec (fun _ => ?_) (fun _ => ?_)) <;> (conv => whnf)) | ((with_reducible refine mt_eq (fun _ => ?_) (fun _ => ?_)) <;> (conv => whnf)) | ((with_reducible refine mt_ne (fun _ => ?_) (fun _ => ?_)) <;> (conv => whnf)) | ((with_reducible refine mt_not (fun _ => ?_) (fun _ => ?_)) <;> (conv => whnf)) | ((with_reducible refine mt_any (fun _ => ?_) (fun _ => ?_)) <;> (conv => whnf)))
        · refine (syncO (i + 1) l1 ps1 hi1).mono ?_
          rintro _ _ ⟨rfl, l2, x2, rfl, hi2, _⟩
          conv => whnf
          repeat' (first | ((with_reducible apply z_wrap); (focus omega); (conv => whnf)) | ((with_reducible refine mt_dec (fun _ => ?_) (fun _ => ?_)) <;> (conv => whnf)) | ((with_reducible refine mt_eq (fun _ => ?_) (fun _ => ?_)) <;> (conv => whnf)) | ((with_reducible refine mt_ne (fun _ => ?_) (fun _ => ?_)) <;> (conv => whnf)) | ((with_reducible refine mt_not (fun _ => ?_) (fun _ => ?_)) <;> (conv => whnf)) | ((with_reducible refine mt_any (fun _ => ?_) (fun _ => ?_)) <;> (conv => whnf)))
          refine (num11_ok 0).mono ?_
          rintro _ _ ⟨rfl, rfl⟩
          conv => whnf
          repeat' (first | ((with_reducible apply z_wrap); (focus omega); (conv => whnf)) | ((with_reducible refine mt_dec (fun _ => ?_) (fun _ => ?_)) <;> (conv => whnf)) | ((with_reducible refine mt_eq (fun _ => ?_) (fun _ => ?_)) <;> (conv => whnf)) | ((with_reducible refine mt_ne (fun _ => ?_) (fun _ => ?_)) <;> (conv => whnf)) | ((with_reducible refine mt_not (fun _ => ?_) (fun _ => ?_)) <;> (conv => whnf)) | ((with_reducible refine mt_any (fun _ => ?_) (fun _ => ?_)) <;> (conv => whnf)))
          exact ⟨(i + 1, l2, ps1), rfl, rfl, ⟨by show i + 1 ≤ n; omega, _, _, hi2⟩, by show n - (i + 1) < n - i; omega⟩
        · exact ⟨(i + 1, l1, ps1), rfl, rfl, ⟨by show i + 1 ≤ n; omega, _, _, hi1⟩, by show n - (i + 1) < n - i; omega⟩
    · rename_i h
      obtain rfl : i = n := by omega
      refine (syncO i l ps hi).mono ?_
      rintro _ _ ⟨rfl, l1, x1, rfl, hi1, hs1⟩
      conv => whnf
      repeat' (first | ((with_reducible apply z_wrap); (focus omega); (conv => whnf)) | ((with_reducible refine mt_dec (fun _ => ?_) (fun _ => ?_)) <;> (conv => whnf)) | ((with_reducible refine mt_eq (fun _ => ?_) (fun _ => ?_)) <;> (conv => whnf)) | ((with_reducible refine mt_ne (fun _ => ?_) (fun _ => ?_)) <;> (conv => whnf)) | ((with_reducible refine mt_not (fun _ => ?_) (fun _ => ?_)) <;> (conv => whnf)) | ((with_reducible refine mt_any (fun _ => ?_) (fun _ => ?_)) <;> (conv => whnf)))
      refine (num11_ok 0).mono ?_
      rintro _ _ ⟨rfl, rfl⟩
      conv => whnf
      repeat' (first | ((with_reducible apply z_wrap); (focus omega); (conv => whnf)) | ((with_reducible refine mt_dec (fun _ => ?_) (fun _ => ?_)) <;> (conv => whnf)) | ((with_reducible refine mt_eq (fun _ => ?_) (fun _ => ?_)) <;> (conv => whnf)) | ((with_reducible refine mt_ne (fun _ => ?_) (fun _ => ?_)) <;> (conv => whnf)) | ((with_reducible refine mt_not (fun _ => ?_) (fun _ => ?_)) <;> (conv => whnf)) | ((with_reducible refine mt_any (fun _ => ?_) (fun _ => ?_)) <;> (conv => whnf)))
      obtain ⟨q1, _, _, _⟩ := LS.pre hi1.ok hi1.l
      refine (again_ok l1.d q1 [] (by simp) (by simp)).mono ?_
      rintro _ _ ⟨ss, d2, hss, hrs, hd2, hf2, rfl, rfl⟩
      rw [show l1.d.dat = x1.l.d by rw [← hi1.l]; rfl] at hss hd2
      rw [crash_synced hs1 hss] at hd2
      conv => whnf
      repeat' (first | ((with_reducible apply z_wrap); (focus omega); (conv => whnf)) | ((with_reducible refine mt_dec (fun _ => ?_) (fun _ => ?_)) <;> (conv => whnf)) | ((with_reducible refine mt_eq (fun _ => ?_) (fun _ => ?_)) <;> (conv => whnf)) | ((with_reducible refine mt_ne (fun _ => ?_) (fun _ => ?_)) <;> (conv => whnf)) | ((with_reducible refine mt_not (fun _ => ?_) (fun _ => ?_)) <;> (conv => whnf)) | ((with_reducible refine mt_any (fun _ => ?_) (fun _ => ?_)) <;> (conv => whnf)))
      refine (kopen_ok d2 hf2 (LS.opened_ok (LS.crashed_ok hi1.ok)) (by rw [hd2]; exact LS.opn (LS.crashed_ok hi1.ok)) os hi1.good hi1.recs).mono ?_
      rintro _ _ ⟨rfl, l2, rfl, hl2⟩
      obtain ⟨ps2, hps2⟩ : ∃ ps2, foldO os = ps2 := ⟨_, rfl⟩
      rw [hps2]
      conv => whnf
      repeat' (first | ((with_reducible apply z_wrap); (focus omega); (conv => whnf)) | ((with_reducible refine mt_dec (fun _ => ?_) (fun _ => ?_)) <;> (conv => whnf)) | ((with_reducible refine mt_eq (fun _ => ?_) (fun _ => ?_)) <;> (conv => whnf)) | ((with_reducible refine mt_ne (fun _ => ?_) (fun _ => ?_)) <;> (conv => whnf)) | ((with_reducible refine mt_not (fun _ => ?_) (fun _ => ?_)) <;> (conv => whnf)) | ((with_reducible refine mt_any (fun _ => ?_) (fun _ => ?_)) <;> (conv => whnf)))
      refine (num11_ok 0).mono ?_
      rintro _ _ ⟨rfl, rfl⟩
      conv => whnf
      repeat' (first | ((with_reducible apply z_wrap); (focus omega); (conv => whnf)) | ((with_reducible refine mt_dec (fun _ => ?_) (fun _ => ?_)) <;> (conv => whnf)) | ((with_reducible refine mt_eq (fun _ => ?_) (fun _ => ?_)) <;> (conv => whnf)) | ((with_reducible refine mt_ne (fun _ => ?_) (fun _ => ?_)) <;> (conv => whnf)) | ((with_reducible refine mt_not (fun _ => ?_) (fun _ => ?_)) <;> (conv => whnf)) | ((with_reducible refine mt_any (fun _ => ?_) (fun _ => ?_)) <;> (conv => whnf)))
      refine loop_go ttOk zOk foOk (σ := Nat) (overSt2 i l1 ps l2 ps2) (fun j => i ≤ j + 3 ∧ j ≤ i) (fun j => i - j) [4, 6, 9, 10] ?_ ?_
      · conv => whnf
        refine ⟨i - 3, ?_, ?_, by omega, by omega⟩
        · have e : ((i - 3 : Nat) : Int) = (i : Int) - 3 := by omega
          simp only [overSt2, e]
        · rfl
      · rintro j ⟨hj3, hji⟩
        have hpp : ps.Perm ps2 := by rw [← hps2]; exact hi1.perm
        have hn2 : (ps2.map (·.1)).Nodup := (hpp.map _).nodup_iff.1 hi1.nd
        conv => whnf
        repeat' (first | ((with_reducible apply z_wrap); (focus omega); (conv => whnf)) | ((with_reducible refine mt_dec (fun _ => ?_) (fun _ => ?_)) <;> (conv => whnf)) | ((with_reducible refine mt_eq (fun _ => ?_) (fun _ => ?_)) <;> (conv => whnf)) | ((with_reducible refine mt_ne (fun _ => ?_) (fun _ => ?_)) <;> (conv => whnf)) | ((with_reducible refine mt_not (fun _ => ?_) (fun _ => ?_)) <;> (conv => whnf)) | ((with_reducible refine mt_any (fun _ => ?_) (fun _ => ?_)) <;> (conv => whnf)))
        · rename_i h
          have hjn : j < i := by omega
          have hg1 := hi1.last j hjn hj3
          have hg2 : getP (keyO j) ps2 = some (zb (3000 + j)) := getP_mem hn2 (hpp.subset (getP_in hg1))
          obtain ⟨v, hv⟩ : ∃ v, zb (3000 + j) = v := ⟨_, rfl⟩
          have hvs : v.size = 3000 + j := by rw [← hv]; exact zb_size _
          rw [hv] at hg1 hg2
          refine ⟨by decide, ?_⟩
          intro z hz
          rw [rem_nat j 3 hz]
          have hj2 : j % 3 < 3 := Nat.mod_lt _ (by decide)
          conv => whnf
          refine ⟨by omega, by rw [Int.toNat_natCast]; exact hj2, [.str (keyO j)], by rw [Int.toNat_natCast]; exact key_at j, ?_⟩
          conv => whnf
          repeat' (first | ((with_reducible apply z_wrap); (focus omega); (conv => whnf)) | ((with_reducible refine mt_dec (fun _ => ?_) (fun _ => ?_)) <;> (conv => whnf)) | ((with_reducible refine mt_eq (fun _ => ?_) (fun _ => ?_)) <;> (conv => whnf)) | ((with_reducible refine mt_ne (fun _ => ?_) (fun _ => ?_)) <;> (conv => whnf)) | ((with_reducible refine mt_not (fun _ => ?_) (fun _ => ?_)) <;> (conv => whnf)) | ((with_reducible refine mt_any (fun _ => ?_) (fun _ => ?_)) <;> (conv => whnf)))
          refine (getC l1 ps false (keyO j)).mono ?_
          rintro _ _ ⟨rfl, rfl⟩
          rw [hg1]
          conv => whnf
          repeat' (first | ((with_reducible apply z_wrap); (focus omega); (conv => whnf)) | ((with_reducible refine mt_dec (fun _ => ?_) (fun _ => ?_)) <;> (conv => whnf)) | ((with_reducible refine mt_eq (fun _ => ?_) (fun _ => ?_)) <;> (conv => whnf)) | ((with_reducible refine mt_ne (fun _ => ?_) (fun _ => ?_)) <;> (conv => whnf)) | ((with_reducible refine mt_not (fun _ => ?_) (fun _ => ?_)) <;> (conv => whnf)) | ((with_reducible refine mt_any (fun _ => ?_) (fun _ => ?_)) <;> (conv => whnf)))
          refine (getC l2 ps2 false (keyO j)).mono ?_
          rintro _ _ ⟨rfl, rfl⟩
          rw [hg2]
          conv => whnf
          repeat' (first | ((with_reducible apply z_wrap); (focus omega); (conv => whnf)) | ((with_reducible refine mt_dec (fun _ => ?_) (fun _ => ?_)) <;> (conv => whnf)) | ((with_reducible refine mt_eq (fun _ => ?_) (fun _ => ?_)) <;> (conv => whnf)) | ((with_reducible refine mt_ne (fun _ => ?_) (fun _ => ?_)) <;> (conv => whnf)) | ((with_reducible refine mt_not (fun _ => ?_) (fun _ => ?_)) <;> (conv => whnf)) | ((with_reducible refine mt_any (fun _ => ?_) (fun _ => ?_)) <;> (conv => whnf)))
          refine (num11_ok 0).mono ?_
          rintro _ _ ⟨rfl, rfl⟩
          conv => whnf
          repeat' (first | ((with_reducible apply z_wrap); (focus omega); (conv => whnf)) | ((with_reducible refine mt_dec (fun _ => ?_) (fun _ => ?_)) <;> (conv => whnf)) | ((with_reducible refine mt_eq (fun _ => ?_) (fun _ => ?_)) <;> (conv => whnf)) | ((with_reducible refine mt_ne (fun _ => ?_) (fun _ => ?_)) <;> (conv => whnf)) | ((with_reducible refine mt_not (fun _ => ?_) (fun _ => ?_)) <;> (conv => whnf)) | ((with_reducible refine mt_any (fun _ => ?_) (fun _ => ?_)) <;> (conv => whnf)))
          refine (num11_ok 0).mono ?_
          rintro _ _ ⟨rfl, rfl⟩
          conv => whnf
          repeat' (first | ((with_reducible apply z_wrap); (focus omega); (conv => whnf)) | ((with_reducible refine mt_dec (fun _ => ?_) (fun _ => ?_)) <;> (conv => whnf)) | ((with_reducible refine mt_eq (fun _ => ?_) (fun _ => ?_)) <;> (conv => whnf)) | ((with_reducible refine mt_ne (fun _ => ?_) (fun _ => ?_)) <;> (conv => whnf)) | ((with_reducible refine mt_not (fun _ => ?_) (fun _ => ?_)) <;> (conv => whnf)) | ((with_reducible refine mt_any (fun _ => ?_) (fun _ => ?_)) <;> (conv => whnf)))
          · rename_i h2; simp at h2
          · rename_i h2; exfalso; apply h2; rw [hvs]; omega
          · exact ⟨j + 1, rfl, rfl, by omega, by omega⟩
        · rename_i h
          obtain rfl : j = i := by omega
          have hlen3 : ps2.length = 3 := by
            have h1 := hi1.len
            have h2 := hpp.length_eq
            have h3 := sub_len (l := [keyO (j - 3), keyO (j - 2), keyO (j - 1)]) (m := ps.map (·.1)) (by
              simp only [List.nodup_cons, List.mem_cons, List.not_mem_nil, or_false, not_or, List.nodup_nil, and_true, not_false_eq_true]
              exact ⟨⟨keyO_ne (by omega), keyO_ne (by omega)⟩, keyO_ne (by omega)⟩) (fun y hy => by
              have key : ∀ t, t < j → j ≤ t + 3 → keyO t ∈ ps.map (·.1) := fun t h4 h5 => List.mem_map.2 ⟨_, getP_in (hi1.last t h4 h5), rfl⟩
              simp only [List.mem_cons, List.not_mem_nil, or_false] at hy
              rcases hy with rfl | rfl | rfl
              · exact key _ (by omega) (by omega)
              · exact key _ (by omega) (by omega)
              · exact key _ (by omega) (by omega))
            simp only [List.length_cons, List.length_nil, List.length_map] at h3
            omega
          refine (keysC l2 ps2 false hn2 (by omega) (fun q hq => by have := (hi1.sizes.2 q (hpp.symm.subset hq)).1; omega)).mono ?_
          rintro _ _ ⟨rfl, ks, hks, _, rfl⟩
          have hk3 : (strs ks).length = 3 := by rw [strs_length]; have := hks.length_eq; simp only [List.length_map] at this; omega
          conv => whnf
          repeat' (first | ((with_reducible apply z_wrap); (focus omega); (conv => whnf)) | ((with_reducible refine mt_dec (fun _ => ?_) (fun _ => ?_)) <;> (conv => whnf)) | ((with_reducible refine mt_eq (fun _ => ?_) (fun _ => ?_)) <;> (conv => whnf)) | ((with_reducible refine mt_ne (fun _ => ?_) (fun _ => ?_)) <;> (conv => whnf)) | ((with_reducible refine mt_not (fun _ => ?_) (fun _ => ?_)) <;> (conv => whnf)) | ((with_reducible refine mt_any (fun _ => ?_) (fun _ => ?_)) <;> (conv => whnf)))
          · refine wakes11_ok.mono ?_
            rintro _ _ ⟨rfl, rfl⟩
            conv => whnf
            exact ⟨rfl, rfl⟩
          · rename_i h2; exfalso; apply h2; rw [hk3]; rfl
end Go.Proofs.Ytpedbknmkgcldaa
