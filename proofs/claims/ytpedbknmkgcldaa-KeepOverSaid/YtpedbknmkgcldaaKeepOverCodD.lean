/- Part of the proof of KeepOver: the contracts of the functions. -/
import Derived.Test.YtpedbknmkgcldaaKeepOverCodC

set_option linter.unusedVariables false
set_option linter.unusedSimpArgs false
namespace Go.Proofs.Ytpedbknmkgcldaa
open Go.Ab Go.RowKit Go.MapKept
attribute [local irreducible] ACalls AW ADraw Into
set_option maxRecDepth 100000
def badK (key val : ByteArray) : Bool := !(goodK key) || decide ((val.size : Int) > 4032 - key.size)
set_option maxHeartbeats 4000000 in
theorem put_ok (l : Lg) (ps : List (ByteArray × ByteArray)) {x : LS} (hx : x.ok) (hl : l.dat = x.l) (hn : (ps.map (·.1)).Nodup) (key val : ByteArray) (hsm : psum ps + key.size + val.size + 64 ≤ 262144) (hroom : badK key val = false → ((recK kP key val).size : Int) + 16 ≤ 524288 - wsum x.recs)
    (Q : AV → List AB → Prop) (q1 : badK key val = true → Q (.d (.int .i64 1)) (Kc l ps false)) (q2 : badK key val = false → ∀ l' : Lg, l'.dat = (x.put (recK kP key val)).l → Q (.d (.int .i64 0)) (Kc1 l' (setP key val ps) false)) :
    ACalls Try.prog 55 [.ptr 0 0, .d (.str key), .d (.str val)] (Kc l ps false) Q := by
  have h0 := psum_nonneg ps
  have hlen := psum_len ps
  have hml : (ps.map pe).length = ps.length := List.length_map ..
  have hdel := psum_nonneg (delP key ps)
  refine acalls_go ttOk zOk foOk Try.func55 rfl Try.ntmps55 rfl false rfl ?_
  conv => whnf
  repeat' (first | ((with_reducible apply rd_intro); (focus (intro K hK; (conv => whnf); first | exact hK | (intro z hz; rw [wrapI (by omega)] at hz; subst hz; exact hK))); (conv => whnf)) | ((with_reducible apply gd_and); (focus ((conv => whnf); first | rfl | (intro K hK; (conv => whnf); first | exact hK | (intro z hz; rw [wrapI (by omega)] at hz; subst hz; exact hK)))); (conv => whnf)) | ((with_reducible apply z_wrap); (focus omega); (conv => whnf)) | ((with_reducible refine mt_dec (fun _ => ?_) (fun _ => ?_)) <;> (conv => whnf)) | ((with_reducible refine mt_eq (fun _ => ?_) (fun _ => ?_)) <;> (conv => whnf)) | ((with_reducible refine mt_ne (fun _ => ?_) (fun _ => ?_)) <;> (conv => whnf)) | ((with_reducible refine mt_not (fun _ => ?_) (fun _ => ?_)) <;> (conv => whnf)) | ((with_reducible refine mt_any (fun _ => ?_) (fun _ => ?_)) <;> (conv => whnf)))
  cases hf : findP key ps 0 with
  | none =>
    refine ⟨_, mf_none hf, ?_⟩
    conv => whnf
    ((with_reducible refine draw_pl ttOk zOk foOk mixedOk pl55x2 ?_ ?_); (focus kernel_rfl); (conv => whnf))
    repeat' (first | ((with_reducible apply rd_intro); (focus (intro K hK; (conv => whnf); first | exact hK | (intro z hz; rw [wrapI (by omega)] at hz; subst hz; exact hK))); (conv => whnf)) | ((with_reducible apply gd_and); (focus ((conv => whnf); first | rfl | (intro K hK; (conv => whnf); first | exact hK | (intro z hz; rw [wrapI (by omega)] at hz; subst hz; exact hK)))); (conv => whnf)) | ((with_reducible apply z_wrap); (focus omega); (conv => whnf)) | ((with_reducible refine mt_dec (fun _ => ?_) (fun _ => ?_)) <;> (conv => whnf)) | ((with_reducible refine mt_eq (fun _ => ?_) (fun _ => ?_)) <;> (conv => whnf)) | ((with_reducible refine mt_ne (fun _ => ?_) (fun _ => ?_)) <;> (conv => whnf)) | ((with_reducible refine mt_not (fun _ => ?_) (fun _ => ?_)) <;> (conv => whnf)) | ((with_reducible refine mt_any (fun _ => ?_) (fun _ => ?_)) <;> (conv => whnf)))
    refine (goodK_ok key).mono ?_
    rintro _ _ ⟨rfl, rfl⟩
    conv => whnf
    repeat' (first | ((with_reducible apply rd_intro); (focus (intro K hK; (conv => whnf); first | exact hK | (intro z hz; rw [wrapI (by omega)] at hz; subst hz; exact hK))); (conv => whnf)) | ((with_reducible apply gd_and); (focus ((conv => whnf); first | rfl | (intro K hK; (conv => whnf); first | exact hK | (intro z hz; rw [wrapI (by omega)] at hz; subst hz; exact hK)))); (conv => whnf)) | ((with_reducible apply z_wrap); (focus omega); (conv => whnf)) | ((with_reducible refine mt_dec (fun _ => ?_) (fun _ => ?_)) <;> (conv => whnf)) | ((with_reducible refine mt_eq (fun _ => ?_) (fun _ => ?_)) <;> (conv => whnf)) | ((with_reducible refine mt_ne (fun _ => ?_) (fun _ => ?_)) <;> (conv => whnf)) | ((with_reducible refine mt_not (fun _ => ?_) (fun _ => ?_)) <;> (conv => whnf)) | ((with_reducible refine mt_any (fun _ => ?_) (fun _ => ?_)) <;> (conv => whnf)))
    · rename_i hg
      have hb : badK key val = true := by simp [badK, hg]
      exact q1 hb
    · rename_i hg hv
      have hb : badK key val = true := by simp [badK]; right; omega
      exact q1 hb
    · rename_i hg hv hc
      exfalso; omega
    · rename_i hg hv hc hs
      exfalso; omega
    rename_i hg hv hc hs
    have hgk : goodK key = true := by simpa using hg
    have hb : badK key val = false := by simp [badK, hgk]; omega
    have hk32 : 0 < key.size ∧ key.size ≤ 32 := by
      simp only [goodK, Bool.and_eq_true, decide_eq_true_eq] at hgk
      exact hgk
    have hrs := rec_size kP key val
    have hkp : kP.size = 1 := rfl
    refine (write_good ⟨l, ps, false⟩ hx hl kP key val (by decide) (by omega) (by omega) (by omega) (hroom hb)).mono ?_
    rintro _ _ ⟨l', rfl, rfl, hl'⟩
    conv => whnf
    repeat' (first | ((with_reducible apply rd_intro); (focus (intro K hK; (conv => whnf); first | exact hK | (intro z hz; rw [wrapI (by omega)] at hz; subst hz; exact hK))); (conv => whnf)) | ((with_reducible apply gd_and); (focus ((conv => whnf); first | rfl | (intro K hK; (conv => whnf); first | exact hK | (intro z hz; rw [wrapI (by omega)] at hz; subst hz; exact hK)))); (conv => whnf)) | ((with_reducible apply z_wrap); (focus omega); (conv => whnf)) | ((with_reducible refine mt_dec (fun _ => ?_) (fun _ => ?_)) <;> (conv => whnf)) | ((with_reducible refine mt_eq (fun _ => ?_) (fun _ => ?_)) <;> (conv => whnf)) | ((with_reducible refine mt_ne (fun _ => ?_) (fun _ => ?_)) <;> (conv => whnf)) | ((with_reducible refine mt_not (fun _ => ?_) (fun _ => ?_)) <;> (conv => whnf)) | ((with_reducible refine mt_any (fun _ => ?_) (fun _ => ?_)) <;> (conv => whnf)))
    refine (set_ok ⟨l', ps, false⟩ (show psum ps ≤ _ by omega) hn key val (by omega) (by omega)).mono ?_
    rintro _ _ ⟨rfl, rfl⟩
    conv => whnf
    repeat' (first | ((with_reducible apply rd_intro); (focus (intro K hK; (conv => whnf); first | exact hK | (intro z hz; rw [wrapI (by omega)] at hz; subst hz; exact hK))); (conv => whnf)) | ((with_reducible apply gd_and); (focus ((conv => whnf); first | rfl | (intro K hK; (conv => whnf); first | exact hK | (intro z hz; rw [wrapI (by omega)] at hz; subst hz; exact hK)))); (conv => whnf)) | ((with_reducible apply z_wrap); (focus omega); (conv => whnf)) | ((with_reducible refine mt_dec (fun _ => ?_) (fun _ => ?_)) <;> (conv => whnf)) | ((with_reducible refine mt_eq (fun _ => ?_) (fun _ => ?_)) <;> (conv => whnf)) | ((with_reducible refine mt_ne (fun _ => ?_) (fun _ => ?_)) <;> (conv => whnf)) | ((with_reducible refine mt_not (fun _ => ?_) (fun _ => ?_)) <;> (conv => whnf)) | ((with_reducible refine mt_any (fun _ => ?_) (fun _ => ?_)) <;> (conv => whnf)))
    exact q2 hb l' hl'
  | some p =>
    obtain ⟨i, v⟩ := p
    obtain ⟨_, f1, f2, f3, f4⟩ := findP_some hf
    refine ⟨_, mf_some hf, ?_⟩
    conv => whnf
    ((with_reducible refine draw_pl ttOk zOk foOk mixedOk pl55x2 ?_ ?_); (focus kernel_rfl); (conv => whnf))
    repeat' (first | ((with_reducible apply rd_intro); (focus (intro K hK; (conv => whnf); first | exact hK | (intro z hz; rw [wrapI (by omega)] at hz; subst hz; exact hK))); (conv => whnf)) | ((with_reducible apply gd_and); (focus ((conv => whnf); first | rfl | (intro K hK; (conv => whnf); first | exact hK | (intro z hz; rw [wrapI (by omega)] at hz; subst hz; exact hK)))); (conv => whnf)) | ((with_reducible apply z_wrap); (focus omega); (conv => whnf)) | ((with_reducible refine mt_dec (fun _ => ?_) (fun _ => ?_)) <;> (conv => whnf)) | ((with_reducible refine mt_eq (fun _ => ?_) (fun _ => ?_)) <;> (conv => whnf)) | ((with_reducible refine mt_ne (fun _ => ?_) (fun _ => ?_)) <;> (conv => whnf)) | ((with_reducible refine mt_not (fun _ => ?_) (fun _ => ?_)) <;> (conv => whnf)) | ((with_reducible refine mt_any (fun _ => ?_) (fun _ => ?_)) <;> (conv => whnf)))
    refine (goodK_ok key).mono ?_
    rintro _ _ ⟨rfl, rfl⟩
    conv => whnf
    repeat' (first | ((with_reducible apply rd_intro); (focus (intro K hK; (conv => whnf); first | exact hK | (intro z hz; rw [wrapI (by omega)] at hz; subst hz; exact hK))); (conv => whnf)) | ((with_reducible apply gd_and); (focus ((conv => whnf); first | rfl | (intro K hK; (conv => whnf); first | exact hK | (intro z hz; rw [wrapI (by omega)] at hz; subst hz; exact hK)))); (conv => whnf)) | ((with_reducible apply z_wrap); (focus omega); (conv => whnf)) | ((with_reducible refine mt_dec (fun _ => ?_) (fun _ => ?_)) <;> (conv => whnf)) | ((with_reducible refine mt_eq (fun _ => ?_) (fun _ => ?_)) <;> (conv => whnf)) | ((with_reducible refine mt_ne (fun _ => ?_) (fun _ => ?_)) <;> (conv => whnf)) | ((with_reducible refine mt_not (fun _ => ?_) (fun _ => ?_)) <;> (conv => whnf)) | ((with_reducible refine mt_any (fun _ => ?_) (fun _ => ?_)) <;> (conv => whnf)))
    · rename_i hg
      have hb : badK key val = true := by simp [badK, hg]
      exact q1 hb
    · rename_i hg hv
      have hb : badK key val = true := by simp [badK]; right; omega
      exact q1 hb
    · rename_i hg hv hc
      exfalso; omega
    · rename_i hg hv hc hs
      exfalso; omega
    rename_i hg hv hc hs
    have hgk : goodK key = true := by simpa using hg
    have hb : badK key val = false := by simp [badK, hgk]; omega
    have hk32 : 0 < key.size ∧ key.size ≤ 32 := by
      simp only [goodK, Bool.and_eq_true, decide_eq_true_eq] at hgk
      exact hgk
    have hrs := rec_size kP key val
    have hkp : kP.size = 1 := rfl
    refine (write_good ⟨l, ps, false⟩ hx hl kP key val (by decide) (by omega) (by omega) (by omega) (hroom hb)).mono ?_
    rintro _ _ ⟨l', rfl, rfl, hl'⟩
    conv => whnf
    repeat' (first | ((with_reducible apply rd_intro); (focus (intro K hK; (conv => whnf); first | exact hK | (intro z hz; rw [wrapI (by omega)] at hz; subst hz; exact hK))); (conv => whnf)) | ((with_reducible apply gd_and); (focus ((conv => whnf); first | rfl | (intro K hK; (conv => whnf); first | exact hK | (intro z hz; rw [wrapI (by omega)] at hz; subst hz; exact hK)))); (conv => whnf)) | ((with_reducible apply z_wrap); (focus omega); (conv => whnf)) | ((with_reducible refine mt_dec (fun _ => ?_) (fun _ => ?_)) <;> (conv => whnf)) | ((with_reducible refine mt_eq (fun _ => ?_) (fun _ => ?_)) <;> (conv => whnf)) | ((with_reducible refine mt_ne (fun _ => ?_) (fun _ => ?_)) <;> (conv => whnf)) | ((with_reducible refine mt_not (fun _ => ?_) (fun _ => ?_)) <;> (conv => whnf)) | ((with_reducible refine mt_any (fun _ => ?_) (fun _ => ?_)) <;> (conv => whnf)))
    refine (set_ok ⟨l', ps, false⟩ (show psum ps ≤ _ by omega) hn key val (by omega) (by omega)).mono ?_
    rintro _ _ ⟨rfl, rfl⟩
    conv => whnf
    repeat' (first | ((with_reducible apply rd_intro); (focus (intro K hK; (conv => whnf); first | exact hK | (intro z hz; rw [wrapI (by omega)] at hz; subst hz; exact hK))); (conv => whnf)) | ((with_reducible apply gd_and); (focus ((conv => whnf); first | rfl | (intro K hK; (conv => whnf); first | exact hK | (intro z hz; rw [wrapI (by omega)] at hz; subst hz; exact hK)))); (conv => whnf)) | ((with_reducible apply z_wrap); (focus omega); (conv => whnf)) | ((with_reducible refine mt_dec (fun _ => ?_) (fun _ => ?_)) <;> (conv => whnf)) | ((with_reducible refine mt_eq (fun _ => ?_) (fun _ => ?_)) <;> (conv => whnf)) | ((with_reducible refine mt_ne (fun _ => ?_) (fun _ => ?_)) <;> (conv => whnf)) | ((with_reducible refine mt_not (fun _ => ?_) (fun _ => ?_)) <;> (conv => whnf)) | ((with_reducible refine mt_any (fun _ => ?_) (fun _ => ?_)) <;> (conv => whnf)))
    exact q2 hb l' hl'
end Go.Proofs.Ytpedbknmkgcldaa

namespace Go.Proofs.Ytpedbknmkgcldaa
open Go.Ab Go.RowKit Go.MapKept
attribute [local irreducible] ACalls AW ADraw Into
set_option maxRecDepth 100000
set_option maxHeartbeats 4000000 in
theorem drop_ok (l : Lg) (ps : List (ByteArray × ByteArray)) {x : LS} (hx : x.ok) (hl : l.dat = x.l) (hp : psum ps ≤ 1000000000) (key : ByteArray) (hroom : goodK key = true → ((recK kD key ⟨#[]⟩).size : Int) + 16 ≤ 524288 - wsum x.recs)
    (Q : AV → List AB → Prop) (q1 : goodK key = false → Q (.d (.int .i64 1)) (Kc l ps false)) (q2 : goodK key = true → getP key ps = none → Q (.d (.int .i64 3)) (Kc l ps false)) (q3 : goodK key = true → getP key ps ≠ none → ∀ l' : Lg, l'.dat = (x.put (recK kD key ⟨#[]⟩)).l → Q (.d (.int .i64 0)) (Kc1 l' (delP key ps) false)) :
    ACalls Try.prog 57 [.ptr 0 0, .d (.str key)] (Kc l ps false) Q := by
  have h0 := psum_nonneg ps
  refine acalls_go ttOk zOk foOk Try.func57 rfl Try.ntmps57 rfl false rfl ?_
  conv => whnf
  repeat' (first | ((with_reducible apply z_wrap); (focus omega); (conv => whnf)) | ((with_reducible refine mt_dec (fun _ => ?_) (fun _ => ?_)) <;> (conv => whnf)) | ((with_reducible refine mt_eq (fun _ => ?_) (fun _ => ?_)) <;> (conv => whnf)) | ((with_reducible refine mt_ne (fun _ => ?_) (fun _ => ?_)) <;> (conv => whnf)) | ((with_reducible refine mt_not (fun _ => ?_) (fun _ => ?_)) <;> (conv => whnf)) | ((with_reducible refine mt_any (fun _ => ?_) (fun _ => ?_)) <;> (conv => whnf)))
  cases hf : findP key ps 0 with
  | none =>
    refine ⟨_, mf_none hf, ?_⟩
    conv => whnf
    repeat' (first | ((with_reducible apply z_wrap); (focus omega); (conv => whnf)) | ((with_reducible refine mt_dec (fun _ => ?_) (fun _ => ?_)) <;> (conv => whnf)) | ((with_reducible refine mt_eq (fun _ => ?_) (fun _ => ?_)) <;> (conv => whnf)) | ((with_reducible refine mt_ne (fun _ => ?_) (fun _ => ?_)) <;> (conv => whnf)) | ((with_reducible refine mt_not (fun _ => ?_) (fun _ => ?_)) <;> (conv => whnf)) | ((with_reducible refine mt_any (fun _ => ?_) (fun _ => ?_)) <;> (conv => whnf)))
    refine (goodK_ok key).mono ?_
    rintro _ _ ⟨rfl, rfl⟩
    conv => whnf
    repeat' (first | ((with_reducible apply z_wrap); (focus omega); (conv => whnf)) | ((with_reducible refine mt_dec (fun _ => ?_) (fun _ => ?_)) <;> (conv => whnf)) | ((with_reducible refine mt_eq (fun _ => ?_) (fun _ => ?_)) <;> (conv => whnf)) | ((with_reducible refine mt_ne (fun _ => ?_) (fun _ => ?_)) <;> (conv => whnf)) | ((with_reducible refine mt_not (fun _ => ?_) (fun _ => ?_)) <;> (conv => whnf)) | ((with_reducible refine mt_any (fun _ => ?_) (fun _ => ?_)) <;> (conv => whnf)))
    · rename_i hg
      exact q1 (by simpa using hg)
    · rename_i hg
      exact q2 (by simpa using hg) (findP_none hf).1
  | some p =>
    obtain ⟨i, v⟩ := p
    obtain ⟨_, f1, f2, f3, f4⟩ := findP_some hf
    refine ⟨_, mf_some hf, ?_⟩
    conv => whnf
    repeat' (first | ((with_reducible apply z_wrap); (focus omega); (conv => whnf)) | ((with_reducible refine mt_dec (fun _ => ?_) (fun _ => ?_)) <;> (conv => whnf)) | ((with_reducible refine mt_eq (fun _ => ?_) (fun _ => ?_)) <;> (conv => whnf)) | ((with_reducible refine mt_ne (fun _ => ?_) (fun _ => ?_)) <;> (conv => whnf)) | ((with_reducible refine mt_not (fun _ => ?_) (fun _ => ?_)) <;> (conv => whnf)) | ((with_reducible refine mt_any (fun _ => ?_) (fun _ => ?_)) <;> (conv => whnf)))
    refine (goodK_ok key).mono ?_
    rintro _ _ ⟨rfl, rfl⟩
    conv => whnf
    repeat' (first | ((with_reducible apply z_wrap); (focus omega); (conv => whnf)) | ((with_reducible refine mt_dec (fun _ => ?_) (fun _ => ?_)) <;> (conv => whnf)) | ((with_reducible refine mt_eq (fun _ => ?_) (fun _ => ?_)) <;> (conv => whnf)) | ((with_reducible refine mt_ne (fun _ => ?_) (fun _ => ?_)) <;> (conv => whnf)) | ((with_reducible refine mt_not (fun _ => ?_) (fun _ => ?_)) <;> (conv => whnf)) | ((with_reducible refine mt_any (fun _ => ?_) (fun _ => ?_)) <;> (conv => whnf)))
    · rename_i hg
      exact q1 (by simpa using hg)
    rename_i hg
    have hgk : goodK key = true := by simpa using hg
    have hk32 : 0 < key.size ∧ key.size ≤ 32 := by
      simp only [goodK, Bool.and_eq_true, decide_eq_true_eq] at hgk
      exact hgk
    have hrs := rec_size kD key ⟨#[]⟩
    have hkp : kD.size = 1 := rfl
    have hz : (⟨#[]⟩ : ByteArray).size = 0 := rfl
    refine (write_good ⟨l, ps, false⟩ hx hl kD key ⟨#[]⟩ (by decide) (by omega) (by decide) (by omega) (hroom hgk)).mono ?_
    rintro _ _ ⟨l', rfl, rfl, hl'⟩
    conv => whnf
    repeat' (first | ((with_reducible apply z_wrap); (focus omega); (conv => whnf)) | ((with_reducible refine mt_dec (fun _ => ?_) (fun _ => ?_)) <;> (conv => whnf)) | ((with_reducible refine mt_eq (fun _ => ?_) (fun _ => ?_)) <;> (conv => whnf)) | ((with_reducible refine mt_ne (fun _ => ?_) (fun _ => ?_)) <;> (conv => whnf)) | ((with_reducible refine mt_not (fun _ => ?_) (fun _ => ?_)) <;> (conv => whnf)) | ((with_reducible refine mt_any (fun _ => ?_) (fun _ => ?_)) <;> (conv => whnf)))
    refine (unset_ok ⟨l', ps, false⟩ hp key).mono ?_
    rintro _ _ ⟨rfl, rfl⟩
    conv => whnf
    repeat' (first | ((with_reducible apply z_wrap); (focus omega); (conv => whnf)) | ((with_reducible refine mt_dec (fun _ => ?_) (fun _ => ?_)) <;> (conv => whnf)) | ((with_reducible refine mt_eq (fun _ => ?_) (fun _ => ?_)) <;> (conv => whnf)) | ((with_reducible refine mt_ne (fun _ => ?_) (fun _ => ?_)) <;> (conv => whnf)) | ((with_reducible refine mt_not (fun _ => ?_) (fun _ => ?_)) <;> (conv => whnf)) | ((with_reducible refine mt_any (fun _ => ?_) (fun _ => ?_)) <;> (conv => whnf)))
    exact q3 hgk (by rw [f1]; simp) l' hl'
end Go.Proofs.Ytpedbknmkgcldaa

namespace Go.Proofs.Ytpedbknmkgcldaa
open Go.Ab Go.RowKit Go.MapKept
attribute [local irreducible] ACalls AW ADraw Into
set_option maxRecDepth 100000
def getR (o : Option ByteArray) : AV := match o with | some v => .tup [.d (.str v), .d (.int .i64 0)] | none => .tup [.d (.str ⟨#[]⟩), .d (.int .i64 3)]
theorem get_ok (k : Kp) (key : ByteArray) : ACalls Try.prog 58 [.ptr 0 0, .d (.str key)] k.K (fun av L => av = getR (getP key k.ps) ∧ L = k.K) := by
  refine acalls_go ttOk zOk foOk Try.func58 rfl Try.ntmps58 rfl false rfl ?_
  conv => whnf
  repeat' (first | ((with_reducible apply z_wrap); (focus omega); (conv => whnf)) | ((with_reducible refine mt_dec (fun _ => ?_) (fun _ => ?_)) <;> (conv => whnf)) | ((with_reducible refine mt_eq (fun _ => ?_) (fun _ => ?_)) <;> (conv => whnf)) | ((with_reducible refine mt_ne (fun _ => ?_) (fun _ => ?_)) <;> (conv => whnf)) | ((with_reducible refine mt_not (fun _ => ?_) (fun _ => ?_)) <;> (conv => whnf)) | ((with_reducible refine mt_any (fun _ => ?_) (fun _ => ?_)) <;> (conv => whnf)))
  cases hf : findP key k.ps 0 with
  | none =>
    refine ⟨_, mf_none hf, ?_⟩
    rw [(findP_none hf).1]
    conv => whnf
    repeat' (first | ((with_reducible apply z_wrap); (focus omega); (conv => whnf)) | ((with_reducible refine mt_dec (fun _ => ?_) (fun _ => ?_)) <;> (conv => whnf)) | ((with_reducible refine mt_eq (fun _ => ?_) (fun _ => ?_)) <;> (conv => whnf)) | ((with_reducible refine mt_ne (fun _ => ?_) (fun _ => ?_)) <;> (conv => whnf)) | ((with_reducible refine mt_not (fun _ => ?_) (fun _ => ?_)) <;> (conv => whnf)) | ((with_reducible refine mt_any (fun _ => ?_) (fun _ => ?_)) <;> (conv => whnf)))
    exact ⟨rfl, rfl⟩
  | some p =>
    obtain ⟨i, v⟩ := p
    refine ⟨_, mf_some hf, ?_⟩
    rw [(findP_some hf).2.1]
    conv => whnf
    repeat' (first | ((with_reducible apply z_wrap); (focus omega); (conv => whnf)) | ((with_reducible refine mt_dec (fun _ => ?_) (fun _ => ?_)) <;> (conv => whnf)) | ((with_reducible refine mt_eq (fun _ => ?_) (fun _ => ?_)) <;> (conv => whnf)) | ((with_reducible refine mt_ne (fun _ => ?_) (fun _ => ?_)) <;> (conv => whnf)) | ((with_reducible refine mt_not (fun _ => ?_) (fun _ => ?_)) <;> (conv => whnf)) | ((with_reducible refine mt_any (fun _ => ?_) (fun _ => ?_)) <;> (conv => whnf)))
    exact ⟨rfl, rfl⟩
theorem getC (l : Lg) (ps : List (ByteArray × ByteArray)) (dead : Bool) (key : ByteArray) : ACalls Try.prog 58 [.ptr 0 0, .d (.str key)] (Kc l ps dead) (fun av L => av = getR (getP key ps) ∧ L = Kc l ps dead) := get_ok ⟨l, ps, dead⟩ key
end Go.Proofs.Ytpedbknmkgcldaa

namespace Go.Proofs.Ytpedbknmkgcldaa
open Go.Ab Go.RowKit Go.MapKept
attribute [local irreducible] ACalls AW ADraw Into
set_option maxRecDepth 100000
theorem num11_ok (n : Int) : ACalls Try.prog 54 [.d (.int .i64 n)] [] (fun av L => av = .d (.int .i64 n) ∧ L = []) := by
  refine acalls_go ttOk zOk foOk Try.func54 rfl Try.ntmps54 rfl false rfl ?_
  conv => whnf
  exact ⟨rfl, rfl⟩
/-- the store as an opening tells it, the disk ahead of it -/
def Ko (l : Lg) (ps : List (ByteArray × ByteArray)) : List AB := [.cells [.d (.int .i64 l.d.calls), .d (.bool l.d.off), .d (.int .i64 l.d.upto), .map 1], .map (l.d.fs.map Fl.ent), .cells [.ptr 3 0, .map 4, .d (.int .i64 (psum ps)), .d (.bool false)], .cells (.ptr 0 0 :: .arr 5 :: l.tail), .map (ps.map pe), .row 9 1 (strs l.recs) l.sh]
set_option maxHeartbeats 4000000 in
theorem kopen_new : ACalls Try.prog 53 [.ptr 0 0] newDk.L (fun av L => av = .tup [.ptr 2 0, .d (.int .i64 0)] ∧ ∃ l : Lg, L = Ko l [] ∧ l.dat = LS0.l) := by
  refine acalls_go ttOk zOk foOk Try.func53 rfl Try.ntmps53 rfl true rfl ?_
  conv => whnf
  repeat' (first | ((with_reducible apply z_wrap); (focus omega); (conv => whnf)) | ((with_reducible refine mt_dec (fun _ => ?_) (fun _ => ?_)) <;> (conv => whnf)) | ((with_reducible refine mt_eq (fun _ => ?_) (fun _ => ?_)) <;> (conv => whnf)) | ((with_reducible refine mt_ne (fun _ => ?_) (fun _ => ?_)) <;> (conv => whnf)) | ((with_reducible refine mt_not (fun _ => ?_) (fun _ => ?_)) <;> (conv => whnf)) | ((with_reducible refine mt_any (fun _ => ?_) (fun _ => ?_)) <;> (conv => whnf)))
  refine open_good.mono ?_
  rintro _ _ ⟨rfl, l, rfl, hl⟩
  conv => whnf
  repeat' (first | ((with_reducible apply z_wrap); (focus omega); (conv => whnf)) | ((with_reducible refine mt_dec (fun _ => ?_) (fun _ => ?_)) <;> (conv => whnf)) | ((with_reducible refine mt_eq (fun _ => ?_) (fun _ => ?_)) <;> (conv => whnf)) | ((with_reducible refine mt_ne (fun _ => ?_) (fun _ => ?_)) <;> (conv => whnf)) | ((with_reducible refine mt_not (fun _ => ?_) (fun _ => ?_)) <;> (conv => whnf)) | ((with_reducible refine mt_any (fun _ => ?_) (fun _ => ?_)) <;> (conv => whnf)))
  obtain ⟨_, _, p3, p4⟩ := LS.pre LS0_ok hl
  refine (all_ok l p3).mono ?_
  rintro _ _ ⟨rfl, rfl⟩
  have hr : l.recs = [] := p4
  conv => whnf
  repeat' (first | ((with_reducible apply z_wrap); (focus omega); (conv => whnf)) | ((with_reducible refine mt_dec (fun _ => ?_) (fun _ => ?_)) <;> (conv => whnf)) | ((with_reducible refine mt_eq (fun _ => ?_) (fun _ => ?_)) <;> (conv => whnf)) | ((with_reducible refine mt_ne (fun _ => ?_) (fun _ => ?_)) <;> (conv => whnf)) | ((with_reducible refine mt_not (fun _ => ?_) (fun _ => ?_)) <;> (conv => whnf)) | ((with_reducible refine mt_any (fun _ => ?_) (fun _ => ?_)) <;> (conv => whnf)))
  refine loop_go ttOk zOk foOk (σ := Unit) (fun _ => ([(6, .ptr 2 0), (22, .arr 3), (23, .d (.int .i64 (strs l.recs).length)), (24, .d (.int .i64 0))], [.cells [.d (.int .i64 l.d.calls), .d (.bool l.d.off), .d (.int .i64 l.d.upto), .map 1], .map (l.d.fs.map Fl.ent), .cells [.ptr 4 0, .map 5, .d (.int .i64 (psum [])), .d (.bool false)], .row 9 1 (strs l.recs) false, .cells (.ptr 0 0 :: .arr 6 :: l.tail), .map [], .row 9 1 (strs l.recs) l.sh])) (fun _ => True) (fun _ => 0) [6, 22, 23, 24] ?_ ?_
  · conv => whnf
    exact ⟨(), rfl, rfl, trivial⟩
  · intro _ _
    conv => whnf
    have hz : (strs l.recs).length = 0 := by rw [hr]; rfl
    repeat' (first | ((with_reducible apply z_wrap); (focus omega); (conv => whnf)) | ((with_reducible refine mt_dec (fun _ => ?_) (fun _ => ?_)) <;> (conv => whnf)) | ((with_reducible refine mt_eq (fun _ => ?_) (fun _ => ?_)) <;> (conv => whnf)) | ((with_reducible refine mt_ne (fun _ => ?_) (fun _ => ?_)) <;> (conv => whnf)) | ((with_reducible refine mt_not (fun _ => ?_) (fun _ => ?_)) <;> (conv => whnf)) | ((with_reducible refine mt_any (fun _ => ?_) (fun _ => ?_)) <;> (conv => whnf)))
    · rename_i h
      exfalso; omega
    · exact ⟨rfl, l, rfl, hl⟩
end Go.Proofs.Ytpedbknmkgcldaa

namespace Go.Proofs.Ytpedbknmkgcldaa
open Go.Ab Go.RowKit Go.MapKept
attribute [local irreducible] ACalls AW ADraw Into
set_option maxRecDepth 100000
theorem wrap8 (n : Nat) (h : n ≤ 255) : ((UInt8.ofNat n).toNat : Int) = n := by simp; omega
theorem readP_ok (k : Kp) (hp : psum k.ps ≤ 1000000000) (hn : (k.ps.map (·.1)).Nodup) (key val : ByteArray) (hk : key.size ≤ 32) (hv : val.size ≤ 100000) : ACalls Try.prog 95 [.ptr 0 0, .d (.str (recK kP key val))] k.K (fun av L => av = .d (.bool true) ∧ L = Kp.K { k with ps := setP key val k.ps }) := by
  have hs := rec_size kP key val
  have hkp : kP.size = 1 := rfl
  have h1 := rec_at kP key val hkp
  have h2 := rec_key kP key val hkp
  have h3 := rec_val kP key val hkp
  have h4 := rec_kind kP key val hkp
  obtain ⟨s, hrec⟩ : ∃ s, recK kP key val = s := ⟨_, rfl⟩
  rw [hrec] at hs h1 h2 h3 h4 ⊢
  obtain ⟨c, hc⟩ : ∃ c, UInt8.ofNat key.size = c := ⟨_, rfl⟩
  have hcn : (c.toNat : Int) = key.size := by rw [← hc]; exact wrap8 _ (by omega)
  rw [hc] at h1
  have e1 : s.extract (Int.toNat 2) (2 + (c.toNat : Int)).toNat = key := by rw [show (2 + (c.toNat : Int)).toNat = 2 + key.size by omega]; exact h2
  have e2 : s.extract (2 + (c.toNat : Int)).toNat ((s.size : Nat) : Int).toNat = val := by rw [show (2 + (c.toNat : Int)).toNat = 2 + key.size by omega, Int.toNat_natCast]; exact h3
  obtain ⟨kk, hkk⟩ : ∃ kk, kk = kP := ⟨_, rfl⟩
  have e3 : s.extract (Int.toNat 0) (Int.toNat 1) = kk := by rw [hkk]; exact h4
  refine acalls_go ttOk zOk foOk Try.func95 rfl Try.ntmps95 rfl false rfl ?_
  conv => whnf
  repeat' (first | ((with_reducible apply rd_intro); (focus (intro K hK; (conv => whnf); first | exact hK | (intro z hz; rw [wrapI (by omega)] at hz; subst hz; exact hK))); (conv => whnf)) | ((with_reducible apply gd_and); (focus ((conv => whnf); first | rfl | (intro K hK; (conv => whnf); first | exact hK | (intro z hz; rw [wrapI (by omega)] at hz; subst hz; exact hK)))); (conv => whnf)) | ((with_reducible apply z_wrap); (focus omega); (conv => whnf)) | ((with_reducible refine mt_dec (fun _ => ?_) (fun _ => ?_)) <;> (conv => whnf)) | ((with_reducible refine mt_eq (fun _ => ?_) (fun _ => ?_)) <;> (conv => whnf)) | ((with_reducible refine mt_ne (fun _ => ?_) (fun _ => ?_)) <;> (conv => whnf)) | ((with_reducible refine mt_not (fun _ => ?_) (fun _ => ?_)) <;> (conv => whnf)) | ((with_reducible refine mt_any (fun _ => ?_) (fun _ => ?_)) <;> (conv => whnf)))
  · exfalso; omega
  ((with_reducible refine ix_str h1 ?_ ?_); (focus (first | rfl | omega)); (conv => whnf))
  repeat' (first | ((with_reducible apply rd_intro); (focus (intro K hK; (conv => whnf); first | exact hK | (intro z hz; rw [wrapI (by omega)] at hz; subst hz; exact hK))); (conv => whnf)) | ((with_reducible apply gd_and); (focus ((conv => whnf); first | rfl | (intro K hK; (conv => whnf); first | exact hK | (intro z hz; rw [wrapI (by omega)] at hz; subst hz; exact hK)))); (conv => whnf)) | ((with_reducible apply z_wrap); (focus omega); (conv => whnf)) | ((with_reducible refine mt_dec (fun _ => ?_) (fun _ => ?_)) <;> (conv => whnf)) | ((with_reducible refine mt_eq (fun _ => ?_) (fun _ => ?_)) <;> (conv => whnf)) | ((with_reducible refine mt_ne (fun _ => ?_) (fun _ => ?_)) <;> (conv => whnf)) | ((with_reducible refine mt_not (fun _ => ?_) (fun _ => ?_)) <;> (conv => whnf)) | ((with_reducible refine mt_any (fun _ => ?_) (fun _ => ?_)) <;> (conv => whnf)))
  · exfalso; omega
  rename_i hge
  ((with_reducible refine draw_pl ttOk zOk foOk mixedOk pl95x3 ?_ ?_); (focus kernel_rfl); (conv => whnf))
  repeat' (first | ((with_reducible apply rd_intro); (focus (intro K hK; (conv => whnf); first | exact hK | (intro z hz; rw [wrapI (by omega)] at hz; subst hz; exact hK))); (conv => whnf)) | ((with_reducible apply gd_and); (focus ((conv => whnf); first | rfl | (intro K hK; (conv => whnf); first | exact hK | (intro z hz; rw [wrapI (by omega)] at hz; subst hz; exact hK)))); (conv => whnf)) | ((with_reducible apply z_wrap); (focus omega); (conv => whnf)) | ((with_reducible refine mt_dec (fun _ => ?_) (fun _ => ?_)) <;> (conv => whnf)) | ((with_reducible refine mt_eq (fun _ => ?_) (fun _ => ?_)) <;> (conv => whnf)) | ((with_reducible refine mt_ne (fun _ => ?_) (fun _ => ?_)) <;> (conv => whnf)) | ((with_reducible refine mt_not (fun _ => ?_) (fun _ => ?_)) <;> (conv => whnf)) | ((with_reducible refine mt_any (fun _ => ?_) (fun _ => ?_)) <;> (conv => whnf)))
  ((with_reducible apply rd_intro); (focus (intro K hK; (conv => whnf); exact ⟨by decide, c, h1, hK⟩)); (conv => whnf))
  repeat' (first | ((with_reducible apply rd_intro); (focus (intro K hK; (conv => whnf); first | exact hK | (intro z hz; rw [wrapI (by omega)] at hz; subst hz; exact hK))); (conv => whnf)) | ((with_reducible apply gd_and); (focus ((conv => whnf); first | rfl | (intro K hK; (conv => whnf); first | exact hK | (intro z hz; rw [wrapI (by omega)] at hz; subst hz; exact hK)))); (conv => whnf)) | ((with_reducible apply z_wrap); (focus omega); (conv => whnf)) | ((with_reducible refine mt_dec (fun _ => ?_) (fun _ => ?_)) <;> (conv => whnf)) | ((with_reducible refine mt_eq (fun _ => ?_) (fun _ => ?_)) <;> (conv => whnf)) | ((with_reducible refine mt_ne (fun _ => ?_) (fun _ => ?_)) <;> (conv => whnf)) | ((with_reducible refine mt_not (fun _ => ?_) (fun _ => ?_)) <;> (conv => whnf)) | ((with_reducible refine mt_any (fun _ => ?_) (fun _ => ?_)) <;> (conv => whnf)))
  ((with_reducible apply rd_intro); (focus (intro K hK; (conv => whnf); refine ⟨by decide, by omega, by omega, ?_⟩; rw [e1]; exact hK)); (conv => whnf))
  repeat' (first | ((with_reducible apply rd_intro); (focus (intro K hK; (conv => whnf); first | exact hK | (intro z hz; rw [wrapI (by omega)] at hz; subst hz; exact hK))); (conv => whnf)) | ((with_reducible apply gd_and); (focus ((conv => whnf); first | rfl | (intro K hK; (conv => whnf); first | exact hK | (intro z hz; rw [wrapI (by omega)] at hz; subst hz; exact hK)))); (conv => whnf)) | ((with_reducible apply z_wrap); (focus omega); (conv => whnf)) | ((with_reducible refine mt_dec (fun _ => ?_) (fun _ => ?_)) <;> (conv => whnf)) | ((with_reducible refine mt_eq (fun _ => ?_) (fun _ => ?_)) <;> (conv => whnf)) | ((with_reducible refine mt_ne (fun _ => ?_) (fun _ => ?_)) <;> (conv => whnf)) | ((with_reducible refine mt_not (fun _ => ?_) (fun _ => ?_)) <;> (conv => whnf)) | ((with_reducible refine mt_any (fun _ => ?_) (fun _ => ?_)) <;> (conv => whnf)))
  ((with_reducible apply rd_intro); (focus (intro K hK; (conv => whnf); exact ⟨by decide, c, h1, hK⟩)); (conv => whnf))
  repeat' (first | ((with_reducible apply rd_intro); (focus (intro K hK; (conv => whnf); first | exact hK | (intro z hz; rw [wrapI (by omega)] at hz; subst hz; exact hK))); (conv => whnf)) | ((with_reducible apply gd_and); (focus ((conv => whnf); first | rfl | (intro K hK; (conv => whnf); first | exact hK | (intro z hz; rw [wrapI (by omega)] at hz; subst hz; exact hK)))); (conv => whnf)) | ((with_reducible apply z_wrap); (focus omega); (conv => whnf)) | ((with_reducible refine mt_dec (fun _ => ?_) (fun _ => ?_)) <;> (conv => whnf)) | ((with_reducible refine mt_eq (fun _ => ?_) (fun _ => ?_)) <;> (conv => whnf)) | ((with_reducible refine mt_ne (fun _ => ?_) (fun _ => ?_)) <;> (conv => whnf)) | ((with_reducible refine mt_not (fun _ => ?_) (fun _ => ?_)) <;> (conv => whnf)) | ((with_reducible refine mt_any (fun _ => ?_) (fun _ => ?_)) <;> (conv => whnf)))
  ((with_reducible apply rd_intro); (focus (intro K hK; (conv => whnf); refine ⟨by omega, by omega, by omega, ?_⟩; rw [e2]; exact hK)); (conv => whnf))
  repeat' (first | ((with_reducible apply rd_intro); (focus (intro K hK; (conv => whnf); first | exact hK | (intro z hz; rw [wrapI (by omega)] at hz; subst hz; exact hK))); (conv => whnf)) | ((with_reducible apply gd_and); (focus ((conv => whnf); first | rfl | (intro K hK; (conv => whnf); first | exact hK | (intro z hz; rw [wrapI (by omega)] at hz; subst hz; exact hK)))); (conv => whnf)) | ((with_reducible apply z_wrap); (focus omega); (conv => whnf)) | ((with_reducible refine mt_dec (fun _ => ?_) (fun _ => ?_)) <;> (conv => whnf)) | ((with_reducible refine mt_eq (fun _ => ?_) (fun _ => ?_)) <;> (conv => whnf)) | ((with_reducible refine mt_ne (fun _ => ?_) (fun _ => ?_)) <;> (conv => whnf)) | ((with_reducible refine mt_not (fun _ => ?_) (fun _ => ?_)) <;> (conv => whnf)) | ((with_reducible refine mt_any (fun _ => ?_) (fun _ => ?_)) <;> (conv => whnf)))
  refine ⟨by decide, by decide, by omega, ?_⟩
  rw [e3]
  conv => whnf
  ((with_reducible refine mt_any (fun _ => ?_) (fun _ => ?_)) <;> (conv => whnf))
  · refine (set_ok k hp hn key val (by omega) (by omega)).mono ?_
    rintro _ _ ⟨rfl, rfl⟩
    conv => whnf
    exact ⟨rfl, rfl⟩
  · rename_i h
    exfalso
    rw [hkk, ByteArray.toList_eq, ByteArray.toList_eq] at h
    exact absurd h (by decide)
theorem readD_ok (k : Kp) (hp : psum k.ps ≤ 1000000000) (key val : ByteArray) (hk : key.size ≤ 32) (hv : val.size ≤ 100000) : ACalls Try.prog 95 [.ptr 0 0, .d (.str (recK kD key val))] k.K (fun av L => av = .d (.bool true) ∧ L = Kp.K { k with ps := delP key k.ps }) := by
  have hs := rec_size kD key val
  have hkp : kD.size = 1 := rfl
  have h1 := rec_at kD key val hkp
  have h2 := rec_key kD key val hkp
  have h3 := rec_val kD key val hkp
  have h4 := rec_kind kD key val hkp
  obtain ⟨s, hrec⟩ : ∃ s, recK kD key val = s := ⟨_, rfl⟩
  rw [hrec] at hs h1 h2 h3 h4 ⊢
  obtain ⟨c, hc⟩ : ∃ c, UInt8.ofNat key.size = c := ⟨_, rfl⟩
  have hcn : (c.toNat : Int) = key.size := by rw [← hc]; exact wrap8 _ (by omega)
  rw [hc] at h1
  have e1 : s.extract (Int.toNat 2) (2 + (c.toNat : Int)).toNat = key := by rw [show (2 + (c.toNat : Int)).toNat = 2 + key.size by omega]; exact h2
  have e2 : s.extract (2 + (c.toNat : Int)).toNat ((s.size : Nat) : Int).toNat = val := by rw [show (2 + (c.toNat : Int)).toNat = 2 + key.size by omega, Int.toNat_natCast]; exact h3
  obtain ⟨kk, hkk⟩ : ∃ kk, kk = kD := ⟨_, rfl⟩
  have e3 : s.extract (Int.toNat 0) (Int.toNat 1) = kk := by rw [hkk]; exact h4
  refine acalls_go ttOk zOk foOk Try.func95 rfl Try.ntmps95 rfl false rfl ?_
  conv => whnf
  repeat' (first | ((with_reducible apply rd_intro); (focus (intro K hK; (conv => whnf); first | exact hK | (intro z hz; rw [wrapI (by omega)] at hz; subst hz; exact hK))); (conv => whnf)) | ((with_reducible apply gd_and); (focus ((conv => whnf); first | rfl | (intro K hK; (conv => whnf); first | exact hK | (intro z hz; rw [wrapI (by omega)] at hz; subst hz; exact hK)))); (conv => whnf)) | ((with_reducible apply z_wrap); (focus omega); (conv => whnf)) | ((with_reducible refine mt_dec (fun _ => ?_) (fun _ => ?_)) <;> (conv => whnf)) | ((with_reducible refine mt_eq (fun _ => ?_) (fun _ => ?_)) <;> (conv => whnf)) | ((with_reducible refine mt_ne (fun _ => ?_) (fun _ => ?_)) <;> (conv => whnf)) | ((with_reducible refine mt_not (fun _ => ?_) (fun _ => ?_)) <;> (conv => whnf)) | ((with_reducible refine mt_any (fun _ => ?_) (fun _ => ?_)) <;> (conv => whnf)))
  · exfalso; omega
  ((with_reducible refine ix_str h1 ?_ ?_); (focus (first | rfl | omega)); (conv => whnf))
  repeat' (first | ((with_reducible apply rd_intro); (focus (intro K hK; (conv => whnf); first | exact hK | (intro z hz; rw [wrapI (by omega)] at hz; subst hz; exact hK))); (conv => whnf)) | ((with_reducible apply gd_and); (focus ((conv => whnf); first | rfl | (intro K hK; (conv => whnf); first | exact hK | (intro z hz; rw [wrapI (by omega)] at hz; subst hz; exact hK)))); (conv => whnf)) | ((with_reducible apply z_wrap); (focus omega); (conv => whnf)) | ((with_reducible refine mt_dec (fun _ => ?_) (fun _ => ?_)) <;> (conv => whnf)) | ((with_reducible refine mt_eq (fun _ => ?_) (fun _ => ?_)) <;> (conv => whnf)) | ((with_reducible refine mt_ne (fun _ => ?_) (fun _ => ?_)) <;> (conv => whnf)) | ((with_reducible refine mt_not (fun _ => ?_) (fun _ => ?_)) <;> (conv => whnf)) | ((with_reducible refine mt_any (fun _ => ?_) (fun _ => ?_)) <;> (conv => whnf)))
  · exfalso; omega
  rename_i hge
  ((with_reducible refine draw_pl ttOk zOk foOk mixedOk pl95x3 ?_ ?_); (focus kernel_rfl); (conv => whnf))
  repeat' (first | ((with_reducible apply rd_intro); (focus (intro K hK; (conv => whnf); first | exact hK | (intro z hz; rw [wrapI (by omega)] at hz; subst hz; exact hK))); (conv => whnf)) | ((with_reducible apply gd_and); (focus ((conv => whnf); first | rfl | (intro K hK; (conv => whnf); first | exact hK | (intro z hz; rw [wrapI (by omega)] at hz; subst hz; exact hK)))); (conv => whnf)) | ((with_reducible apply z_wrap); (focus omega); (conv => whnf)) | ((with_reducible refine mt_dec (fun _ => ?_) (fun _ => ?_)) <;> (conv => whnf)) | ((with_reducible refine mt_eq (fun _ => ?_) (fun _ => ?_)) <;> (conv => whnf)) | ((with_reducible refine mt_ne (fun _ => ?_) (fun _ => ?_)) <;> (conv => whnf)) | ((with_reducible refine mt_not (fun _ => ?_) (fun _ => ?_)) <;> (conv => whnf)) | ((with_reducible refine mt_any (fun _ => ?_) (fun _ => ?_)) <;> (conv => whnf)))
  ((with_reducible apply rd_intro); (focus (intro K hK; (conv => whnf); exact ⟨by decide, c, h1, hK⟩)); (conv => whnf))
  repeat' (first | ((with_reducible apply rd_intro); (focus (intro K hK; (conv => whnf); first | exact hK | (intro z hz; rw [wrapI (by omega)] at hz; subst hz; exact hK))); (conv => whnf)) | ((with_reducible apply gd_and); (focus ((conv => whnf); first | rfl | (intro K hK; (conv => whnf); first | exact hK | (intro z hz; rw [wrapI (by omega)] at hz; subst hz; exact hK)))); (conv => whnf)) | ((with_reducible apply z_wrap); (focus omega); (conv => whnf)) | ((with_reducible refine mt_dec (fun _ => ?_) (fun _ => ?_)) <;> (conv => whnf)) | ((with_reducible refine mt_eq (fun _ => ?_) (fun _ => ?_)) <;> (conv => whnf)) | ((with_reducible refine mt_ne (fun _ => ?_) (fun _ => ?_)) <;> (conv => whnf)) | ((with_reducible refine mt_not (fun _ => ?_) (fun _ => ?_)) <;> (conv => whnf)) | ((with_reducible refine mt_any (fun _ => ?_) (fun _ => ?_)) <;> (conv => whnf)))
  ((with_reducible apply rd_intro); (focus (intro K hK; (conv => whnf); refine ⟨by decide, by omega, by omega, ?_⟩; rw [e1]; exact hK)); (conv => whnf))
  repeat' (first | ((with_reducible apply rd_intro); (focus (intro K hK; (conv => whnf); first | exact hK | (intro z hz; rw [wrapI (by omega)] at hz; subst hz; exact hK))); (conv => whnf)) | ((with_reducible apply gd_and); (focus ((conv => whnf); first | rfl | (intro K hK; (conv => whnf); first | exact hK | (intro z hz; rw [wrapI (by omega)] at hz; subst hz; exact hK)))); (conv => whnf)) | ((with_reducible apply z_wrap); (focus omega); (conv => whnf)) | ((with_reducible refine mt_dec (fun _ => ?_) (fun _ => ?_)) <;> (conv => whnf)) | ((with_reducible refine mt_eq (fun _ => ?_) (fun _ => ?_)) <;> (conv => whnf)) | ((with_reducible refine mt_ne (fun _ => ?_) (fun _ => ?_)) <;> (conv => whnf)) | ((with_reducible refine mt_not (fun _ => ?_) (fun _ => ?_)) <;> (conv => whnf)) | ((with_reducible refine mt_any (fun _ => ?_) (fun _ => ?_)) <;> (conv => whnf)))
  ((with_reducible apply rd_intro); (focus (intro K hK; (conv => whnf); exact ⟨by decide, c, h1, hK⟩)); (conv => whnf))
  repeat' (first | ((with_reducible apply rd_intro); (focus (intro K hK; (conv => whnf); first | exact hK | (intro z hz; rw [wrapI (by omega)] at hz; subst hz; exact hK))); (conv => whnf)) | ((with_reducible apply gd_and); (focus ((conv => whnf); first | rfl | (intro K hK; (conv => whnf); first | exact hK | (intro z hz; rw [wrapI (by omega)] at hz; subst hz; exact hK)))); (conv => whnf)) | ((with_reducible apply z_wrap); (focus omega); (conv => whnf)) | ((with_reducible refine mt_dec (fun _ => ?_) (fun _ => ?_)) <;> (conv => whnf)) | ((with_reducible refine mt_eq (fun _ => ?_) (fun _ => ?_)) <;> (conv => whnf)) | ((with_reducible refine mt_ne (fun _ => ?_) (fun _ => ?_)) <;> (conv => whnf)) | ((with_reducible refine mt_not (fun _ => ?_) (fun _ => ?_)) <;> (conv => whnf)) | ((with_reducible refine mt_any (fun _ => ?_) (fun _ => ?_)) <;> (conv => whnf)))
  ((with_reducible apply rd_intro); (focus (intro K hK; (conv => whnf); refine ⟨by omega, by omega, by omega, ?_⟩; rw [e2]; exact hK)); (conv => whnf))
  repeat' (first | ((with_reducible apply rd_intro); (focus (intro K hK; (conv => whnf); first | exact hK | (intro z hz; rw [wrapI (by omega)] at hz; subst hz; exact hK))); (conv => whnf)) | ((with_reducible apply gd_and); (focus ((conv => whnf); first | rfl | (intro K hK; (conv => whnf); first | exact hK | (intro z hz; rw [wrapI (by omega)] at hz; subst hz; exact hK)))); (conv => whnf)) | ((with_reducible apply z_wrap); (focus omega); (conv => whnf)) | ((with_reducible refine mt_dec (fun _ => ?_) (fun _ => ?_)) <;> (conv => whnf)) | ((with_reducible refine mt_eq (fun _ => ?_) (fun _ => ?_)) <;> (conv => whnf)) | ((with_reducible refine mt_ne (fun _ => ?_) (fun _ => ?_)) <;> (conv => whnf)) | ((with_reducible refine mt_not (fun _ => ?_) (fun _ => ?_)) <;> (conv => whnf)) | ((with_reducible refine mt_any (fun _ => ?_) (fun _ => ?_)) <;> (conv => whnf)))
  refine ⟨by decide, by decide, by omega, ?_⟩
  rw [e3]
  conv => whnf
  ((with_reducible refine mt_any (fun _ => ?_) (fun _ => ?_)) <;> (conv => whnf))
  · rename_i h
    exfalso
    rw [hkk, ByteArray.toList_eq, ByteArray.toList_eq] at h
    exact absurd h (by decide)
  ((with_reducible refine mt_any (fun _ => ?_) (fun _ => ?_)) <;> (conv => whnf))
  · refine (unset_ok k hp key).mono ?_
    rintro _ _ ⟨rfl, rfl⟩
    conv => whnf
    exact ⟨rfl, rfl⟩
  · rename_i h
    exfalso
    rw [hkk, ByteArray.toList_eq, ByteArray.toList_eq] at h
    exact absurd h (by decide)
end Go.Proofs.Ytpedbknmkgcldaa

namespace Go.Proofs.Ytpedbknmkgcldaa
open Go.Ab Go.RowKit Go.MapKept
attribute [local irreducible] ACalls AW ADraw Into
set_option maxRecDepth 100000
def num4 (b : List UInt8) : Int := match b with | a :: b :: c :: d :: _ => numL a b c d | _ => 0
def scan1 (b : List UInt8) : Option ByteArray :=
  if b.length < 9 then none else
  if num4 b > 4096 ∨ num4 b > (b.length : Int) - 9 ∨ b[(num4 b).toNat + 8]? ≠ some 1 then none else
  if num4 (b.drop (4 + (num4 b).toNat)) ≠ chk ((b.drop 4).take (num4 b).toNat) then none else some ⟨((b.drop 4).take (num4 b).toNat).toArray⟩
theorem scan1_len {b : List UInt8} {s : ByteArray} (h : scan1 b = some s) : 9 ≤ b.length := by
  unfold scan1 at h
  split at h
  · cases h
  · omega
def scanL (b : List UInt8) : List ByteArray :=
  match h : scan1 b with
  | none => []
  | some s => s :: scanL (b.drop (s.size + 9))
termination_by b.length
decreasing_by
  have := scan1_len h
  simp only [List.length_drop]
  omega
theorem scanL_none {b : List UInt8} (h : scan1 b = none) : scanL b = [] := by
  rw [scanL]
  split
  · rfl
  · rename_i s hs; rw [h] at hs; cases hs
theorem scanL_some {b : List UInt8} {s : ByteArray} (h : scan1 b = some s) : scanL b = s :: scanL (b.drop (s.size + 9)) := by
  rw [scanL]
  split
  · rename_i hs; rw [h] at hs; cases hs
  · rename_i s' hs; rw [h] at hs; cases hs; rfl
theorem num4_range (b : List UInt8) : 0 ≤ num4 b ∧ num4 b < 4294967296 := by
  unfold num4
  split
  · rename_i a b c d _
    rw [numL_eq]
    have ha := a.toNat_lt
    have hb := b.toNat_lt
    have hc := c.toNat_lt
    have hd := d.toNat_lt
    omega
  · omega
theorem number4 (xs : List UInt8) (h : 4 ≤ xs.length) : ACalls Try.prog 123 [.d (.sl 1 (u8s xs))] [] (fun av L => av = .d (.int .u32 (num4 xs)) ∧ L = []) := by
  match xs, h with
  | a :: b :: c :: d :: r, _ => exact number_ok _ a b c d rfl rfl rfl rfl
theorem u8s_cut (b : List UInt8) (hi lo : Nat) : ((u8s b).take hi).drop lo = u8s ((b.take hi).drop lo) := by simp [u8s]
theorem lay_recs (l : List ByteArray) : l.length ≤ (layL l).length := by
  induction l with
  | nil => simp
  | cons x r ih =>
    have h := frame_len x
    simp only [layL, List.map_cons, List.flatten_cons, List.length_append, List.length_cons] at ih ⊢
    omega
theorem wsum_lay (l : List ByteArray) : wsum l ≤ 2 * ((layL l).length : Int) := by
  induction l with
  | nil => simp [wsum, layL]
  | cons x r ih =>
    have h := frame_len x
    simp only [layL, List.map_cons, List.flatten_cons, List.length_append, wsum] at ih ⊢
    omega
def Lg.ext (l : Lg) (rs : List ByteArray) : Lg := { l with recs := l.recs ++ rs, size := l.size + wsum rs }
def scanB (l : Lg) : List ByteArray → List AB
  | [] => l.L
  | x :: r => (l.ext (x :: r)).L1
set_option maxHeartbeats 4000000 in
theorem scan_ok (l : Lg) (b : List UInt8) (hb : b.length ≤ 1048576) (hz : 0 ≤ l.size ∧ l.size ≤ 1073741824) (hl : l.recs.length ≤ 100000) : ACalls Try.prog 115 [.ptr 0 0, .d (.sl 1 (u8s b))] l.L (fun av L => av = .d (.int .i64 (layL (scanL b)).length) ∧ L = scanB l (scanL b)) := by
  refine acalls_go ttOk zOk foOk Try.func115 rfl Try.ntmps115 rfl false rfl ?_
  conv => whnf
  refine scope_go ttOk zOk foOk (σ := List ByteArray) (fun rs => ([(0, .ptr 0 0), (1, .d (.sl 1 (u8s b))), (6, .d (.int .i64 (layL rs).length))], scanB l rs))
    (fun k rs => (k = 1 ∧ (layL rs).length ≤ b.length ∧ rs ++ scanL (b.drop (layL rs).length) = scanL b) ∨ (k = 0 ∧ rs = scanL b)) (fun k rs => if k = 1 then b.length - (layL rs).length + 1 else 0) ?_ ?_
  · rintro k rest hrest rs hi
    rcases hi with ⟨rfl, hat, hsc⟩ | ⟨rfl, hrs⟩
    · have e := Option.some.inj (show some _ = some rest from hrest)
      subst e
      clear hrest
      have hub : (u8s b).length = b.length := u8s_length _
      obtain ⟨ofs, hofs⟩ : ∃ n, n = (layL rs).length := ⟨_, rfl⟩
      rw [← hofs] at hat hsc ⊢
      rcases hrs : rs with _ | ⟨x, r⟩
      · conv => whnf
        repeat' (first | ((with_reducible apply z_wrap); (focus omega); (conv => whnf)) | ((with_reducible refine mt_dec (fun _ => ?_) (fun _ => ?_)) <;> (conv => whnf)) | ((with_reducible refine mt_eq (fun _ => ?_) (fun _ => ?_)) <;> (conv => whnf)) | ((with_reducible refine mt_ne (fun _ => ?_) (fun _ => ?_)) <;> (conv => whnf)) | ((with_reducible refine mt_not (fun _ => ?_) (fun _ => ?_)) <;> (conv => whnf)) | ((with_reducible refine mt_any (fun _ => ?_) (fun _ => ?_)) <;> (conv => whnf)))
        · rename_i h
          have hno : scan1 (b.drop ofs) = none := by unfold scan1; rw [if_pos (by rw [List.length_drop]; omega)]
          refine into_of [0, 1, 6] ?_
          conv => whnf
          exact ⟨rs, by rw [← hofs], by rw [hrs]; rfl, .inr ⟨rfl, by rw [← hsc, scanL_none hno, List.append_nil]⟩, by simp⟩
        rename_i h9
        have hlen : (b.drop ofs).length = b.length - ofs := List.length_drop
        have h9' : ¬ (b.drop ofs).length < 9 := by omega
        refine ⟨by omega, by omega, by omega, ?_⟩
        rw [show ((u8s b).take (((u8s b).length : Nat) : Int).toNat).drop ((ofs : Int)).toNat = u8s (b.drop ofs) by rw [Int.toNat_natCast, Int.toNat_natCast, u8s_cut, hub, List.take_length]]
        conv => whnf
        repeat' (first | ((with_reducible apply z_wrap); (focus omega); (conv => whnf)) | ((with_reducible refine mt_dec (fun _ => ?_) (fun _ => ?_)) <;> (conv => whnf)) | ((with_reducible refine mt_eq (fun _ => ?_) (fun _ => ?_)) <;> (conv => whnf)) | ((with_reducible refine mt_ne (fun _ => ?_) (fun _ => ?_)) <;> (conv => whnf)) | ((with_reducible refine mt_not (fun _ => ?_) (fun _ => ?_)) <;> (conv => whnf)) | ((with_reducible refine mt_any (fun _ => ?_) (fun _ => ?_)) <;> (conv => whnf)))
        refine (number4 (b.drop ofs) (by rw [List.length_drop]; omega)).mono ?_
        rintro _ _ ⟨rfl, rfl⟩
        have hr4 := num4_range (b.drop ofs)
        obtain ⟨n, hn⟩ : ∃ n : Nat, num4 (b.drop ofs) = n := ⟨(num4 (b.drop ofs)).toNat, by omega⟩
        rw [hn] at hr4 ⊢
        conv => whnf
        repeat' (first | ((with_reducible apply z_wrap); (focus omega); (conv => whnf)) | ((with_reducible refine mt_dec (fun _ => ?_) (fun _ => ?_)) <;> (conv => whnf)) | ((with_reducible refine mt_eq (fun _ => ?_) (fun _ => ?_)) <;> (conv => whnf)) | ((with_reducible refine mt_ne (fun _ => ?_) (fun _ => ?_)) <;> (conv => whnf)) | ((with_reducible refine mt_not (fun _ => ?_) (fun _ => ?_)) <;> (conv => whnf)) | ((with_reducible refine mt_any (fun _ => ?_) (fun _ => ?_)) <;> (conv => whnf)))
        · have hno : scan1 (b.drop ofs) = none := by unfold scan1; rw [if_neg h9', if_pos (by rw [hn]; left; omega)]
          refine into_of [0, 1, 6] ?_
          conv => whnf
          exact ⟨rs, by rw [← hofs], by rw [hrs]; rfl, .inr ⟨rfl, by rw [← hsc, scanL_none hno, List.append_nil]⟩, by simp⟩
        · have hno : scan1 (b.drop ofs) = none := by unfold scan1; rw [if_neg h9', if_pos (by rw [hn, hlen]; right; left; omega)]
          refine into_of [0, 1, 6] ?_
          conv => whnf
          exact ⟨rs, by rw [← hofs], by rw [hrs]; rfl, .inr ⟨rfl, by rw [← hsc, scanL_none hno, List.append_nil]⟩, by simp⟩
        obtain ⟨c, hc⟩ : ∃ c, b[ofs + n + 8]? = some c := ⟨_, List.getElem?_eq_getElem (by omega)⟩
        have hc' : (b.drop ofs)[n + 8]? = some c := by rw [List.getElem?_drop, ← hc]; congr 1
        ((with_reducible refine ix_u8 hc ?_ ?_); (focus (first | rfl | omega)); (conv => whnf))
        repeat' (first | ((with_reducible apply z_wrap); (focus omega); (conv => whnf)) | ((with_reducible refine mt_dec (fun _ => ?_) (fun _ => ?_)) <;> (conv => whnf)) | ((with_reducible refine mt_eq (fun _ => ?_) (fun _ => ?_)) <;> (conv => whnf)) | ((with_reducible refine mt_ne (fun _ => ?_) (fun _ => ?_)) <;> (conv => whnf)) | ((with_reducible refine mt_not (fun _ => ?_) (fun _ => ?_)) <;> (conv => whnf)) | ((with_reducible refine mt_any (fun _ => ?_) (fun _ => ?_)) <;> (conv => whnf)))
        · rename_i h1
          have hno : scan1 (b.drop ofs) = none := by
            unfold scan1
            rw [if_neg h9', if_pos (by rw [hn, Int.toNat_natCast, hc']; right; right; intro e; cases e; exact h1 rfl)]
          refine into_of [0, 1, 6] ?_
          conv => whnf
          exact ⟨rs, by rw [← hofs], by rw [hrs]; rfl, .inr ⟨rfl, by rw [← hsc, scanL_none hno, List.append_nil]⟩, by simp⟩
        rename_i h4096 hroom h1
        have hc1 : c = 1 := UInt8.toNat_inj.1 (show c.toNat = 1 by omega)
        obtain ⟨w, hw⟩ : ∃ w, ((b.drop ofs).drop 4).take n = w := ⟨_, rfl⟩
        have hwl : w.length = n := by rw [← hw, List.length_take, List.length_drop, hlen]; omega
        refine ⟨by omega, by omega, by omega, ?_⟩
        rw [show ((u8s b).take ((ofs : Int) + 4 + n).toNat).drop ((ofs : Int) + 4).toNat = u8s w by rw [show ((ofs : Int) + 4 + n).toNat = ofs + 4 + n by omega, show ((ofs : Int) + 4).toNat = ofs + 4 by omega, u8s_cut, ← hw, List.drop_take, List.drop_drop, show ofs + 4 + n - (ofs + 4) = n by omega]]
        conv => whnf
        repeat' (first | ((with_reducible apply z_wrap); (focus omega); (conv => whnf)) | ((with_reducible refine mt_dec (fun _ => ?_) (fun _ => ?_)) <;> (conv => whnf)) | ((with_reducible refine mt_eq (fun _ => ?_) (fun _ => ?_)) <;> (conv => whnf)) | ((with_reducible refine mt_ne (fun _ => ?_) (fun _ => ?_)) <;> (conv => whnf)) | ((with_reducible refine mt_not (fun _ => ?_) (fun _ => ?_)) <;> (conv => whnf)) | ((with_reducible refine mt_any (fun _ => ?_) (fun _ => ?_)) <;> (conv => whnf)))
        refine ⟨w, rfl, ?_⟩
        obtain ⟨s, hs⟩ : ∃ s : ByteArray, ByteArray.mk w.toArray = s := ⟨_, rfl⟩
        have hsl : s.data.toList = w := by rw [← hs]
        have hss : s.size = n := by rw [← hwl, ← hsl]; simp
        conv => whnf
        rw [hs]
        repeat' (first | ((with_reducible apply z_wrap); (focus omega); (conv => whnf)) | ((with_reducible refine mt_dec (fun _ => ?_) (fun _ => ?_)) <;> (conv => whnf)) | ((with_reducible refine mt_eq (fun _ => ?_) (fun _ => ?_)) <;> (conv => whnf)) | ((with_reducible refine mt_ne (fun _ => ?_) (fun _ => ?_)) <;> (conv => whnf)) | ((with_reducible refine mt_not (fun _ => ?_) (fun _ => ?_)) <;> (conv => whnf)) | ((with_reducible refine mt_any (fun _ => ?_) (fun _ => ?_)) <;> (conv => whnf)))
        refine ⟨by omega, by omega, by omega, ?_⟩
        rw [show ((u8s b).take (((u8s b).length : Nat) : Int).toNat).drop ((ofs : Int) + 4 + n).toNat = u8s ((b.drop ofs).drop (4 + n)) by rw [Int.toNat_natCast, show ((ofs : Int) + 4 + n).toNat = ofs + (4 + n) by omega, u8s_cut, hub, List.take_length, List.drop_drop]]
        conv => whnf
        repeat' (first | ((with_reducible apply z_wrap); (focus omega); (conv => whnf)) | ((with_reducible refine mt_dec (fun _ => ?_) (fun _ => ?_)) <;> (conv => whnf)) | ((with_reducible refine mt_eq (fun _ => ?_) (fun _ => ?_)) <;> (conv => whnf)) | ((with_reducible refine mt_ne (fun _ => ?_) (fun _ => ?_)) <;> (conv => whnf)) | ((with_reducible refine mt_not (fun _ => ?_) (fun _ => ?_)) <;> (conv => whnf)) | ((with_reducible refine mt_any (fun _ => ?_) (fun _ => ?_)) <;> (conv => whnf)))
        refine (number4 ((b.drop ofs).drop (4 + n)) (by rw [List.length_drop]; omega)).mono ?_
        rintro _ _ ⟨rfl, rfl⟩
        conv => whnf
        repeat' (first | ((with_reducible apply z_wrap); (focus omega); (conv => whnf)) | ((with_reducible refine mt_dec (fun _ => ?_) (fun _ => ?_)) <;> (conv => whnf)) | ((with_reducible refine mt_eq (fun _ => ?_) (fun _ => ?_)) <;> (conv => whnf)) | ((with_reducible refine mt_ne (fun _ => ?_) (fun _ => ?_)) <;> (conv => whnf)) | ((with_reducible refine mt_not (fun _ => ?_) (fun _ => ?_)) <;> (conv => whnf)) | ((with_reducible refine mt_any (fun _ => ?_) (fun _ => ?_)) <;> (conv => whnf)))
        refine (check_ok s (by omega)).mono ?_
        rintro _ _ ⟨rfl, rfl⟩
        rw [hsl]
        conv => whnf
        repeat' (first | ((with_reducible apply z_wrap); (focus omega); (conv => whnf)) | ((with_reducible refine mt_dec (fun _ => ?_) (fun _ => ?_)) <;> (conv => whnf)) | ((with_reducible refine mt_eq (fun _ => ?_) (fun _ => ?_)) <;> (conv => whnf)) | ((with_reducible refine mt_ne (fun _ => ?_) (fun _ => ?_)) <;> (conv => whnf)) | ((with_reducible refine mt_not (fun _ => ?_) (fun _ => ?_)) <;> (conv => whnf)) | ((with_reducible refine mt_any (fun _ => ?_) (fun _ => ?_)) <;> (conv => whnf)))
        · rename_i h2
          have hno : scan1 (b.drop ofs) = none := by
            unfold scan1
            rw [if_neg h9', if_neg (by rw [hn, hlen, Int.toNat_natCast, hc', hc1]; rintro (h | h | h) <;> first | omega | exact h rfl), if_pos (by rw [hn, Int.toNat_natCast, hw]; exact h2)]
          refine into_of [0, 1, 6] ?_
          conv => whnf
          exact ⟨rs, by rw [← hofs], by rw [hrs]; rfl, .inr ⟨rfl, by rw [← hsc, scanL_none hno, List.append_nil]⟩, by simp⟩
        rename_i h2
        have hsome : scan1 (b.drop ofs) = some s := by
          unfold scan1
          rw [if_neg h9', if_neg (by rw [hn, hlen, Int.toNat_natCast, hc', hc1]; rintro (h | h | h) <;> first | omega | exact h rfl), if_neg (by rw [hn, Int.toNat_natCast, hw]; intro h; exact h (by simpa using h2)), hn, Int.toNat_natCast, hw, hs]
        have hnew : (layL (rs ++ [s])).length = ofs + (n + 9) := by rw [lay_app, List.length_append, frame_len, hss, ← hofs]
        have hfit : ofs + (n + 9) ≤ b.length := by omega
        have hrl : (l.ext rs).recs.length = l.recs.length + rs.length := by simp [Lg.ext]
        have hrz : (l.ext rs).size = l.size + wsum rs := rfl
        have hrn := lay_recs rs
        have hrw := wsum_lay rs
        have hr0 := wsum_nonneg rs
        rw [← hofs] at hrn hrw
        rw [hrs] at hrl hrn hrz hrw hr0
        refine ⟨by rw [strs_length]; (show (_ + 1) * 16 ≤ _); omega, ?_⟩
        conv => whnf
        repeat' (first | ((with_reducible apply z_wrap); (focus omega); (conv => whnf)) | ((with_reducible refine mt_dec (fun _ => ?_) (fun _ => ?_)) <;> (conv => whnf)) | ((with_reducible refine mt_eq (fun _ => ?_) (fun _ => ?_)) <;> (conv => whnf)) | ((with_reducible refine mt_ne (fun _ => ?_) (fun _ => ?_)) <;> (conv => whnf)) | ((with_reducible refine mt_not (fun _ => ?_) (fun _ => ?_)) <;> (conv => whnf)) | ((with_reducible refine mt_any (fun _ => ?_) (fun _ => ?_)) <;> (conv => whnf)))
        refine into_of [0, 1, 6] ?_
        conv => whnf
        refine ⟨rs ++ [s], by rw [hnew, show ((ofs + (n + 9) : Nat) : Int) = (ofs : Int) + (4 + n + 5) by omega], ?_, .inl ⟨rfl, by rw [hnew]; exact hfit, ?_⟩, by rw [hnew]; simp; omega⟩
        · rw [hrs, strs_app]
          simp [scanB, Lg.L1, Lg.ext, Lg.tail, wsum, hss]
        · rw [hnew, ← hsc, scanL_some hsome, hss, List.drop_drop, List.append_assoc]
          rfl
      · conv => whnf
        repeat' (first | ((with_reducible apply z_wrap); (focus omega); (conv => whnf)) | ((with_reducible refine mt_dec (fun _ => ?_) (fun _ => ?_)) <;> (conv => whnf)) | ((with_reducible refine mt_eq (fun _ => ?_) (fun _ => ?_)) <;> (conv => whnf)) | ((with_reducible refine mt_ne (fun _ => ?_) (fun _ => ?_)) <;> (conv => whnf)) | ((with_reducible refine mt_not (fun _ => ?_) (fun _ => ?_)) <;> (conv => whnf)) | ((with_reducible refine mt_any (fun _ => ?_) (fun _ => ?_)) <;> (conv => whnf)))
        · rename_i h
          have hno : scan1 (b.drop ofs) = none := by unfold scan1; rw [if_pos (by rw [List.length_drop]; omega)]
          refine into_of [0, 1, 6] ?_
          conv => whnf
          exact ⟨rs, by rw [← hofs], by rw [hrs]; rfl, .inr ⟨rfl, by rw [← hsc, scanL_none hno, List.append_nil]⟩, by simp⟩
        rename_i h9
        have hlen : (b.drop ofs).length = b.length - ofs := List.length_drop
        have h9' : ¬ (b.drop ofs).length < 9 := by omega
        refine ⟨by omega, by omega, by omega, ?_⟩
        rw [show ((u8s b).take (((u8s b).length : Nat) : Int).toNat).drop ((ofs : Int)).toNat = u8s (b.drop ofs) by rw [Int.toNat_natCast, Int.toNat_natCast, u8s_cut, hub, List.take_length]]
        conv => whnf
        repeat' (first | ((with_reducible apply z_wrap); (focus omega); (conv => whnf)) | ((with_reducible refine mt_dec (fun _ => ?_) (fun _ => ?_)) <;> (conv => whnf)) | ((with_reducible refine mt_eq (fun _ => ?_) (fun _ => ?_)) <;> (conv => whnf)) | ((with_reducible refine mt_ne (fun _ => ?_) (fun _ => ?_)) <;> (conv => whnf)) | ((with_reducible refine mt_not (fun _ => ?_) (fun _ => ?_)) <;> (conv => whnf)) | ((with_reducible refine mt_any (fun _ => ?_) (fun _ => ?_)) <;> (conv => whnf)))
        refine (number4 (b.drop ofs) (by rw [List.length_drop]; omega)).mono ?_
        rintro _ _ ⟨rfl, rfl⟩
        have hr4 := num4_range (b.drop ofs)
        obtain ⟨n, hn⟩ : ∃ n : Nat, num4 (b.drop ofs) = n := ⟨(num4 (b.drop ofs)).toNat, by omega⟩
        rw [hn] at hr4 ⊢
        conv => whnf
        repeat' (first | ((with_reducible apply z_wrap); (focus omega); (conv => whnf)) | ((with_reducible refine mt_dec (fun _ => ?_) (fun _ => ?_)) <;> (conv => whnf)) | ((with_reducible refine mt_eq (fun _ => ?_) (fun _ => ?_)) <;> (conv => whnf)) | ((with_reducible refine mt_ne (fun _ => ?_) (fun _ => ?_)) <;> (conv => whnf)) | ((with_reducible refine mt_not (fun _ => ?_) (fun _ => ?_)) <;> (conv => whnf)) | ((with_reducible refine mt_any (fun _ => ?_) (fun _ => ?_)) <;> (conv => whnf)))
        · have hno : scan1 (b.drop ofs) = none := by unfold scan1; rw [if_neg h9', if_pos (by rw [hn]; left; omega)]
          refine into_of [0, 1, 6] ?_
          conv => whnf
          exact ⟨rs, by rw [← hofs], by rw [hrs]; rfl, .inr ⟨rfl, by rw [← hsc, scanL_none hno, List.append_nil]⟩, by simp⟩
        · have hno : scan1 (b.drop ofs) = none := by unfold scan1; rw [if_neg h9', if_pos (by rw [hn, hlen]; right; left; omega)]
          refine into_of [0, 1, 6] ?_
          conv => whnf
          exact ⟨rs, by rw [← hofs], by rw [hrs]; rfl, .inr ⟨rfl, by rw [← hsc, scanL_none hno, List.append_nil]⟩, by simp⟩
        obtain ⟨c, hc⟩ : ∃ c, b[ofs + n + 8]? = some c := ⟨_, List.getElem?_eq_getElem (by omega)⟩
        have hc' : (b.drop ofs)[n + 8]? = some c := by rw [List.getElem?_drop, ← hc]; congr 1
        ((with_reducible refine ix_u8 hc ?_ ?_); (focus (first | rfl | omega)); (conv => whnf))
        repeat' (first | ((with_reducible apply z_wrap); (focus omega); (conv => whnf)) | ((with_reducible refine mt_dec (fun _ => ?_) (fun _ => ?_)) <;> (conv => whnf)) | ((with_reducible refine mt_eq (fun _ => ?_) (fun _ => ?_)) <;> (conv => whnf)) | ((with_reducible refine mt_ne (fun _ => ?_) (fun _ => ?_)) <;> (conv => whnf)) | ((with_reducible refine mt_not (fun _ => ?_) (fun _ => ?_)) <;> (conv => whnf)) | ((with_reducible refine mt_any (fun _ => ?_) (fun _ => ?_)) <;> (conv => whnf)))
        · rename_i h1
          have hno : scan1 (b.drop ofs) = none := by
            unfold scan1
            rw [if_neg h9', if_pos (by rw [hn, Int.toNat_natCast, hc']; right; right; intro e; cases e; exact h1 rfl)]
          refine into_of [0, 1, 6] ?_
          conv => whnf
          exact ⟨rs, by rw [← hofs], by rw [hrs]; rfl, .inr ⟨rfl, by rw [← hsc, scanL_none hno, List.append_nil]⟩, by simp⟩
        rename_i h4096 hroom h1
        have hc1 : c = 1 := UInt8.toNat_inj.1 (show c.toNat = 1 by omega)
        obtain ⟨w, hw⟩ : ∃ w, ((b.drop ofs).drop 4).take n = w := ⟨_, rfl⟩
        have hwl : w.length = n := by rw [← hw, List.length_take, List.length_drop, hlen]; omega
        refine ⟨by omega, by omega, by omega, ?_⟩
        rw [show ((u8s b).take ((ofs : Int) + 4 + n).toNat).drop ((ofs : Int) + 4).toNat = u8s w by rw [show ((ofs : Int) + 4 + n).toNat = ofs + 4 + n by omega, show ((ofs : Int) + 4).toNat = ofs + 4 by omega, u8s_cut, ← hw, List.drop_take, List.drop_drop, show ofs + 4 + n - (ofs + 4) = n by omega]]
        conv => whnf
        repeat' (first | ((with_reducible apply z_wrap); (focus omega); (conv => whnf)) | ((with_reducible refine mt_dec (fun _ => ?_) (fun _ => ?_)) <;> (conv => whnf)) | ((with_reducible refine mt_eq (fun _ => ?_) (fun _ => ?_)) <;> (conv => whnf)) | ((with_reducible refine mt_ne (fun _ => ?_) (fun _ => ?_)) <;> (conv => whnf)) | ((with_reducible refine mt_not (fun _ => ?_) (fun _ => ?_)) <;> (conv => whnf)) | ((with_reducible refine mt_any (fun _ => ?_) (fun _ => ?_)) <;> (conv => whnf)))
        refine ⟨w, rfl, ?_⟩
        obtain ⟨s, hs⟩ : ∃ s : ByteArray, ByteArray.mk w.toArray = s := ⟨_, rfl⟩
        have hsl : s.data.toList = w := by rw [← hs]
        have hss : s.size = n := by rw [← hwl, ← hsl]; simp
        conv => whnf
        rw [hs]
        repeat' (first | ((with_reducible apply z_wrap); (focus omega); (conv => whnf)) | ((with_reducible refine mt_dec (fun _ => ?_) (fun _ => ?_)) <;> (conv => whnf)) | ((with_reducible refine mt_eq (fun _ => ?_) (fun _ => ?_)) <;> (conv => whnf)) | ((with_reducible refine mt_ne (fun _ => ?_) (fun _ => ?_)) <;> (conv => whnf)) | ((with_reducible refine mt_not (fun _ => ?_) (fun _ => ?_)) <;> (conv => whnf)) | ((with_reducible refine mt_any (fun _ => ?_) (fun _ => ?_)) <;> (conv => whnf)))
        refine ⟨by omega, by omega, by omega, ?_⟩
        rw [show ((u8s b).take (((u8s b).length : Nat) : Int).toNat).drop ((ofs : Int) + 4 + n).toNat = u8s ((b.drop ofs).drop (4 + n)) by rw [Int.toNat_natCast, show ((ofs : Int) + 4 + n).toNat = ofs + (4 + n) by omega, u8s_cut, hub, List.take_length, List.drop_drop]]
        conv => whnf
        repeat' (first | ((with_reducible apply z_wrap); (focus omega); (conv => whnf)) | ((with_reducible refine mt_dec (fun _ => ?_) (fun _ => ?_)) <;> (conv => whnf)) | ((with_reducible refine mt_eq (fun _ => ?_) (fun _ => ?_)) <;> (conv => whnf)) | ((with_reducible refine mt_ne (fun _ => ?_) (fun _ => ?_)) <;> (conv => whnf)) | ((with_reducible refine mt_not (fun _ => ?_) (fun _ => ?_)) <;> (conv => whnf)) | ((with_reducible refine mt_any (fun _ => ?_) (fun _ => ?_)) <;> (conv => whnf)))
        refine (number4 ((b.drop ofs).drop (4 + n)) (by rw [List.length_drop]; omega)).mono ?_
        rintro _ _ ⟨rfl, rfl⟩
        conv => whnf
        repeat' (first | ((with_reducible apply z_wrap); (focus omega); (conv => whnf)) | ((with_reducible refine mt_dec (fun _ => ?_) (fun _ => ?_)) <;> (conv => whnf)) | ((with_reducible refine mt_eq (fun _ => ?_) (fun _ => ?_)) <;> (conv => whnf)) | ((with_reducible refine mt_ne (fun _ => ?_) (fun _ => ?_)) <;> (conv => whnf)) | ((with_reducible refine mt_not (fun _ => ?_) (fun _ => ?_)) <;> (conv => whnf)) | ((with_reducible refine mt_any (fun _ => ?_) (fun _ => ?_)) <;> (conv => whnf)))
        refine (check_ok s (by omega)).mono ?_
        rintro _ _ ⟨rfl, rfl⟩
        rw [hsl]
        conv => whnf
        repeat' (first | ((with_reducible apply z_wrap); (focus omega); (conv => whnf)) | ((with_reducible refine mt_dec (fun _ => ?_) (fun _ => ?_)) <;> (conv => whnf)) | ((with_reducible refine mt_eq (fun _ => ?_) (fun _ => ?_)) <;> (conv => whnf)) | ((with_reducible refine mt_ne (fun _ => ?_) (fun _ => ?_)) <;> (conv => whnf)) | ((with_reducible refine mt_not (fun _ => ?_) (fun _ => ?_)) <;> (conv => whnf)) | ((with_reducible refine mt_any (fun _ => ?_) (fun _ => ?_)) <;> (conv => whnf)))
        · rename_i h2
          have hno : scan1 (b.drop ofs) = none := by
            unfold scan1
            rw [if_neg h9', if_neg (by rw [hn, hlen, Int.toNat_natCast, hc', hc1]; rintro (h | h | h) <;> first | omega | exact h rfl), if_pos (by rw [hn, Int.toNat_natCast, hw]; exact h2)]
          refine into_of [0, 1, 6] ?_
          conv => whnf
          exact ⟨rs, by rw [← hofs], by rw [hrs]; rfl, .inr ⟨rfl, by rw [← hsc, scanL_none hno, List.append_nil]⟩, by simp⟩
        rename_i h2
        have hsome : scan1 (b.drop ofs) = some s := by
          unfold scan1
          rw [if_neg h9', if_neg (by rw [hn, hlen, Int.toNat_natCast, hc', hc1]; rintro (h | h | h) <;> first | omega | exact h rfl), if_neg (by rw [hn, Int.toNat_natCast, hw]; intro h; exact h (by simpa using h2)), hn, Int.toNat_natCast, hw, hs]
        have hnew : (layL (rs ++ [s])).length = ofs + (n + 9) := by rw [lay_app, List.length_append, frame_len, hss, ← hofs]
        have hfit : ofs + (n + 9) ≤ b.length := by omega
        have hrl : (l.ext rs).recs.length = l.recs.length + rs.length := by simp [Lg.ext]
        have hrz : (l.ext rs).size = l.size + wsum rs := rfl
        have hrn := lay_recs rs
        have hrw := wsum_lay rs
        have hr0 := wsum_nonneg rs
        rw [← hofs] at hrn hrw
        rw [hrs] at hrl hrn hrz hrw hr0
        refine ⟨by rw [strs_length]; (show (_ + 1) * 16 ≤ _); omega, ?_⟩
        conv => whnf
        repeat' (first | ((with_reducible apply z_wrap); (focus omega); (conv => whnf)) | ((with_reducible refine mt_dec (fun _ => ?_) (fun _ => ?_)) <;> (conv => whnf)) | ((with_reducible refine mt_eq (fun _ => ?_) (fun _ => ?_)) <;> (conv => whnf)) | ((with_reducible refine mt_ne (fun _ => ?_) (fun _ => ?_)) <;> (conv => whnf)) | ((with_reducible refine mt_not (fun _ => ?_) (fun _ => ?_)) <;> (conv => whnf)) | ((with_reducible refine mt_any (fun _ => ?_) (fun _ => ?_)) <;> (conv => whnf)))
        refine into_of [0, 1, 6] ?_
        conv => whnf
        refine ⟨rs ++ [s], by rw [hnew, show ((ofs + (n + 9) : Nat) : Int) = (ofs : Int) + (4 + n + 5) by omega], ?_, .inl ⟨rfl, by rw [hnew]; exact hfit, ?_⟩, by rw [hnew]; simp; omega⟩
        · rw [hrs, strs_app]
          have e : wsum (x :: (r ++ [s])) = wsum (x :: r) + s.size + 16 := wsum_app (x :: r) s
          simp [scanB, Lg.L1, Lg.ext, Lg.tail, e, hss]
          omega
        · rw [hnew, ← hsc, scanL_some hsome, hss, List.drop_drop, List.append_assoc]
          rfl
    · have e := Option.some.inj (show some _ = some rest from hrest)
      subst e
      clear hrest
      subst hrs
      rcases h : scanL b with _ | ⟨x, r⟩
      · conv => whnf
        exact ⟨rfl, rfl⟩
      · conv => whnf
        exact ⟨rfl, rfl⟩
  · intro pass
    conv => whnf
    refine aw_at (σ := Unit) (fun _ => ([(0, .ptr 0 0), (1, .d (.sl 1 (u8s b))), (6, .d (.int .i64 (0 : Nat)))], scanB l [])) (fun _ => True) [0, 1, 6] ?_ ?_
    · conv => whnf
      exact ⟨(), rfl, rfl, trivial⟩
    · intro _ _
      exact pass 1 _ rfl [] (.inl ⟨rfl, Nat.zero_le _, rfl⟩)
end Go.Proofs.Ytpedbknmkgcldaa

namespace Go.Proofs.Ytpedbknmkgcldaa
open Go.Ab Go.RowKit Go.MapKept
attribute [local irreducible] ACalls AW ADraw Into
set_option maxRecDepth 100000
theorem cut_ok (d : Dk) (hd : d.dat.ok) (n : ByteArray) (k : Int) : ACalls Try.prog 29 [.ptr 0 0, .d (.str n), .d (.int .i64 k)] d.L (fun av L => ∃ d' : Dk, av = .d (.int .i64 (d.dat.cut n k).1) ∧ L = d'.L ∧ d'.dat = (d.dat.cut n k).2) := by
  refine acalls_go ttOk zOk foOk Try.func29 rfl Try.ntmps29 rfl false rfl ?_
  conv => whnf
  refine (call_by d _ n true).mono ?_
  rintro _ _ (⟨rfl, rfl, h⟩ | ⟨rfl, rfl, hk, hg, ho⟩ | ⟨rfl, rfl, hk, hg, ho, hf⟩ | ⟨i, f, rfl, rfl, hk, hg, ho, hf⟩)
  · conv => whnf
    repeat' (first | ((with_reducible apply z_wrap); (focus omega); (conv => whnf)) | ((with_reducible refine mt_dec (fun _ => ?_) (fun _ => ?_)) <;> (conv => whnf)) | ((with_reducible refine mt_eq (fun _ => ?_) (fun _ => ?_)) <;> (conv => whnf)) | ((with_reducible refine mt_ne (fun _ => ?_) (fun _ => ?_)) <;> (conv => whnf)) | ((with_reducible refine mt_not (fun _ => ?_) (fun _ => ?_)) <;> (conv => whnf)) | ((with_reducible refine mt_any (fun _ => ?_) (fun _ => ?_)) <;> (conv => whnf)))
    rw [cut_bad (by simpa using h)]
    exact ⟨d, rfl, rfl, rfl⟩
  · conv => whnf
    repeat' (first | ((with_reducible apply z_wrap); (focus omega); (conv => whnf)) | ((with_reducible refine mt_dec (fun _ => ?_) (fun _ => ?_)) <;> (conv => whnf)) | ((with_reducible refine mt_eq (fun _ => ?_) (fun _ => ?_)) <;> (conv => whnf)) | ((with_reducible refine mt_ne (fun _ => ?_) (fun _ => ?_)) <;> (conv => whnf)) | ((with_reducible refine mt_not (fun _ => ?_) (fun _ => ?_)) <;> (conv => whnf)) | ((with_reducible refine mt_any (fun _ => ?_) (fun _ => ?_)) <;> (conv => whnf)))
    rw [cut_off (by simpa using hk) hg ho]
    exact ⟨d.spend, rfl, rfl, rfl⟩
  · conv => whnf
    repeat' (first | ((with_reducible apply z_wrap); (focus omega); (conv => whnf)) | ((with_reducible refine mt_dec (fun _ => ?_) (fun _ => ?_)) <;> (conv => whnf)) | ((with_reducible refine mt_eq (fun _ => ?_) (fun _ => ?_)) <;> (conv => whnf)) | ((with_reducible refine mt_ne (fun _ => ?_) (fun _ => ?_)) <;> (conv => whnf)) | ((with_reducible refine mt_not (fun _ => ?_) (fun _ => ?_)) <;> (conv => whnf)) | ((with_reducible refine mt_any (fun _ => ?_) (fun _ => ?_)) <;> (conv => whnf)))
    rw [cut_none (by simpa using hk) hg ho (getN_none hf)]
    exact ⟨d.spend, rfl, rfl, rfl⟩
  · have hk' : ¬ k < 0 := by simpa using hk
    have hs : f.seen.length ≤ 1048576 := (hd.len f.dat (mem_getN (getN_some hf))).1
    conv => whnf
    repeat' (first | ((with_reducible apply z_wrap); (focus omega); (conv => whnf)) | ((with_reducible refine mt_dec (fun _ => ?_) (fun _ => ?_)) <;> (conv => whnf)) | ((with_reducible refine mt_eq (fun _ => ?_) (fun _ => ?_)) <;> (conv => whnf)) | ((with_reducible refine mt_ne (fun _ => ?_) (fun _ => ?_)) <;> (conv => whnf)) | ((with_reducible refine mt_not (fun _ => ?_) (fun _ => ?_)) <;> (conv => whnf)) | ((with_reducible refine mt_any (fun _ => ?_) (fun _ => ?_)) <;> (conv => whnf)))
    refine ⟨f.cs, box_at (findF_mem hf), ?_⟩
    conv => whnf
    repeat' (first | ((with_reducible apply z_wrap); (focus omega); (conv => whnf)) | ((with_reducible refine mt_dec (fun _ => ?_) (fun _ => ?_)) <;> (conv => whnf)) | ((with_reducible refine mt_eq (fun _ => ?_) (fun _ => ?_)) <;> (conv => whnf)) | ((with_reducible refine mt_ne (fun _ => ?_) (fun _ => ?_)) <;> (conv => whnf)) | ((with_reducible refine mt_not (fun _ => ?_) (fun _ => ?_)) <;> (conv => whnf)) | ((with_reducible refine mt_any (fun _ => ?_) (fun _ => ?_)) <;> (conv => whnf)))
    · rename_i hl
      simp only [u8s_length] at hl
      rw [cut_long hk' hg ho (getN_some hf) (by show (f.seen.length : Int) < k; omega)]
      exact ⟨d.spend, rfl, rfl, rfl⟩
    · rename_i hl
      simp only [u8s_length] at hl
      rw [cut_some hk' hg ho (getN_some hf) (by show ¬ (f.seen.length : Int) < k; omega)]
      refine ⟨f.cs, box_at (findF_mem hf), ?_⟩
      conv => whnf
      repeat' (first | ((with_reducible apply z_wrap); (focus omega); (conv => whnf)) | ((with_reducible refine mt_dec (fun _ => ?_) (fun _ => ?_)) <;> (conv => whnf)) | ((with_reducible refine mt_eq (fun _ => ?_) (fun _ => ?_)) <;> (conv => whnf)) | ((with_reducible refine mt_ne (fun _ => ?_) (fun _ => ?_)) <;> (conv => whnf)) | ((with_reducible refine mt_not (fun _ => ?_) (fun _ => ?_)) <;> (conv => whnf)) | ((with_reducible refine mt_any (fun _ => ?_) (fun _ => ?_)) <;> (conv => whnf)))
      refine ⟨by omega, by omega, by rw [u8s_length]; omega, ?_⟩
      conv => whnf
      repeat' (first | ((with_reducible apply z_wrap); (focus omega); (conv => whnf)) | ((with_reducible refine mt_dec (fun _ => ?_) (fun _ => ?_)) <;> (conv => whnf)) | ((with_reducible refine mt_eq (fun _ => ?_) (fun _ => ?_)) <;> (conv => whnf)) | ((with_reducible refine mt_ne (fun _ => ?_) (fun _ => ?_)) <;> (conv => whnf)) | ((with_reducible refine mt_not (fun _ => ?_) (fun _ => ?_)) <;> (conv => whnf)) | ((with_reducible refine mt_any (fun _ => ?_) (fun _ => ?_)) <;> (conv => whnf)))
      have e : ((u8s f.seen).take k.toNat).drop (Int.toNat 0) = u8s (f.seen.take k.toNat) := by simp [u8s, List.map_take]
      rw [e]
      refine (clone_row (f.seen.take k.toNat) (by simp; omega)).mono ?_
      rintro _ _ ⟨rfl, rfl⟩
      conv => whnf
      repeat' (first | ((with_reducible apply z_wrap); (focus omega); (conv => whnf)) | ((with_reducible refine mt_dec (fun _ => ?_) (fun _ => ?_)) <;> (conv => whnf)) | ((with_reducible refine mt_eq (fun _ => ?_) (fun _ => ?_)) <;> (conv => whnf)) | ((with_reducible refine mt_ne (fun _ => ?_) (fun _ => ?_)) <;> (conv => whnf)) | ((with_reducible refine mt_not (fun _ => ?_) (fun _ => ?_)) <;> (conv => whnf)) | ((with_reducible refine mt_any (fun _ => ?_) (fun _ => ?_)) <;> (conv => whnf)))
      refine .inl ⟨1, _, i, _, _, rfl, ent_at hf, by simp [Fl.cs], ?_⟩
      intro L' hL
      obtain rfl : L' = [.cells [.d (.int .i64 d.spend.calls), .d (.bool d.spend.off), .d (.int .i64 d.spend.upto), .map 1], .map ((d.spend.put i ⟨f.name, f.b, f.safe, f.seen.take k.toNat⟩).fs.map Fl.ent), .row 5 1 (u8s (f.seen.take k.toNat)) true] := by rw [hL]; simp [Dk.put, List.map_set, Fl.ent, Fl.cs, overD, norm1]
      clear hL
      conv => whnf
      exact ⟨d.spend.put i ⟨f.name, f.b, f.safe, f.seen.take k.toNat⟩, rfl, rfl, put_dat (d := d.spend) hf (fun f => { f with seen := f.seen.take k.toNat }) _ rfl⟩
end Go.Proofs.Ytpedbknmkgcldaa

namespace Go.Proofs.Ytpedbknmkgcldaa
open Go.Ab Go.RowKit Go.MapKept
attribute [local irreducible] ACalls AW ADraw Into
set_option maxRecDepth 100000
def LD.got (l : LD) (rs : List ByteArray) : LD := { l with file := true, recs := l.recs ++ rs, size := l.size + wsum rs }
def LD.load (l : LD) : Int × LD :=
  if (l.d.read logN).2 = 3 then (0, l) else
  if (l.d.read logN).2 ≠ 0 then ((l.d.read logN).2, l) else
  if ((layL (scanL (l.d.read logN).1)).length : Int) = (l.d.read logN).1.length then ((l.d.sync logN).1, { l.got (scanL (l.d.read logN).1) with d := (l.d.sync logN).2 }) else
  if (l.d.cut logN (layL (scanL (l.d.read logN).1)).length).1 ≠ 0 then ((l.d.cut logN (layL (scanL (l.d.read logN).1)).length).1, { l.got (scanL (l.d.read logN).1) with d := (l.d.cut logN (layL (scanL (l.d.read logN).1)).length).2 }) else
  (((l.d.cut logN (layL (scanL (l.d.read logN).1)).length).2.sync logN).1, { l.got (scanL (l.d.read logN).1) with d := ((l.d.cut logN (layL (scanL (l.d.read logN).1)).length).2.sync logN).2 })
set_option maxHeartbeats 4000000 in
theorem load_ok (l : Lg) (hd : l.d.dat.fine) (hz : 0 ≤ l.size ∧ l.size ≤ 1073741824) (hl : l.recs.length ≤ 100000) : ACalls Try.prog 87 [.ptr 0 0] l.L (fun av L => ∃ l' : Lg, av = .d (.int .i64 (l.dat.load).1) ∧ (L = l'.L ∨ L = l'.L1) ∧ l'.dat = (l.dat.load).2) := by
  refine acalls_go ttOk zOk foOk Try.func87 rfl Try.ntmps87 rfl false rfl ?_
  conv => whnf
  repeat' (first | ((with_reducible apply z_wrap); (focus omega); (conv => whnf)) | ((with_reducible refine mt_dec (fun _ => ?_) (fun _ => ?_)) <;> (conv => whnf)) | ((with_reducible refine mt_eq (fun _ => ?_) (fun _ => ?_)) <;> (conv => whnf)) | ((with_reducible refine mt_ne (fun _ => ?_) (fun _ => ?_)) <;> (conv => whnf)) | ((with_reducible refine mt_not (fun _ => ?_) (fun _ => ?_)) <;> (conv => whnf)) | ((with_reducible refine mt_any (fun _ => ?_) (fun _ => ?_)) <;> (conv => whnf)))
  refine (read_ok l.d hd.ok logN).mono ?_
  rintro _ _ ⟨rfl, rfl⟩
  conv => whnf
  repeat' (first | ((with_reducible apply z_wrap); (focus omega); (conv => whnf)) | ((with_reducible refine mt_dec (fun _ => ?_) (fun _ => ?_)) <;> (conv => whnf)) | ((with_reducible refine mt_eq (fun _ => ?_) (fun _ => ?_)) <;> (conv => whnf)) | ((with_reducible refine mt_ne (fun _ => ?_) (fun _ => ?_)) <;> (conv => whnf)) | ((with_reducible refine mt_not (fun _ => ?_) (fun _ => ?_)) <;> (conv => whnf)) | ((with_reducible refine mt_any (fun _ => ?_) (fun _ => ?_)) <;> (conv => whnf)))
  · rename_i h3
    have h3' : (l.dat.d.read logN).2 = 3 := h3
    rw [show l.dat.load = (0, l.dat) by simp only [LD.load, if_pos h3']]
    exact ⟨l, rfl, .inl rfl, rfl⟩
  · rename_i h3 h0
    have h3' : ¬ (l.dat.d.read logN).2 = 3 := h3
    have h0' : (l.dat.d.read logN).2 ≠ 0 := h0
    rw [show l.dat.load = ((l.dat.d.read logN).2, l.dat) by simp only [LD.load, if_neg h3', if_pos h0']]
    exact ⟨l, rfl, .inl rfl, rfl⟩
  rename_i h3 h0
  have h3' : ¬ (l.dat.d.read logN).2 = 3 := h3
  have h0'' : ¬ (l.dat.d.read logN).2 ≠ 0 := fun h => h (by simpa using h0 : (l.d.dat.read logN).2 = 0)
  obtain ⟨b, hrd⟩ : ∃ b, (l.d.dat.read logN).1 = b := ⟨_, rfl⟩
  have hrd' : (l.dat.d.read logN).1 = b := hrd
  have hub : (u8s b).length = b.length := u8s_length b
  have hb : b.length ≤ 1048576 := by
    rw [← hrd]
    unfold DD.read
    split
    · simp
    · split
      · simp
      · split
        · simp
        · rename_i f hf
          exact (hd.ok.len f (mem_getN hf)).1
  rw [hrd]
  conv => whnf
  refine (scan_ok { l with file := true } b hb hz hl).mono ?_
  rintro _ _ ⟨rfl, rfl⟩
  rcases hsc : scanL b with _ | ⟨x, r⟩
  · conv => whnf
    repeat' (first | ((with_reducible apply z_wrap); (focus omega); (conv => whnf)) | ((with_reducible refine mt_dec (fun _ => ?_) (fun _ => ?_)) <;> (conv => whnf)) | ((with_reducible refine mt_eq (fun _ => ?_) (fun _ => ?_)) <;> (conv => whnf)) | ((with_reducible refine mt_ne (fun _ => ?_) (fun _ => ?_)) <;> (conv => whnf)) | ((with_reducible refine mt_not (fun _ => ?_) (fun _ => ?_)) <;> (conv => whnf)) | ((with_reducible refine mt_any (fun _ => ?_) (fun _ => ?_)) <;> (conv => whnf)))
    · rename_i hn
      rw [hub] at hn
      have hn' : ((layL []).length : Int) = b.length := hn
      rw [show l.dat.load = ((l.dat.d.sync logN).1, { l.dat.got [] with d := (l.dat.d.sync logN).2 }) by simp only [LD.load, if_neg h3', if_neg h0'', hrd', hsc, if_pos hn']]
      refine (sync_ok l.d logN).mono ?_
      rintro _ _ ⟨d', rfl, rfl, hd'⟩
      conv => whnf
      exact ⟨{ { l with file := true } with d := d' }, rfl, .inl rfl, by simp only [Lg.dat, hd', LD.got, Lg.ext, List.append_nil, wsum, Int.add_zero]⟩
    rename_i hn
    rw [hub] at hn
    have hn' : ¬ ((layL []).length : Int) = b.length := hn
    refine (cut_ok l.d hd.ok logN (layL []).length).mono ?_
    rintro _ _ ⟨d1, rfl, rfl, hd1⟩
    conv => whnf
    repeat' (first | ((with_reducible apply z_wrap); (focus omega); (conv => whnf)) | ((with_reducible refine mt_dec (fun _ => ?_) (fun _ => ?_)) <;> (conv => whnf)) | ((with_reducible refine mt_eq (fun _ => ?_) (fun _ => ?_)) <;> (conv => whnf)) | ((with_reducible refine mt_ne (fun _ => ?_) (fun _ => ?_)) <;> (conv => whnf)) | ((with_reducible refine mt_not (fun _ => ?_) (fun _ => ?_)) <;> (conv => whnf)) | ((with_reducible refine mt_any (fun _ => ?_) (fun _ => ?_)) <;> (conv => whnf)))
    · rename_i hc
      have hc' : (l.dat.d.cut logN (layL []).length).1 ≠ 0 := hc
      rw [show l.dat.load = ((l.dat.d.cut logN (layL []).length).1, { l.dat.got [] with d := (l.dat.d.cut logN (layL []).length).2 }) by simp only [LD.load, if_neg h3', if_neg h0'', hrd', hsc, if_neg hn', if_pos hc']]
      exact ⟨{ { l with file := true } with d := d1 }, rfl, .inl rfl, by simp only [Lg.dat, hd1, LD.got, Lg.ext, List.append_nil, wsum, Int.add_zero]⟩
    rename_i hc
    have hc' : ¬ (l.dat.d.cut logN (layL []).length).1 ≠ 0 := fun h => h (by simpa using hc : (l.d.dat.cut logN (layL []).length).1 = 0)
    rw [show l.dat.load = (((l.dat.d.cut logN (layL []).length).2.sync logN).1, { l.dat.got [] with d := ((l.dat.d.cut logN (layL []).length).2.sync logN).2 }) by simp only [LD.load, if_neg h3', if_neg h0'', hrd', hsc, if_neg hn', if_neg hc']]
    refine (sync_ok d1 logN).mono ?_
    rintro _ _ ⟨d', rfl, rfl, hd'⟩
    rw [hd1] at hd' ⊢
    conv => whnf
    exact ⟨{ { l with file := true } with d := d' }, rfl, .inl rfl, by simp only [Lg.dat, hd', LD.got, Lg.ext, List.append_nil, wsum, Int.add_zero]⟩
  · conv => whnf
    repeat' (first | ((with_reducible apply z_wrap); (focus omega); (conv => whnf)) | ((with_reducible refine mt_dec (fun _ => ?_) (fun _ => ?_)) <;> (conv => whnf)) | ((with_reducible refine mt_eq (fun _ => ?_) (fun _ => ?_)) <;> (conv => whnf)) | ((with_reducible refine mt_ne (fun _ => ?_) (fun _ => ?_)) <;> (conv => whnf)) | ((with_reducible refine mt_not (fun _ => ?_) (fun _ => ?_)) <;> (conv => whnf)) | ((with_reducible refine mt_any (fun _ => ?_) (fun _ => ?_)) <;> (conv => whnf)))
    · rename_i hn
      rw [hub] at hn
      have hn' : ((layL (x :: r)).length : Int) = b.length := hn
      rw [show l.dat.load = ((l.dat.d.sync logN).1, { l.dat.got (x :: r) with d := (l.dat.d.sync logN).2 }) by simp only [LD.load, if_neg h3', if_neg h0'', hrd', hsc, if_pos hn']]
      refine (sync_ok l.d logN).mono ?_
      rintro _ _ ⟨d', rfl, rfl, hd'⟩
      conv => whnf
      exact ⟨{ ({ l with file := true } : Lg).ext (x :: r) with d := d' }, rfl, .inr rfl, by simp only [Lg.dat, hd', LD.got, Lg.ext, List.append_nil, wsum, Int.add_zero]⟩
    rename_i hn
    rw [hub] at hn
    have hn' : ¬ ((layL (x :: r)).length : Int) = b.length := hn
    refine (cut_ok l.d hd.ok logN (layL (x :: r)).length).mono ?_
    rintro _ _ ⟨d1, rfl, rfl, hd1⟩
    conv => whnf
    repeat' (first | ((with_reducible apply z_wrap); (focus omega); (conv => whnf)) | ((with_reducible refine mt_dec (fun _ => ?_) (fun _ => ?_)) <;> (conv => whnf)) | ((with_reducible refine mt_eq (fun _ => ?_) (fun _ => ?_)) <;> (conv => whnf)) | ((with_reducible refine mt_ne (fun _ => ?_) (fun _ => ?_)) <;> (conv => whnf)) | ((with_reducible refine mt_not (fun _ => ?_) (fun _ => ?_)) <;> (conv => whnf)) | ((with_reducible refine mt_any (fun _ => ?_) (fun _ => ?_)) <;> (conv => whnf)))
    · rename_i hc
      have hc' : (l.dat.d.cut logN (layL (x :: r)).length).1 ≠ 0 := hc
      rw [show l.dat.load = ((l.dat.d.cut logN (layL (x :: r)).length).1, { l.dat.got (x :: r) with d := (l.dat.d.cut logN (layL (x :: r)).length).2 }) by simp only [LD.load, if_neg h3', if_neg h0'', hrd', hsc, if_neg hn', if_pos hc']]
      exact ⟨{ ({ l with file := true } : Lg).ext (x :: r) with d := d1 }, rfl, .inr rfl, by simp only [Lg.dat, hd1, LD.got, Lg.ext, List.append_nil, wsum, Int.add_zero]⟩
    rename_i hc
    have hc' : ¬ (l.dat.d.cut logN (layL (x :: r)).length).1 ≠ 0 := fun h => h (by simpa using hc : (l.d.dat.cut logN (layL (x :: r)).length).1 = 0)
    rw [show l.dat.load = (((l.dat.d.cut logN (layL (x :: r)).length).2.sync logN).1, { l.dat.got (x :: r) with d := ((l.dat.d.cut logN (layL (x :: r)).length).2.sync logN).2 }) by simp only [LD.load, if_neg h3', if_neg h0'', hrd', hsc, if_neg hn', if_neg hc']]
    refine (sync_ok d1 logN).mono ?_
    rintro _ _ ⟨d', rfl, rfl, hd'⟩
    rw [hd1] at hd' ⊢
    conv => whnf
    exact ⟨{ ({ l with file := true } : Lg).ext (x :: r) with d := d' }, rfl, .inr rfl, by simp only [Lg.dat, hd', LD.got, Lg.ext, List.append_nil, wsum, Int.add_zero]⟩
end Go.Proofs.Ytpedbknmkgcldaa

namespace Go.Proofs.Ytpedbknmkgcldaa
open Go.Ab Go.RowKit Go.MapKept
attribute [local irreducible] ACalls AW ADraw Into
set_option maxRecDepth 100000
def LD.opn (d : DD) : Int × LD :=
  if (LD.mk d [] 0 false false).sweep.1 ≠ 0 then (LD.mk d [] 0 false false).sweep else (LD.mk d [] 0 false false).sweep.2.load
theorem load_end (l : LD) : l.load.1 = 0 ∨ l.load.1 ≠ 0 := by omega
set_option maxHeartbeats 4000000 in
theorem open_ok (d : Dk) (hd : d.dat.fine) : ACalls Try.prog 39 [.ptr 0 0] d.L (fun av L => ∃ l : Lg, l.dat = (LD.opn d.dat).2 ∧ (((LD.opn d.dat).1 = 0 ∧ av = .tup [.ptr 2 0, .d (.int .i64 0)] ∧ L = l.O) ∨ ((LD.opn d.dat).1 ≠ 0 ∧ av = .tup [.d .nilp, .d (.int .i64 (LD.opn d.dat).1)] ∧ L = l.d.L))) := by
  refine acalls_go ttOk zOk foOk Try.func39 rfl Try.ntmps39 rfl true rfl ?_
  conv => whnf
  repeat' (first | ((with_reducible apply z_wrap); (focus omega); (conv => whnf)) | ((with_reducible refine mt_dec (fun _ => ?_) (fun _ => ?_)) <;> (conv => whnf)) | ((with_reducible refine mt_eq (fun _ => ?_) (fun _ => ?_)) <;> (conv => whnf)) | ((with_reducible refine mt_ne (fun _ => ?_) (fun _ => ?_)) <;> (conv => whnf)) | ((with_reducible refine mt_not (fun _ => ?_) (fun _ => ?_)) <;> (conv => whnf)) | ((with_reducible refine mt_any (fun _ => ?_) (fun _ => ?_)) <;> (conv => whnf)))
  refine (sweep_ok (newLg d) hd.ok).mono ?_
  rintro _ _ ⟨l1, rfl, rfl, hl1, hsh⟩
  have e0 : (newLg d).dat = LD.mk d.dat [] 0 false false := rfl
  rw [e0] at hl1 ⊢
  conv => whnf
  repeat' (first | ((with_reducible apply z_wrap); (focus omega); (conv => whnf)) | ((with_reducible refine mt_dec (fun _ => ?_) (fun _ => ?_)) <;> (conv => whnf)) | ((with_reducible refine mt_eq (fun _ => ?_) (fun _ => ?_)) <;> (conv => whnf)) | ((with_reducible refine mt_ne (fun _ => ?_) (fun _ => ?_)) <;> (conv => whnf)) | ((with_reducible refine mt_not (fun _ => ?_) (fun _ => ?_)) <;> (conv => whnf)) | ((with_reducible refine mt_any (fun _ => ?_) (fun _ => ?_)) <;> (conv => whnf)))
  · rename_i h
    have e : LD.opn d.dat = (LD.mk d.dat [] 0 false false).sweep := by unfold LD.opn; rw [if_pos h]
    rw [e]
    exact ⟨l1, hl1, .inr ⟨h, rfl, rfl⟩⟩
  · rename_i h
    have e : LD.opn d.dat = (LD.mk d.dat [] 0 false false).sweep.2.load := by unfold LD.opn; rw [if_neg (fun h2 => h2 (by simpa using h))]
    have hf1 : l1.d.dat.fine := by
      have : l1.d.dat = l1.dat.d := rfl
      rw [this, hl1]
      exact sweep_fine (l := LD.mk d.dat [] 0 false false) hd
    have hr1 : l1.recs = [] := by
      have : l1.recs = l1.dat.recs := rfl
      rw [this, hl1, sweep_recs]
    have hz1 : l1.size = 0 := by
      have : l1.size = l1.dat.size := rfl
      rw [this, hl1]
      unfold LD.sweep
      split
      · rfl
      · split <;> rfl
    refine (load_ok l1 hf1 (by rw [hz1]; decide) (by rw [hr1]; decide)).mono ?_
    rintro _ _ ⟨l2, rfl, rfl | rfl, hl2⟩
    · rw [hl1] at hl2 ⊢
      rw [← e] at hl2 ⊢
      conv => whnf
      repeat' (first | ((with_reducible apply z_wrap); (focus omega); (conv => whnf)) | ((with_reducible refine mt_dec (fun _ => ?_) (fun _ => ?_)) <;> (conv => whnf)) | ((with_reducible refine mt_eq (fun _ => ?_) (fun _ => ?_)) <;> (conv => whnf)) | ((with_reducible refine mt_ne (fun _ => ?_) (fun _ => ?_)) <;> (conv => whnf)) | ((with_reducible refine mt_not (fun _ => ?_) (fun _ => ?_)) <;> (conv => whnf)) | ((with_reducible refine mt_any (fun _ => ?_) (fun _ => ?_)) <;> (conv => whnf)))
      · rename_i h2
        exact ⟨l2, hl2, .inr ⟨h2, rfl, rfl⟩⟩
      · rename_i h2
        exact ⟨l2, hl2, .inl ⟨by simpa using h2, rfl, rfl⟩⟩
    · rw [hl1] at hl2 ⊢
      rw [← e] at hl2 ⊢
      conv => whnf
      repeat' (first | ((with_reducible apply z_wrap); (focus omega); (conv => whnf)) | ((with_reducible refine mt_dec (fun _ => ?_) (fun _ => ?_)) <;> (conv => whnf)) | ((with_reducible refine mt_eq (fun _ => ?_) (fun _ => ?_)) <;> (conv => whnf)) | ((with_reducible refine mt_ne (fun _ => ?_) (fun _ => ?_)) <;> (conv => whnf)) | ((with_reducible refine mt_not (fun _ => ?_) (fun _ => ?_)) <;> (conv => whnf)) | ((with_reducible refine mt_any (fun _ => ?_) (fun _ => ?_)) <;> (conv => whnf)))
      · rename_i h2
        exact ⟨l2, hl2, .inr ⟨h2, rfl, rfl⟩⟩
      · rename_i h2
        exact ⟨l2, hl2, .inl ⟨by simpa using h2, rfl, rfl⟩⟩
theorem open_nil : ACalls Try.prog 39 [.d .nilp] [] (fun av L => av = .tup [.d .nilp, .d (.int .i64 1)] ∧ L = []) := by
  refine acalls_go ttOk zOk foOk Try.func39 rfl Try.ntmps39 rfl false rfl ?_
  conv => whnf
  exact ⟨rfl, rfl⟩
end Go.Proofs.Ytpedbknmkgcldaa

namespace Go.Proofs.Ytpedbknmkgcldaa
open Go.Ab Go.RowKit Go.MapKept
attribute [local irreducible] ACalls AW ADraw Into
set_option maxRecDepth 100000
def foldO (os : List Op11) : List (ByteArray × ByteArray) := os.foldl Op11.app []
theorem fold_take {os : List Op11} {k : Nat} {o : Op11} (h : os[k]? = some o) : foldO (os.take (k + 1)) = o.app (foldO (os.take k)) := by
  unfold foldO
  rw [List.take_add_one, h, List.foldl_append]
  rfl
theorem fold_nodup (os : List Op11) : ((foldO os).map (·.1)).Nodup := by
  have : ∀ (l : List Op11) (ps : List (ByteArray × ByteArray)), (ps.map (·.1)).Nodup → ((l.foldl Op11.app ps).map (·.1)).Nodup := by
    intro l
    induction l with
    | nil => intro ps h; exact h
    | cons o r ih => intro ps h; exact ih _ (app_nodup h o)
  exact this os [] (by simp)
theorem fold_psum (os : List Op11) : psum (foldO os) ≤ 4 * wsum (os.map Op11.enc) := by
  have : ∀ (l : List Op11) (ps : List (ByteArray × ByteArray)), psum (l.foldl Op11.app ps) ≤ psum ps + 4 * wsum (l.map Op11.enc) := by
    intro l
    induction l with
    | nil => intro ps; simp [wsum]
    | cons o r ih =>
      intro ps
      have h1 := ih (o.app ps)
      have h2 := app_psum ps o
      simp only [List.foldl_cons, List.map_cons, wsum]
      omega
  have := this os []
  simpa [psum, foldO] using this
theorem wsum_take2 (os : List Op11) (k : Nat) : wsum ((os.take k).map Op11.enc) ≤ wsum (os.map Op11.enc) := by
  have : ∀ a b : List ByteArray, wsum (a ++ b) = wsum a + wsum b := by
    intro a b
    induction a with
    | nil => simp [wsum]
    | cons x r ih => simp only [List.cons_append, wsum, ih]; omega
  have h := this ((os.take k).map Op11.enc) ((os.drop k).map Op11.enc)
  rw [← List.map_append, List.take_append_drop] at h
  have := wsum_nonneg ((os.drop k).map Op11.enc)
  omega
theorem readO_ok (l : Lg) (ps : List (ByteArray × ByteArray)) (hp : psum ps ≤ 1000000000) (hn : (ps.map (·.1)).Nodup) (o : Op11) (ho : o.ok) : ACalls Try.prog 95 [.ptr 0 0, .d (.str o.enc)] (Kc l ps false) (fun av L => av = .d (.bool true) ∧ L = Kc l (o.app ps) false) := by
  cases o with
  | put k v => exact readP_ok ⟨l, ps, false⟩ hp hn k v ho.1 (by have := ho.2; omega)
  | del k => exact readD_ok ⟨l, ps, false⟩ hp k ⟨#[]⟩ ho (by decide)
set_option maxHeartbeats 4000000 in
theorem kopen_ok (d : Dk) (hd : d.dat.fine) {x : LS} (hx : x.ok) (ho : LD.opn d.dat = (0, x.l)) (os : List Op11) (hos : ∀ o ∈ os, o.ok) (hr : x.recs = os.map Op11.enc) : ACalls Try.prog 53 [.ptr 0 0] d.L (fun av L => av = .tup [.ptr 2 0, .d (.int .i64 0)] ∧ ∃ l : Lg, L = Ko l (foldO os) ∧ l.dat = x.l) := by
  have hsum := hx.sum
  rw [hr] at hsum
  have hol : 16 * (os.length : Int) ≤ wsum (os.map Op11.enc) := by have := wsum_len (os.map Op11.enc); simpa using this
  refine acalls_go ttOk zOk foOk Try.func53 rfl Try.ntmps53 rfl true rfl ?_
  conv => whnf
  repeat' (first | ((with_reducible apply z_wrap); (focus omega); (conv => whnf)) | ((with_reducible refine mt_dec (fun _ => ?_) (fun _ => ?_)) <;> (conv => whnf)) | ((with_reducible refine mt_eq (fun _ => ?_) (fun _ => ?_)) <;> (conv => whnf)) | ((with_reducible refine mt_ne (fun _ => ?_) (fun _ => ?_)) <;> (conv => whnf)) | ((with_reducible refine mt_not (fun _ => ?_) (fun _ => ?_)) <;> (conv => whnf)) | ((with_reducible refine mt_any (fun _ => ?_) (fun _ => ?_)) <;> (conv => whnf)))
  refine (open_ok d hd).mono ?_
  rw [ho]
  rintro _ _ ⟨l, hl, ⟨_, rfl, rfl⟩ | ⟨h, _⟩⟩
  rotate_left
  · exact absurd rfl h
  replace hl : l.dat = x.l := hl
  conv => whnf
  repeat' (first | ((with_reducible apply z_wrap); (focus omega); (conv => whnf)) | ((with_reducible refine mt_dec (fun _ => ?_) (fun _ => ?_)) <;> (conv => whnf)) | ((with_reducible refine mt_eq (fun _ => ?_) (fun _ => ?_)) <;> (conv => whnf)) | ((with_reducible refine mt_ne (fun _ => ?_) (fun _ => ?_)) <;> (conv => whnf)) | ((with_reducible refine mt_not (fun _ => ?_) (fun _ => ?_)) <;> (conv => whnf)) | ((with_reducible refine mt_any (fun _ => ?_) (fun _ => ?_)) <;> (conv => whnf)))
  obtain ⟨_, _, p3, p4⟩ := LS.pre hx hl
  refine (all_ok l p3).mono ?_
  rintro _ _ ⟨rfl, rfl⟩
  have hrl : l.recs = os.map Op11.enc := by rw [p4, hr]
  have hlen : (strs l.recs).length = os.length := by rw [hrl]; simp [strs]
  conv => whnf
  repeat' (first | ((with_reducible apply z_wrap); (focus omega); (conv => whnf)) | ((with_reducible refine mt_dec (fun _ => ?_) (fun _ => ?_)) <;> (conv => whnf)) | ((with_reducible refine mt_eq (fun _ => ?_) (fun _ => ?_)) <;> (conv => whnf)) | ((with_reducible refine mt_ne (fun _ => ?_) (fun _ => ?_)) <;> (conv => whnf)) | ((with_reducible refine mt_not (fun _ => ?_) (fun _ => ?_)) <;> (conv => whnf)) | ((with_reducible refine mt_any (fun _ => ?_) (fun _ => ?_)) <;> (conv => whnf)))
  refine loop_go ttOk zOk foOk (σ := Nat) (fun k => ([(6, .ptr 2 0), (22, .arr 3), (23, .d (.int .i64 (strs l.recs).length)), (24, .d (.int .i64 k))], [.cells [.d (.int .i64 l.d.calls), .d (.bool l.d.off), .d (.int .i64 l.d.upto), .map 1], .map (l.d.fs.map Fl.ent), .cells [.ptr 4 0, .map 5, .d (.int .i64 (psum (foldO (os.take k)))), .d (.bool false)], .row 9 1 (strs l.recs) false, .cells (.ptr 0 0 :: .arr 6 :: l.tail), .map ((foldO (os.take k)).map pe), .row 9 1 (strs l.recs) l.sh])) (fun k => k ≤ os.length) (fun k => os.length - k) [6, 22, 23, 24] ?_ ?_
  · conv => whnf
    exact ⟨0, rfl, rfl, Nat.zero_le _⟩
  · intro k hk
    have h1 := fold_psum (os.take k)
    have h2 := wsum_take2 os k
    have hnd := fold_nodup (os.take k)
    conv => whnf
    repeat' (first | ((with_reducible apply z_wrap); (focus omega); (conv => whnf)) | ((with_reducible refine mt_dec (fun _ => ?_) (fun _ => ?_)) <;> (conv => whnf)) | ((with_reducible refine mt_eq (fun _ => ?_) (fun _ => ?_)) <;> (conv => whnf)) | ((with_reducible refine mt_ne (fun _ => ?_) (fun _ => ?_)) <;> (conv => whnf)) | ((with_reducible refine mt_not (fun _ => ?_) (fun _ => ?_)) <;> (conv => whnf)) | ((with_reducible refine mt_any (fun _ => ?_) (fun _ => ?_)) <;> (conv => whnf)))
    · rename_i h
      obtain ⟨o, hoo⟩ : ∃ o, os[k]? = some o := ⟨_, List.getElem?_eq_getElem (by omega)⟩
      refine ⟨by omega, by rw [hlen]; show k < os.length; omega, [.str o.enc], by rw [hrl, Int.toNat_natCast, strs, List.getElem?_map, List.getElem?_map, hoo]; rfl, ?_⟩
      conv => whnf
      repeat' (first | ((with_reducible apply z_wrap); (focus omega); (conv => whnf)) | ((with_reducible refine mt_dec (fun _ => ?_) (fun _ => ?_)) <;> (conv => whnf)) | ((with_reducible refine mt_eq (fun _ => ?_) (fun _ => ?_)) <;> (conv => whnf)) | ((with_reducible refine mt_ne (fun _ => ?_) (fun _ => ?_)) <;> (conv => whnf)) | ((with_reducible refine mt_not (fun _ => ?_) (fun _ => ?_)) <;> (conv => whnf)) | ((with_reducible refine mt_any (fun _ => ?_) (fun _ => ?_)) <;> (conv => whnf)))
      refine (readO_ok l (foldO (os.take k)) (by omega) hnd o (hos o (List.mem_of_getElem? hoo))).mono ?_
      rintro _ _ ⟨rfl, rfl⟩
      conv => whnf
      repeat' (first | ((with_reducible apply z_wrap); (focus omega); (conv => whnf)) | ((with_reducible refine mt_dec (fun _ => ?_) (fun _ => ?_)) <;> (conv => whnf)) | ((with_reducible refine mt_eq (fun _ => ?_) (fun _ => ?_)) <;> (conv => whnf)) | ((with_reducible refine mt_ne (fun _ => ?_) (fun _ => ?_)) <;> (conv => whnf)) | ((with_reducible refine mt_not (fun _ => ?_) (fun _ => ?_)) <;> (conv => whnf)) | ((with_reducible refine mt_any (fun _ => ?_) (fun _ => ?_)) <;> (conv => whnf)))
      refine ⟨k + 1, rfl, ?_, by omega, by omega⟩
      rw [fold_take hoo]
      rfl
    · rename_i h
      obtain rfl : k = os.length := by omega
      rw [List.take_length]
      exact ⟨rfl, l, rfl, hl⟩
end Go.Proofs.Ytpedbknmkgcldaa

namespace Go.Proofs.Ytpedbknmkgcldaa
open Go.Ab Go.RowKit Go.MapKept
attribute [local irreducible] ACalls AW ADraw Into
set_option maxRecDepth 100000
def Kc2 (l : Lg) (ps : List (ByteArray × ByteArray)) (dead : Bool) (old : List ByteArray) (osh : Bool) : List AB := [.cells [.ptr 1 0, .map 2, .d (.int .i64 (psum ps)), .d (.bool dead)], .cells (.ptr 3 0 :: .arr 6 :: l.tail), .map (ps.map pe), .cells [.d (.int .i64 l.d.calls), .d (.bool l.d.off), .d (.int .i64 l.d.upto), .map 5], .row 9 1 (strs old) osh, .map (l.d.fs.map Fl.ent), .row 9 1 (strs l.recs) l.sh]
def getD (n : ByteArray) (ps : List (ByteArray × ByteArray)) : ByteArray := (getP n ps).getD ⟨#[]⟩
def othersO (ss : List ByteArray) (key : ByteArray) (ps : List (ByteArray × ByteArray)) : List Op11 := (ss.filter fun n => decide (n ≠ key)).map fun n => .put n (getD n ps)
theorem others_take {ss : List ByteArray} {key : ByteArray} {ps : List (ByteArray × ByteArray)} {k : Nat} {n : ByteArray} (h : ss[k]? = some n) : othersO (ss.take (k + 1)) key ps = othersO (ss.take k) key ps ++ (if n ≠ key then [.put n (getD n ps)] else []) := by
  unfold othersO
  rw [List.take_add_one, h, List.filter_append, List.map_append]
  congr 1
  by_cases e : n = key <;> simp [e]
def laidR (ss : List ByteArray) (key val : ByteArray) (ps : List (ByteArray × ByteArray)) : List Op11 := othersO ss key ps ++ [.put key val]
theorem kP_ne {kk : ByteArray} (h : kk = kP) : (kk.toList == (⟨#[112]⟩ : ByteArray).toList) = true := by
  rw [h, ByteArray.toList_eq, ByteArray.toList_eq]; decide
theorem toList_beq' (a b : ByteArray) : (a.toList == b.toList) = decide (a = b) := by
  by_cases h : a = b
  · subst h; simp
  · rw [decide_eq_false h, beq_eq_false_iff_ne]
    intro e
    apply h
    rw [ByteArray.toList_eq, ByteArray.toList_eq] at e
    rcases a with ⟨⟨a⟩⟩; rcases b with ⟨⟨b⟩⟩
    simpa using e
theorem not_key {key : ByteArray} : ∀ {ps : List (ByteArray × ByteArray)}, getP key ps = none → key ∉ ps.map (·.1)
  | [], _ => by simp
  | p :: r, h => by
    simp only [getP] at h
    split at h
    · cases h
    · rename_i e
      simp only [List.map_cons, List.mem_cons, not_or]
      exact ⟨e, not_key h⟩
theorem findP_in {k v : ByteArray} : ∀ {ps : List (ByteArray × ByteArray)} {j i : Nat}, findP k ps j = some (i, v) → (k, v) ∈ ps
  | [], _, _, h => by simp [findP] at h
  | p :: r, j, i, h => by
    simp only [findP, ba_beq] at h
    by_cases e : k = p.1
    · rw [decide_eq_true e] at h
      simp at h
      rw [e, ← h.2]; simp
    · rw [decide_eq_false e] at h
      exact List.mem_cons_of_mem _ (findP_in h)
set_option maxHeartbeats 8000000 in
theorem write_full (l : Lg) (ps : List (ByteArray × ByteArray)) {x : LS} (hx : x.ok) (hl : l.dat = x.l) (hn : (ps.map (·.1)).Nodup) (hps : ps.length ≤ 3000) (hsz : ∀ p ∈ ps, p.1.size ≤ 32 ∧ p.2.size ≤ 4032) (kk key val : ByteArray) (hkk : kk = kP) (hk : key.size ≤ 32) (hv : val.size ≤ 4032) (h2 : ((recK kP key val).size : Int) + 16 > 524288 - wsum x.recs)
    (hw : ∀ ss : List ByteArray, ss.Perm (ps.map (·.1)) → (counted ((laidR ss key val ps).map Op11.enc)).2 = 0)
    (Q : AV → List AB → Prop) (q : ∀ (l' : Lg) (ss old : List ByteArray) (osh : Bool), ss.Perm (ps.map (·.1)) → l'.dat = (x.laid ((laidR ss key val ps).map Op11.enc)).l → Q (.d (.int .i64 0)) (Kc2 l' ps false old osh)) :
    ACalls Try.prog 97 [.ptr 0 0, .d (.str kk), .d (.str key), .d (.str val)] (Kc l ps false) Q := by
  have rP := rec_size kP key val
  have kp1 : kP.size = 1 := rfl
  have hps1 : ∀ p ∈ ps, p.1.size ≤ 1000000 := fun p hp => by have := (hsz p hp).1; omega
  refine acalls_go ttOk zOk foOk Try.func97 rfl Try.ntmps97 rfl false rfl ?_
  conv => whnf
  refine scope_go ttOk zOk foOk (σ := Lg × List ByteArray × Bool) (fun q => ([(0, .ptr 0 0), (10, .d (.int .i64 0))], Kc2 q.1 ps false q.2.1 q.2.2))
    (fun j q => j = 0 ∧ ∃ ss : List ByteArray, ss.Perm (ps.map (·.1)) ∧ q.1.dat = (x.laid ((laidR ss key val ps).map Op11.enc)).l) (fun _ _ => 0) ?_ ?_
  · rintro j rest hr ⟨l', old, osh⟩ ⟨rfl, ss, hss, hl'⟩
    simp only at hl' ⊢
    have ee := Option.some.inj (show some _ = some rest from hr)
    subst ee
    clear hr
    conv => whnf
    repeat' (first | ((with_reducible apply rd_intro); (focus (intro K hK; (conv => whnf); first | exact hK | (intro z hz; rw [wrapI (by omega)] at hz; subst hz; exact hK))); (conv => whnf)) | ((with_reducible apply gd_and); (focus ((conv => whnf); first | rfl | (intro K hK; (conv => whnf); first | exact hK | (intro z hz; rw [wrapI (by omega)] at hz; subst hz; exact hK)))); (conv => whnf)) | ((with_reducible apply z_wrap); (focus omega); (conv => whnf)) | ((with_reducible refine mt_dec (fun _ => ?_) (fun _ => ?_)) <;> (conv => whnf)) | ((with_reducible refine mt_eq (fun _ => ?_) (fun _ => ?_)) <;> (conv => whnf)) | ((with_reducible refine mt_ne (fun _ => ?_) (fun _ => ?_)) <;> (conv => whnf)) | ((with_reducible refine mt_not (fun _ => ?_) (fun _ => ?_)) <;> (conv => whnf)) | ((with_reducible refine mt_any (fun _ => ?_) (fun _ => ?_)) <;> (conv => whnf)))
    exact q l' ss old osh hss hl'
  · intro pass
    conv => whnf
    ((with_reducible refine draw_pl ttOk zOk foOk mixedOk pl97x2 ?_ ?_); (focus kernel_rfl); (conv => whnf))
    repeat' (first | ((with_reducible apply rd_intro); (focus (intro K hK; (conv => whnf); first | exact hK | (intro z hz; rw [wrapI (by omega)] at hz; subst hz; exact hK))); (conv => whnf)) | ((with_reducible apply gd_and); (focus ((conv => whnf); first | rfl | (intro K hK; (conv => whnf); first | exact hK | (intro z hz; rw [wrapI (by omega)] at hz; subst hz; exact hK)))); (conv => whnf)) | ((with_reducible apply z_wrap); (focus omega); (conv => whnf)) | ((with_reducible refine mt_dec (fun _ => ?_) (fun _ => ?_)) <;> (conv => whnf)) | ((with_reducible refine mt_eq (fun _ => ?_) (fun _ => ?_)) <;> (conv => whnf)) | ((with_reducible refine mt_ne (fun _ => ?_) (fun _ => ?_)) <;> (conv => whnf)) | ((with_reducible refine mt_not (fun _ => ?_) (fun _ => ?_)) <;> (conv => whnf)) | ((with_reducible refine mt_any (fun _ => ?_) (fun _ => ?_)) <;> (conv => whnf)))
    refine (record_ok kk key val (by rw [hkk]; decide) (by omega) (by omega)).mono ?_
    rintro _ _ ⟨rfl, rfl⟩
    obtain ⟨rec, hrec⟩ : ∃ rec, recK kP key val = rec := ⟨_, rfl⟩
    rw [hrec] at h2 rP
    rw [show recK kk key val = rec by rw [hkk, hrec]]
    conv => whnf
    repeat' (first | ((with_reducible apply rd_intro); (focus (intro K hK; (conv => whnf); first | exact hK | (intro z hz; rw [wrapI (by omega)] at hz; subst hz; exact hK))); (conv => whnf)) | ((with_reducible apply gd_and); (focus ((conv => whnf); first | rfl | (intro K hK; (conv => whnf); first | exact hK | (intro z hz; rw [wrapI (by omega)] at hz; subst hz; exact hK)))); (conv => whnf)) | ((with_reducible apply z_wrap); (focus omega); (conv => whnf)) | ((with_reducible refine mt_dec (fun _ => ?_) (fun _ => ?_)) <;> (conv => whnf)) | ((with_reducible refine mt_eq (fun _ => ?_) (fun _ => ?_)) <;> (conv => whnf)) | ((with_reducible refine mt_ne (fun _ => ?_) (fun _ => ?_)) <;> (conv => whnf)) | ((with_reducible refine mt_not (fun _ => ?_) (fun _ => ?_)) <;> (conv => whnf)) | ((with_reducible refine mt_any (fun _ => ?_) (fun _ => ?_)) <;> (conv => whnf)))
    refine (append_full l hx hl rec (by omega) h2).mono ?_
    rintro _ _ ⟨l1, rfl, rfl, hl1⟩
    conv => whnf
    repeat' (first | ((with_reducible apply rd_intro); (focus (intro K hK; (conv => whnf); first | exact hK | (intro z hz; rw [wrapI (by omega)] at hz; subst hz; exact hK))); (conv => whnf)) | ((with_reducible apply gd_and); (focus ((conv => whnf); first | rfl | (intro K hK; (conv => whnf); first | exact hK | (intro z hz; rw [wrapI (by omega)] at hz; subst hz; exact hK)))); (conv => whnf)) | ((with_reducible apply z_wrap); (focus omega); (conv => whnf)) | ((with_reducible refine mt_dec (fun _ => ?_) (fun _ => ?_)) <;> (conv => whnf)) | ((with_reducible refine mt_eq (fun _ => ?_) (fun _ => ?_)) <;> (conv => whnf)) | ((with_reducible refine mt_ne (fun _ => ?_) (fun _ => ?_)) <;> (conv => whnf)) | ((with_reducible refine mt_not (fun _ => ?_) (fun _ => ?_)) <;> (conv => whnf)) | ((with_reducible refine mt_any (fun _ => ?_) (fun _ => ?_)) <;> (conv => whnf)))
    refine (keysC l1 ps false hn (by omega) hps1).mono ?_
    rintro _ _ ⟨rfl, ss, hss, hrs, rfl⟩
    have hsl : (strs ss).length = ss.length := strs_length ss
    have hssl : ss.length ≤ 3000 := by have := hss.length_eq; simp at this; omega
    conv => whnf
    repeat' (first | ((with_reducible apply rd_intro); (focus (intro K hK; (conv => whnf); first | exact hK | (intro z hz; rw [wrapI (by omega)] at hz; subst hz; exact hK))); (conv => whnf)) | ((with_reducible apply gd_and); (focus ((conv => whnf); first | rfl | (intro K hK; (conv => whnf); first | exact hK | (intro z hz; rw [wrapI (by omega)] at hz; subst hz; exact hK)))); (conv => whnf)) | ((with_reducible apply z_wrap); (focus omega); (conv => whnf)) | ((with_reducible refine mt_dec (fun _ => ?_) (fun _ => ?_)) <;> (conv => whnf)) | ((with_reducible refine mt_eq (fun _ => ?_) (fun _ => ?_)) <;> (conv => whnf)) | ((with_reducible refine mt_ne (fun _ => ?_) (fun _ => ?_)) <;> (conv => whnf)) | ((with_reducible refine mt_not (fun _ => ?_) (fun _ => ?_)) <;> (conv => whnf)) | ((with_reducible refine mt_any (fun _ => ?_) (fun _ => ?_)) <;> (conv => whnf)))
    refine loop_go ttOk zOk foOk (σ := Nat) (fun k => ([(0, .ptr 0 0), (1, .d (.str kk)), (2, .d (.str key)), (3, .d (.str val)), (9, .arr 6), (25, .arr 7), (26, .d (.int .i64 (strs ss).length)), (27, .d (.int .i64 k))], Kc l1 ps false ++ [.row 9 1 (strs ((othersO (ss.take k) key ps).map Op11.enc)) false, .row 9 1 (strs ss) false])) (fun k => k ≤ ss.length) (fun k => ss.length - k) [0, 1, 2, 3, 9, 25, 26, 27] ?_ ?_
    · conv => whnf
      exact ⟨0, rfl, rfl, Nat.zero_le _⟩
    · intro k hk'
      have hol : (othersO (ss.take k) key ps).length ≤ 3000 := by
        unfold othersO
        rw [List.length_map]
        have h1 := List.length_filter_le (fun n => decide (n ≠ key)) (ss.take k)
        rw [List.length_take] at h1
        omega
      conv => whnf
      repeat' (first | ((with_reducible apply rd_intro); (focus (intro K hK; (conv => whnf); first | exact hK | (intro z hz; rw [wrapI (by omega)] at hz; subst hz; exact hK))); (conv => whnf)) | ((with_reducible apply gd_and); (focus ((conv => whnf); first | rfl | (intro K hK; (conv => whnf); first | exact hK | (intro z hz; rw [wrapI (by omega)] at hz; subst hz; exact hK)))); (conv => whnf)) | ((with_reducible apply z_wrap); (focus omega); (conv => whnf)) | ((with_reducible refine mt_dec (fun _ => ?_) (fun _ => ?_)) <;> (conv => whnf)) | ((with_reducible refine mt_eq (fun _ => ?_) (fun _ => ?_)) <;> (conv => whnf)) | ((with_reducible refine mt_ne (fun _ => ?_) (fun _ => ?_)) <;> (conv => whnf)) | ((with_reducible refine mt_not (fun _ => ?_) (fun _ => ?_)) <;> (conv => whnf)) | ((with_reducible refine mt_any (fun _ => ?_) (fun _ => ?_)) <;> (conv => whnf)))
      · rename_i h
        obtain ⟨n, hnk⟩ : ∃ n, ss[k]? = some n := ⟨_, List.getElem?_eq_getElem (by omega)⟩
        have hot := others_take (key := key) (ps := ps) hnk
        refine ⟨by omega, by rw [hsl]; show k < ss.length; omega, [.str n], by rw [Int.toNat_natCast, strs, List.getElem?_map, hnk]; rfl, ?_⟩
        conv => whnf
        repeat' (first | ((with_reducible apply rd_intro); (focus (intro K hK; (conv => whnf); first | exact hK | (intro z hz; rw [wrapI (by omega)] at hz; subst hz; exact hK))); (conv => whnf)) | ((with_reducible apply gd_and); (focus ((conv => whnf); first | rfl | (intro K hK; (conv => whnf); first | exact hK | (intro z hz; rw [wrapI (by omega)] at hz; subst hz; exact hK)))); (conv => whnf)) | ((with_reducible apply z_wrap); (focus omega); (conv => whnf)) | ((with_reducible refine mt_dec (fun _ => ?_) (fun _ => ?_)) <;> (conv => whnf)) | ((with_reducible refine mt_eq (fun _ => ?_) (fun _ => ?_)) <;> (conv => whnf)) | ((with_reducible refine mt_ne (fun _ => ?_) (fun _ => ?_)) <;> (conv => whnf)) | ((with_reducible refine mt_not (fun _ => ?_) (fun _ => ?_)) <;> (conv => whnf)) | ((with_reducible refine mt_any (fun _ => ?_) (fun _ => ?_)) <;> (conv => whnf)))
        · rename_i hne
          rw [toList_beq'] at hne
          have hne' : n ≠ key := by simpa using hne
          have hmem : n ∈ ps.map (·.1) := hss.subset (List.mem_of_getElem? hnk)
          cases hf : findP n ps 0 with
          | none => exact absurd hmem (not_key (findP_none hf).1)
          | some q =>
            obtain ⟨i, v⟩ := q
            have hgv : getD n ps = v := by unfold getD; rw [(findP_some hf).2.1]; rfl
            obtain ⟨hq1, hq2⟩ : n.size ≤ 32 ∧ v.size ≤ 4032 := hsz (n, v) (findP_in hf)
            refine ⟨_, mf_some hf, ?_⟩
            conv => whnf
            repeat' (first | ((with_reducible apply rd_intro); (focus (intro K hK; (conv => whnf); first | exact hK | (intro z hz; rw [wrapI (by omega)] at hz; subst hz; exact hK))); (conv => whnf)) | ((with_reducible apply gd_and); (focus ((conv => whnf); first | rfl | (intro K hK; (conv => whnf); first | exact hK | (intro z hz; rw [wrapI (by omega)] at hz; subst hz; exact hK)))); (conv => whnf)) | ((with_reducible apply z_wrap); (focus omega); (conv => whnf)) | ((with_reducible refine mt_dec (fun _ => ?_) (fun _ => ?_)) <;> (conv => whnf)) | ((with_reducible refine mt_eq (fun _ => ?_) (fun _ => ?_)) <;> (conv => whnf)) | ((with_reducible refine mt_ne (fun _ => ?_) (fun _ => ?_)) <;> (conv => whnf)) | ((with_reducible refine mt_not (fun _ => ?_) (fun _ => ?_)) <;> (conv => whnf)) | ((with_reducible refine mt_any (fun _ => ?_) (fun _ => ?_)) <;> (conv => whnf)))
            refine (record_ok kP n v (by decide) (by omega) (by omega)).mono ?_
            rintro _ _ ⟨rfl, rfl⟩
            conv => whnf
            repeat' (first | ((with_reducible apply rd_intro); (focus (intro K hK; (conv => whnf); first | exact hK | (intro z hz; rw [wrapI (by omega)] at hz; subst hz; exact hK))); (conv => whnf)) | ((with_reducible apply gd_and); (focus ((conv => whnf); first | rfl | (intro K hK; (conv => whnf); first | exact hK | (intro z hz; rw [wrapI (by omega)] at hz; subst hz; exact hK)))); (conv => whnf)) | ((with_reducible apply z_wrap); (focus omega); (conv => whnf)) | ((with_reducible refine mt_dec (fun _ => ?_) (fun _ => ?_)) <;> (conv => whnf)) | ((with_reducible refine mt_eq (fun _ => ?_) (fun _ => ?_)) <;> (conv => whnf)) | ((with_reducible refine mt_ne (fun _ => ?_) (fun _ => ?_)) <;> (conv => whnf)) | ((with_reducible refine mt_not (fun _ => ?_) (fun _ => ?_)) <;> (conv => whnf)) | ((with_reducible refine mt_any (fun _ => ?_) (fun _ => ?_)) <;> (conv => whnf)))
            refine ⟨by rw [strs_length, List.length_map]; (show (_ + 1) * 16 ≤ _); omega, ?_⟩
            conv => whnf
            repeat' (first | ((with_reducible apply rd_intro); (focus (intro K hK; (conv => whnf); first | exact hK | (intro z hz; rw [wrapI (by omega)] at hz; subst hz; exact hK))); (conv => whnf)) | ((with_reducible apply gd_and); (focus ((conv => whnf); first | rfl | (intro K hK; (conv => whnf); first | exact hK | (intro z hz; rw [wrapI (by omega)] at hz; subst hz; exact hK)))); (conv => whnf)) | ((with_reducible apply z_wrap); (focus omega); (conv => whnf)) | ((with_reducible refine mt_dec (fun _ => ?_) (fun _ => ?_)) <;> (conv => whnf)) | ((with_reducible refine mt_eq (fun _ => ?_) (fun _ => ?_)) <;> (conv => whnf)) | ((with_reducible refine mt_ne (fun _ => ?_) (fun _ => ?_)) <;> (conv => whnf)) | ((with_reducible refine mt_not (fun _ => ?_) (fun _ => ?_)) <;> (conv => whnf)) | ((with_reducible refine mt_any (fun _ => ?_) (fun _ => ?_)) <;> (conv => whnf)))
            refine ⟨k + 1, rfl, ?_, by omega, by omega⟩
            rw [hot, if_pos hne', hgv, strs_app, List.map_append]
            rfl
        · rename_i hne
          rw [toList_beq'] at hne
          have hne' : n = key := by simpa using hne
          refine ⟨k + 1, rfl, ?_, by omega, by omega⟩
          rw [hot, if_neg (fun h => h hne'), List.append_nil]
          rfl
      · rename_i h
        obtain rfl : k = ss.length := by omega
        rw [List.take_length] at hol ⊢
        refine (record_ok kP key val (by decide) (by omega) (by omega)).mono ?_
        rintro _ _ ⟨rfl, rfl⟩
        conv => whnf
        repeat' (first | ((with_reducible apply rd_intro); (focus (intro K hK; (conv => whnf); first | exact hK | (intro z hz; rw [wrapI (by omega)] at hz; subst hz; exact hK))); (conv => whnf)) | ((with_reducible apply gd_and); (focus ((conv => whnf); first | rfl | (intro K hK; (conv => whnf); first | exact hK | (intro z hz; rw [wrapI (by omega)] at hz; subst hz; exact hK)))); (conv => whnf)) | ((with_reducible apply z_wrap); (focus omega); (conv => whnf)) | ((with_reducible refine mt_dec (fun _ => ?_) (fun _ => ?_)) <;> (conv => whnf)) | ((with_reducible refine mt_eq (fun _ => ?_) (fun _ => ?_)) <;> (conv => whnf)) | ((with_reducible refine mt_ne (fun _ => ?_) (fun _ => ?_)) <;> (conv => whnf)) | ((with_reducible refine mt_not (fun _ => ?_) (fun _ => ?_)) <;> (conv => whnf)) | ((with_reducible refine mt_any (fun _ => ?_) (fun _ => ?_)) <;> (conv => whnf)))
        refine ⟨by rw [strs_length, List.length_map]; (show (_ + 1) * 16 ≤ _); omega, ?_⟩
        rw [strs_app, show (othersO ss key ps).map Op11.enc ++ [recK kP key val] = (laidR ss key val ps).map Op11.enc by simp [laidR, Op11.enc]]
        conv => whnf
        repeat' (first | ((with_reducible apply rd_intro); (focus (intro K hK; (conv => whnf); first | exact hK | (intro z hz; rw [wrapI (by omega)] at hz; subst hz; exact hK))); (conv => whnf)) | ((with_reducible apply gd_and); (focus ((conv => whnf); first | rfl | (intro K hK; (conv => whnf); first | exact hK | (intro z hz; rw [wrapI (by omega)] at hz; subst hz; exact hK)))); (conv => whnf)) | ((with_reducible apply z_wrap); (focus omega); (conv => whnf)) | ((with_reducible refine mt_dec (fun _ => ?_) (fun _ => ?_)) <;> (conv => whnf)) | ((with_reducible refine mt_eq (fun _ => ?_) (fun _ => ?_)) <;> (conv => whnf)) | ((with_reducible refine mt_ne (fun _ => ?_) (fun _ => ?_)) <;> (conv => whnf)) | ((with_reducible refine mt_not (fun _ => ?_) (fun _ => ?_)) <;> (conv => whnf)) | ((with_reducible refine mt_any (fun _ => ?_) (fun _ => ?_)) <;> (conv => whnf)))
        (refine Or.inr ?_; (conv => whnf))
        refine (reset_good l1 hx hl1 ((laidR ss key val ps).map Op11.enc) false (by simp [laidR]; omega) (hw ss hss)).mono ?_
        rintro _ _ ⟨l2, rfl, rfl, hl2⟩
        conv => whnf
        repeat' (first | ((with_reducible apply rd_intro); (focus (intro K hK; (conv => whnf); first | exact hK | (intro z hz; rw [wrapI (by omega)] at hz; subst hz; exact hK))); (conv => whnf)) | ((with_reducible apply gd_and); (focus ((conv => whnf); first | rfl | (intro K hK; (conv => whnf); first | exact hK | (intro z hz; rw [wrapI (by omega)] at hz; subst hz; exact hK)))); (conv => whnf)) | ((with_reducible apply z_wrap); (focus omega); (conv => whnf)) | ((with_reducible refine mt_dec (fun _ => ?_) (fun _ => ?_)) <;> (conv => whnf)) | ((with_reducible refine mt_eq (fun _ => ?_) (fun _ => ?_)) <;> (conv => whnf)) | ((with_reducible refine mt_ne (fun _ => ?_) (fun _ => ?_)) <;> (conv => whnf)) | ((with_reducible refine mt_not (fun _ => ?_) (fun _ => ?_)) <;> (conv => whnf)) | ((with_reducible refine mt_any (fun _ => ?_) (fun _ => ?_)) <;> (conv => whnf)))
        refine aw_at (σ := Unit) (fun _ => ([(0, .ptr 0 0), (10, .d (.int .i64 0))], Kc2 l2 ps false l1.recs l1.sh)) (fun _ => True) [0, 10] ?_ ?_
        · conv => whnf
          exact ⟨(), rfl, rfl, trivial⟩
        · intro _ _
          exact pass 0 _ rfl (l2, l1.recs, l1.sh) ⟨rfl, ss, hss, hl2⟩
      · rename_i h2
        exfalso
        rw [kP_ne hkk] at h2
        cases h2
end Go.Proofs.Ytpedbknmkgcldaa
