/- Part of the proof of KeepOver: the contracts of the functions. -/
import Derived.Test.YtpedbknmkgcldaaKeepOverCodD

set_option linter.unusedVariables false
set_option linter.unusedSimpArgs false
namespace Go.Proofs.Ytpedbknmkgcldaa
open Go.Ab Go.RowKit Go.MapKept
attribute [local irreducible] ACalls AW ADraw Into
set_option maxRecDepth 100000
set_option maxHeartbeats 4000000 in
theorem put_full (l : Lg) (ps : List (ByteArray × ByteArray)) {x : LS} (hx : x.ok) (hl : l.dat = x.l) (hn : (ps.map (·.1)).Nodup) (hps : ps.length ≤ 3000) (hsz : ∀ p ∈ ps, p.1.size ≤ 32 ∧ p.2.size ≤ 4032) (key val : ByteArray) (hb0 : badK key val = false) (hsm : psum ps + key.size + val.size + 64 ≤ 262144) (hfull : ((recK kP key val).size : Int) + 16 > 524288 - wsum x.recs)
    (hw : ∀ ss : List ByteArray, ss.Perm (ps.map (·.1)) → (counted ((laidR ss key val ps).map Op11.enc)).2 = 0)
    (Q : AV → List AB → Prop) (q2 : ∀ (l' : Lg) (ss old : List ByteArray) (osh : Bool), ss.Perm (ps.map (·.1)) → l'.dat = (x.laid ((laidR ss key val ps).map Op11.enc)).l → Q (.d (.int .i64 0)) (Kc2 l' (setP key val ps) false old osh)) :
    ACalls Try.prog 55 [.ptr 0 0, .d (.str key), .d (.str val)] (Kc l ps false) Q := by
  have h0 := psum_nonneg ps
  have hlen := psum_len ps
  have hml : (ps.map pe).length = ps.length := List.length_map ..
  have hdel := psum_nonneg (delP key ps)
  refine acalls_go ttOk zOk foOk Try.func55 rfl Try.ntmps55 rfl false rfl ?_
  conv => whnf
  repeat' (first | ((with_reducible apply rd_intro); (focus (intro K hK; (conv => whnf); first | exact hK | (intro z hz; rw [wrapI (by omega)] at hz; subst hz; exact hK))); (conv => whnf)) | ((with_reducible apply gd_and); (focus ((conv => whnf); first | rfl | (intro K hK; (conv => whnf); first | exact hK | (intro z hz; rw [wrapI (by omega)] at hz; subst hz; exact hK)))); (conv => whnf)) | ((with_reducible apply z_wrap); (focus omega); (conv => whnf)) | ((with_reducible refine mt_dec (fun _ => ?_) (fun _ => ?_)) <;> (conv => whnf)) | ((with_reducible refine mt_eq (fun _ => ?_) (fun _ => ?_)) <;> (conv => whnf)) | ((with_reducible refine mt_ne (fun _ => ?_) (fun _ => ?_)) <;> (conv => whnf)) | ((with_reducible refine mt_not (fun _ => ?_) (fun _ => ?_)) <;> (conv => whnf)) | ((with_reducible refine mt_any (fun _ => ?_) (fun _ => ?_)) <;> (conv => whnf)))
  cases hf : findP key ps 0 with
  | none =>
    refine ⟨_, mf_none hf, ?_⟩
    conv => whnf
    ((with_reducible refine draw_pl ttOk zOk foOk mixedOk pl55x2 ?_ ?_); (focus kernel_rfl); (conv => whnf))
    repeat' (first | ((with_reducible apply rd_intro); (focus (intro K hK; (conv => whnf); first | exact hK | (intro z hz; rw [wrapI (by omega)] at hz; subst hz; exact hK))); (conv => whnf)) | ((with_reducible apply gd_and); (focus ((conv => whnf); first | rfl | (intro K hK; (conv => whnf); first | exact hK | (intro z hz; rw [wrapI (by omega)] at hz; subst hz; exact hK)))); (conv => whnf)) | ((with_reducible apply z_wrap); (focus omega); (conv => whnf)) | ((with_reducible refine mt_dec (fun _ => ?_) (fun _ => ?_)) <;> (conv => whnf)) | ((with_reducible refine mt_eq (fun _ => ?_) (fun _ => ?_)) <;> (conv => whnf)) | ((with_reducible refine mt_ne (fun _ => ?_) (fun _ => ?_)) <;> (conv => whnf)) | ((with_reducible refine mt_not (fun _ => ?_) (fun _ => ?_)) <;> (conv => whnf)) | ((with_reducible refine mt_any (fun _ => ?_) (fun _ => ?_)) <;> (conv => whnf)))
    refine (goodK_ok key).mono ?_
    rintro _ _ ⟨rfl, rfl⟩
    conv => whnf
    repeat' (first | ((with_reducible apply rd_intro); (focus (intro K hK; (conv => whnf); first | exact hK | (intro z hz; rw [wrapI (by omega)] at hz; subst hz; exact hK))); (conv => whnf)) | ((with_reducible apply gd_and); (focus ((conv => whnf); first | rfl | (intro K hK; (conv => whnf); first | exact hK | (intro z hz; rw [wrapI (by omega)] at hz; subst hz; exact hK)))); (conv => whnf)) | ((with_reducible apply z_wrap); (focus omega); (conv => whnf)) | ((with_reducible refine mt_dec (fun _ => ?_) (fun _ => ?_)) <;> (conv => whnf)) | ((with_reducible refine mt_eq (fun _ => ?_) (fun _ => ?_)) <;> (conv => whnf)) | ((with_reducible refine mt_ne (fun _ => ?_) (fun _ => ?_)) <;> (conv => whnf)) | ((with_reducible refine mt_not (fun _ => ?_) (fun _ => ?_)) <;> (conv => whnf)) | ((with_reducible refine mt_any (fun _ => ?_) (fun _ => ?_)) <;> (conv => whnf)))
    · rename_i hg
      have hb : badK key val = true := by simp [badK, hg]
      rw [hb0] at hb; cases hb
    · rename_i hg hv
      have hb : badK key val = true := by simp [badK]; right; omega
      rw [hb0] at hb; cases hb
    · rename_i hg hv hc
      exfalso; omega
    · rename_i hg hv hc hs
      exfalso; omega
    rename_i hg hv hc hs
    have hgk : goodK key = true := by simpa using hg
    have hb : badK key val = false := by simp [badK, hgk]; omega
    have hk32 : 0 < key.size ∧ key.size ≤ 32 := by
      simp only [goodK, Bool.and_eq_true, decide_eq_true_eq] at hgk
      exact hgk
    have hrs := rec_size kP key val
    have hkp : kP.size = 1 := rfl
    refine write_full l ps hx hl hn hps hsz ⟨#[112]⟩ key val rfl (by omega) (by omega) (hfull) hw _ ?_
    intro l' ss old osh hss hl'
    conv => whnf
    repeat' (first | ((with_reducible apply rd_intro); (focus (intro K hK; (conv => whnf); first | exact hK | (intro z hz; rw [wrapI (by omega)] at hz; subst hz; exact hK))); (conv => whnf)) | ((with_reducible apply gd_and); (focus ((conv => whnf); first | rfl | (intro K hK; (conv => whnf); first | exact hK | (intro z hz; rw [wrapI (by omega)] at hz; subst hz; exact hK)))); (conv => whnf)) | ((with_reducible apply z_wrap); (focus omega); (conv => whnf)) | ((with_reducible refine mt_dec (fun _ => ?_) (fun _ => ?_)) <;> (conv => whnf)) | ((with_reducible refine mt_eq (fun _ => ?_) (fun _ => ?_)) <;> (conv => whnf)) | ((with_reducible refine mt_ne (fun _ => ?_) (fun _ => ?_)) <;> (conv => whnf)) | ((with_reducible refine mt_not (fun _ => ?_) (fun _ => ?_)) <;> (conv => whnf)) | ((with_reducible refine mt_any (fun _ => ?_) (fun _ => ?_)) <;> (conv => whnf)))
    refine (set_ok ⟨l', ps, false⟩ (show psum ps ≤ _ by omega) hn key val (by omega) (by omega)).mono ?_
    rintro _ _ ⟨rfl, rfl⟩
    conv => whnf
    repeat' (first | ((with_reducible apply rd_intro); (focus (intro K hK; (conv => whnf); first | exact hK | (intro z hz; rw [wrapI (by omega)] at hz; subst hz; exact hK))); (conv => whnf)) | ((with_reducible apply gd_and); (focus ((conv => whnf); first | rfl | (intro K hK; (conv => whnf); first | exact hK | (intro z hz; rw [wrapI (by omega)] at hz; subst hz; exact hK)))); (conv => whnf)) | ((with_reducible apply z_wrap); (focus omega); (conv => whnf)) | ((with_reducible refine mt_dec (fun _ => ?_) (fun _ => ?_)) <;> (conv => whnf)) | ((with_reducible refine mt_eq (fun _ => ?_) (fun _ => ?_)) <;> (conv => whnf)) | ((with_reducible refine mt_ne (fun _ => ?_) (fun _ => ?_)) <;> (conv => whnf)) | ((with_reducible refine mt_not (fun _ => ?_) (fun _ => ?_)) <;> (conv => whnf)) | ((with_reducible refine mt_any (fun _ => ?_) (fun _ => ?_)) <;> (conv => whnf)))
    exact q2 l' ss old osh hss hl'
  | some p =>
    obtain ⟨i, v⟩ := p
    obtain ⟨_, f1, f2, f3, f4⟩ := findP_some hf
    refine ⟨_, mf_some hf, ?_⟩
    conv => whnf
    ((with_reducible refine draw_pl ttOk zOk foOk mixedOk pl55x2 ?_ ?_); (focus kernel_rfl); (conv => whnf))
    repeat' (first | ((with_reducible apply rd_intro); (focus (intro K hK; (conv => whnf); first | exact hK | (intro z hz; rw [wrapI (by omega)] at hz; subst hz; exact hK))); (conv => whnf)) | ((with_reducible apply gd_and); (focus ((conv => whnf); first | rfl | (intro K hK; (conv => whnf); first | exact hK | (intro z hz; rw [wrapI (by omega)] at hz; subst hz; exact hK)))); (conv => whnf)) | ((with_reducible apply z_wrap); (focus omega); (conv => whnf)) | ((with_reducible refine mt_dec (fun _ => ?_) (fun _ => ?_)) <;> (conv => whnf)) | ((with_reducible refine mt_eq (fun _ => ?_) (fun _ => ?_)) <;> (conv => whnf)) | ((with_reducible refine mt_ne (fun _ => ?_) (fun _ => ?_)) <;> (conv => whnf)) | ((with_reducible refine mt_not (fun _ => ?_) (fun _ => ?_)) <;> (conv => whnf)) | ((with_reducible refine mt_any (fun _ => ?_) (fun _ => ?_)) <;> (conv => whnf)))
    refine (goodK_ok key).mono ?_
    rintro _ _ ⟨rfl, rfl⟩
    conv => whnf
    repeat' (first | ((with_reducible apply rd_intro); (focus (intro K hK; (conv => whnf); first | exact hK | (intro z hz; rw [wrapI (by omega)] at hz; subst hz; exact hK))); (conv => whnf)) | ((with_reducible apply gd_and); (focus ((conv => whnf); first | rfl | (intro K hK; (conv => whnf); first | exact hK | (intro z hz; rw [wrapI (by omega)] at hz; subst hz; exact hK)))); (conv => whnf)) | ((with_reducible apply z_wrap); (focus omega); (conv => whnf)) | ((with_reducible refine mt_dec (fun _ => ?_) (fun _ => ?_)) <;> (conv => whnf)) | ((with_reducible refine mt_eq (fun _ => ?_) (fun _ => ?_)) <;> (conv => whnf)) | ((with_reducible refine mt_ne (fun _ => ?_) (fun _ => ?_)) <;> (conv => whnf)) | ((with_reducible refine mt_not (fun _ => ?_) (fun _ => ?_)) <;> (conv => whnf)) | ((with_reducible refine mt_any (fun _ => ?_) (fun _ => ?_)) <;> (conv => whnf)))
    · rename_i hg
      have hb : badK key val = true := by simp [badK, hg]
      rw [hb0] at hb; cases hb
    · rename_i hg hv
      have hb : badK key val = true := by simp [badK]; right; omega
      rw [hb0] at hb; cases hb
    · rename_i hg hv hc
      exfalso; omega
    · rename_i hg hv hc hs
      exfalso; omega
    rename_i hg hv hc hs
    have hgk : goodK key = true := by simpa using hg
    have hb : badK key val = false := by simp [badK, hgk]; omega
    have hk32 : 0 < key.size ∧ key.size ≤ 32 := by
      simp only [goodK, Bool.and_eq_true, decide_eq_true_eq] at hgk
      exact hgk
    have hrs := rec_size kP key val
    have hkp : kP.size = 1 := rfl
    refine write_full l ps hx hl hn hps hsz ⟨#[112]⟩ key val rfl (by omega) (by omega) (hfull) hw _ ?_
    intro l' ss old osh hss hl'
    conv => whnf
    repeat' (first | ((with_reducible apply rd_intro); (focus (intro K hK; (conv => whnf); first | exact hK | (intro z hz; rw [wrapI (by omega)] at hz; subst hz; exact hK))); (conv => whnf)) | ((with_reducible apply gd_and); (focus ((conv => whnf); first | rfl | (intro K hK; (conv => whnf); first | exact hK | (intro z hz; rw [wrapI (by omega)] at hz; subst hz; exact hK)))); (conv => whnf)) | ((with_reducible apply z_wrap); (focus omega); (conv => whnf)) | ((with_reducible refine mt_dec (fun _ => ?_) (fun _ => ?_)) <;> (conv => whnf)) | ((with_reducible refine mt_eq (fun _ => ?_) (fun _ => ?_)) <;> (conv => whnf)) | ((with_reducible refine mt_ne (fun _ => ?_) (fun _ => ?_)) <;> (conv => whnf)) | ((with_reducible refine mt_not (fun _ => ?_) (fun _ => ?_)) <;> (conv => whnf)) | ((with_reducible refine mt_any (fun _ => ?_) (fun _ => ?_)) <;> (conv => whnf)))
    refine (set_ok ⟨l', ps, false⟩ (show psum ps ≤ _ by omega) hn key val (by omega) (by omega)).mono ?_
    rintro _ _ ⟨rfl, rfl⟩
    conv => whnf
    repeat' (first | ((with_reducible apply rd_intro); (focus (intro K hK; (conv => whnf); first | exact hK | (intro z hz; rw [wrapI (by omega)] at hz; subst hz; exact hK))); (conv => whnf)) | ((with_reducible apply gd_and); (focus ((conv => whnf); first | rfl | (intro K hK; (conv => whnf); first | exact hK | (intro z hz; rw [wrapI (by omega)] at hz; subst hz; exact hK)))); (conv => whnf)) | ((with_reducible apply z_wrap); (focus omega); (conv => whnf)) | ((with_reducible refine mt_dec (fun _ => ?_) (fun _ => ?_)) <;> (conv => whnf)) | ((with_reducible refine mt_eq (fun _ => ?_) (fun _ => ?_)) <;> (conv => whnf)) | ((with_reducible refine mt_ne (fun _ => ?_) (fun _ => ?_)) <;> (conv => whnf)) | ((with_reducible refine mt_not (fun _ => ?_) (fun _ => ?_)) <;> (conv => whnf)) | ((with_reducible refine mt_any (fun _ => ?_) (fun _ => ?_)) <;> (conv => whnf)))
    exact q2 l' ss old osh hss hl'
end Go.Proofs.Ytpedbknmkgcldaa

namespace Go.Proofs.Ytpedbknmkgcldaa
open Go.Ab Go.RowKit Go.MapKept
attribute [local irreducible] ACalls AW ADraw Into
set_option maxRecDepth 100000
def Act11.wt (a : Act11) : Int := a.key.size + a.val.size + a.picks.length
def hv11 : Int → List Act11 → Int
  | n, [] => n
  | n, a :: r => if n < 1048576 then hv11 (n + a.wt) r else n
def sw11 : List Act11 → Int
  | [] => 0
  | a :: r => a.wt + sw11 r
def Scr11.heavy (p : Scr11) : Bool := decide (hv11 0 p.acts > 40000) || (decide (p.offs.length > 20) || decide (p.acts.length > 200))
theorem wt11_range {a : Act11} (h : a.ok) : 0 ≤ a.wt ∧ a.wt ≤ 562949953421312 := by
  have h1 := h.key
  have h2 := h.val
  have h3 := h.picks
  unfold Act11.wt
  omega
theorem wt11_nonneg (a : Act11) : 0 ≤ a.wt := by unfold Act11.wt; omega
theorem sw11_nonneg (l : List Act11) : 0 ≤ sw11 l := by
  induction l with
  | nil => simp [sw11]
  | cons a r ih => have := wt11_nonneg a; simp only [sw11]; omega
theorem hv11_exact (l : List Act11) : ∀ n, hv11 n l < 1048576 → hv11 n l = n + sw11 l := by
  induction l with
  | nil => intro n _; simp [hv11, sw11]
  | cons a r ih =>
    intro n h
    simp only [hv11] at h ⊢
    split
    · rename_i hn
      rw [if_pos hn] at h
      rw [ih _ h]
      simp only [sw11]; omega
    · rename_i hn
      rw [if_neg hn] at h
      omega
theorem sw11_light {p : Scr11} (h : p.heavy = false) : sw11 p.acts ≤ 40000 := by
  simp only [Scr11.heavy, Bool.or_eq_false_iff, decide_eq_false_iff_not] at h
  have := hv11_exact p.acts 0 (by omega)
  omega
theorem sw11_take {l : List Act11} {k : Nat} {a : Act11} (h : l[k]? = some a) : sw11 (l.take (k + 1)) = sw11 (l.take k) + a.wt := by
  rw [List.take_add_one, h]
  have : ∀ (x : List Act11) (b : Act11), sw11 (x ++ [b]) = sw11 x + b.wt := by
    intro x b
    induction x with
    | nil => simp [sw11]
    | cons c r ih => simp only [List.cons_append, sw11, ih]; omega
  exact this _ _
theorem sw11_le (l : List Act11) (k : Nat) : sw11 (l.take k) ≤ sw11 l := by
  have : ∀ (x y : List Act11), sw11 (x ++ y) = sw11 x + sw11 y := by
    intro x y
    induction x with
    | nil => simp [sw11]
    | cons c r ih => simp only [List.cons_append, sw11, ih]; omega
  have h := this (l.take k) (l.drop k)
  rw [List.take_append_drop] at h
  have := sw11_nonneg (l.drop k)
  omega
set_option maxHeartbeats 4000000 in
theorem heavy11_ok (p : Scr11) (hp : p.ok) : ACalls Try.prog 61 [p.av] [] (fun av L => av = .d (.bool p.heavy) ∧ L = []) := by
  refine acalls_go ttOk zOk foOk Try.func61 rfl Try.ntmps61 rfl false rfl ?_
  conv => whnf
  refine loop_go2 ttOk zOk foOk (σ := Nat) (ρ := Int) (fun k n => ([(1, .ptr 0 0), (3, .d (.int .i64 n)), (4, .d (.int .i64 k))], [.cells p.cells])) (fun k n => k ≤ p.acts.length ∧ 0 ≤ n ∧ n ≤ 562949954469888 ∧ hv11 n (p.acts.drop k) = hv11 0 p.acts) (fun k _ => p.acts.length - k) [1, 3, 4] ?_ ?_
  · conv => whnf
    exact ⟨0, 0, rfl, rfl, by omega, by omega, by omega, rfl⟩
  · rintro k n ⟨hk, h0, hb, he⟩
    conv => whnf
    have hla := hp.la
    have key : (¬ (k < p.acts.length) ∨ ¬ n < 1048576) → hv11 0 p.acts = n := by
      intro h
      rw [← he]
      by_cases hk2 : k < p.acts.length
      · have hd : p.acts.drop k = p.acts[k] :: p.acts.drop (k + 1) := (List.getElem_cons_drop hk2).symm
        rw [hd, hv11, if_neg (by rcases h with h | h; exact absurd hk2 h; exact h)]
      · rw [List.drop_eq_nil_of_le (by omega), hv11]
    repeat' (first | ((with_reducible apply rd_intro); (focus (intro K hK; (conv => whnf); first | exact hK | (intro z hz; rw [wrapI (by omega)] at hz; subst hz; exact hK))); (conv => whnf)) | ((with_reducible apply gd_and); (focus ((conv => whnf); first | rfl | (intro K hK; (conv => whnf); first | exact hK | (intro z hz; rw [wrapI (by omega)] at hz; subst hz; exact hK)))); (conv => whnf)) | ((with_reducible apply z_wrap); (focus omega); (conv => whnf)) | ((with_reducible refine mt_dec (fun _ => ?_) (fun _ => ?_)) <;> (conv => whnf)) | ((with_reducible refine mt_eq (fun _ => ?_) (fun _ => ?_)) <;> (conv => whnf)) | ((with_reducible refine mt_ne (fun _ => ?_) (fun _ => ?_)) <;> (conv => whnf)) | ((with_reducible refine mt_not (fun _ => ?_) (fun _ => ?_)) <;> (conv => whnf)) | ((with_reducible refine mt_any (fun _ => ?_) (fun _ => ?_)) <;> (conv => whnf)))
    · rename_i h hn
      simp only [List.length_map] at h
      obtain ⟨a, ha⟩ : ∃ a, p.acts[k]? = some a := ⟨_, List.getElem?_eq_getElem (by omega)⟩
      have hok := hp.a a (List.mem_of_getElem? ha)
      have hwt := wt11_range hok
      have hd : p.acts.drop k = a :: p.acts.drop (k + 1) := by
        rw [← List.getElem_cons_drop (by omega)]
        rw [List.getElem?_eq_some_iff.1 ha |>.2]
      rw [hd, hv11, if_pos hn] at he
      have h1 := hok.key
      have h2 := hok.val
      have h3 := hok.picks
      have hnl : (nums a.picks).length = a.picks.length := List.length_map ..
      have hwd : a.wt = a.key.size + a.val.size + a.picks.length := rfl
      ((with_reducible refine draw_pl ttOk zOk foOk mixedOk pl61x5 ?_ ?_); (focus kernel_rfl); (conv => whnf))
      repeat' (first | (first | ((with_reducible apply rd_intro); (focus (intro K hK; (conv => whnf); first | exact hK | (intro z hz; rw [wrapI (by omega)] at hz; subst hz; exact hK))); (conv => whnf)) | ((with_reducible apply gd_and); (focus ((conv => whnf); first | rfl | (intro K hK; (conv => whnf); first | exact hK | (intro z hz; rw [wrapI (by omega)] at hz; subst hz; exact hK)))); (conv => whnf)) | ((with_reducible apply z_wrap); (focus omega); (conv => whnf)) | ((with_reducible refine mt_dec (fun _ => ?_) (fun _ => ?_)) <;> (conv => whnf)) | ((with_reducible refine mt_eq (fun _ => ?_) (fun _ => ?_)) <;> (conv => whnf)) | ((with_reducible refine mt_ne (fun _ => ?_) (fun _ => ?_)) <;> (conv => whnf)) | ((with_reducible refine mt_not (fun _ => ?_) (fun _ => ?_)) <;> (conv => whnf)) | ((with_reducible refine mt_any (fun _ => ?_) (fun _ => ?_)) <;> (conv => whnf))) | ((with_reducible apply rd_intro); (focus (intro K hK; (conv => whnf); exact ⟨by omega, a.cs, by simp [ha], hK⟩)); (conv => whnf)))
      refine ⟨k + 1, n + a.wt, ?_, rfl, ⟨by omega, by omega, by omega, he⟩, by omega⟩
      rw [hwd, ← hnl, show n + ((a.key.size : Int) + a.val.size + (nums a.picks).length) = n + a.key.size + a.val.size + (nums a.picks).length by omega]
      rfl
    all_goals
      have hno : (nums p.offs).length = p.offs.length := List.length_map ..
      have hna : (p.acts.map Act11.cs).length = p.acts.length := List.length_map ..
      have e := key (by omega)
      refine ⟨?_, rfl⟩
      refine boolEq ?_
      simp only [Scr11.heavy, e, Bool.or_eq_true, decide_eq_true_eq]
      simp
      omega
end Go.Proofs.Ytpedbknmkgcldaa

namespace Go.Proofs.Ytpedbknmkgcldaa
open Go.Ab Go.RowKit Go.MapKept
attribute [local irreducible] ACalls AW ADraw Into
set_option maxRecDepth 100000
def pc (p : ByteArray × ByteArray) : List DV := [.str p.1, .str p.2]
def prs (l : List (ByteArray × ByteArray)) : List (List DV) := l.map pc
def fi (r : List (ByteArray × ByteArray)) (key : ByteArray) : Nat := (r.takeWhile fun p => lessS p.1 key).length
def ft (r : List (ByteArray × ByteArray)) (key : ByteArray) : Bool := match r[fi r key]? with | some p => decide (p.1 = key) | none => false
theorem tw_len {α : Type} {P : α → Bool} : ∀ {r : List α} {k : Nat}, k ≤ r.length → (r.take k).all P = true → (k = r.length ∨ ∃ x, r[k]? = some x ∧ P x = false) → (r.takeWhile P).length = k
  | [], k, hk, _, _ => by simp at hk; simp [hk]
  | x :: r, 0, _, _, h => by
    rcases h with h | ⟨y, h1, h2⟩
    · simp at h
    · simp at h1; subst h1; simp [List.takeWhile, h2]
  | x :: r, k + 1, hk, ha, h => by
    simp only [List.take_succ_cons, List.all_cons, Bool.and_eq_true] at ha
    simp only [List.takeWhile, ha.1, List.length_cons]
    congr 1
    refine tw_len (by simpa using hk) ha.2 ?_
    rcases h with h | ⟨y, h1, h2⟩
    · left; simpa using h
    · right; exact ⟨y, by simpa using h1, h2⟩
theorem toList_beq (a b : ByteArray) : (a.toList == b.toList) = decide (a = b) := by
  by_cases h : a = b
  · subst h; simp
  · rw [decide_eq_false h, beq_eq_false_iff_ne]
    intro e
    apply h
    rw [ByteArray.toList_eq, ByteArray.toList_eq] at e
    rcases a with ⟨⟨a⟩⟩; rcases b with ⟨⟨b⟩⟩
    simpa using e
set_option maxHeartbeats 4000000 in
theorem find_ok (r : List (ByteArray × ByteArray)) (key : ByteArray) (hr : r.length ≤ 1000000) : ACalls Try.prog 64 [.d (.sl 2 (prs r)), .d (.str key)] [] (fun av L => av = .tup [.d (.int .i64 (fi r key)), .d (.bool (ft r key))] ∧ L = []) := by
  have hpl : (prs r).length = r.length := List.length_map ..
  refine acalls_go ttOk zOk foOk Try.func64 rfl Try.ntmps64 rfl false rfl ?_
  conv => whnf
  refine loop_go ttOk zOk foOk (σ := Nat) (fun k => ([(0, .d (.sl 2 (prs r))), (1, .d (.str key)), (6, .d (.int .i64 k))], [])) (fun k => k ≤ r.length ∧ (r.take k).all (fun p => lessS p.1 key) = true) (fun k => r.length - k) [0, 1, 6] ?_ ?_
  · conv => whnf
    exact ⟨0, rfl, rfl, by simp⟩
  · rintro k ⟨hk, hall⟩
    conv => whnf
    repeat' (first | ((with_reducible apply rd_intro); (focus (intro K hK; (conv => whnf); first | exact hK | (intro z hz; rw [wrapI (by omega)] at hz; subst hz; exact hK))); (conv => whnf)) | ((with_reducible apply gd_and); (focus ((conv => whnf); first | rfl | (intro K hK; (conv => whnf); first | exact hK | (intro z hz; rw [wrapI (by omega)] at hz; subst hz; exact hK)))); (conv => whnf)) | ((with_reducible apply z_wrap); (focus omega); (conv => whnf)) | ((with_reducible refine mt_dec (fun _ => ?_) (fun _ => ?_)) <;> (conv => whnf)) | ((with_reducible refine mt_eq (fun _ => ?_) (fun _ => ?_)) <;> (conv => whnf)) | ((with_reducible refine mt_ne (fun _ => ?_) (fun _ => ?_)) <;> (conv => whnf)) | ((with_reducible refine mt_not (fun _ => ?_) (fun _ => ?_)) <;> (conv => whnf)) | ((with_reducible refine mt_any (fun _ => ?_) (fun _ => ?_)) <;> (conv => whnf)))
    · rename_i h
      obtain ⟨p, hp⟩ : ∃ p, r[k]? = some p := ⟨_, List.getElem?_eq_getElem (by omega)⟩
      have hpp : (prs r)[((k : Nat) : Int).toNat]? = some (pc p) := by rw [Int.toNat_natCast, prs, List.getElem?_map, hp]; rfl
      refine ⟨by omega, pc p, hpp, ?_⟩
      conv => whnf
      repeat' (first | ((with_reducible apply rd_intro); (focus (intro K hK; (conv => whnf); first | exact hK | (intro z hz; rw [wrapI (by omega)] at hz; subst hz; exact hK))); (conv => whnf)) | ((with_reducible apply gd_and); (focus ((conv => whnf); first | rfl | (intro K hK; (conv => whnf); first | exact hK | (intro z hz; rw [wrapI (by omega)] at hz; subst hz; exact hK)))); (conv => whnf)) | ((with_reducible apply z_wrap); (focus omega); (conv => whnf)) | ((with_reducible refine mt_dec (fun _ => ?_) (fun _ => ?_)) <;> (conv => whnf)) | ((with_reducible refine mt_eq (fun _ => ?_) (fun _ => ?_)) <;> (conv => whnf)) | ((with_reducible refine mt_ne (fun _ => ?_) (fun _ => ?_)) <;> (conv => whnf)) | ((with_reducible refine mt_not (fun _ => ?_) (fun _ => ?_)) <;> (conv => whnf)) | ((with_reducible refine mt_any (fun _ => ?_) (fun _ => ?_)) <;> (conv => whnf)))
      · rename_i hless
        refine ⟨k + 1, rfl, rfl, ⟨by omega, ?_⟩, by omega⟩
        rw [List.take_add_one, hp]
        simp only [List.all_append, hall, Option.toList, List.all_cons, List.all_nil, Bool.true_and, Bool.and_true]
        exact hless
      · rename_i hless
        have hfi : fi r key = k := tw_len hk hall (.inr ⟨p, hp, hless⟩)
        have hft : ft r key = decide (p.1 = key) := by unfold ft; rw [hfi, hp]
        rw [hfi, hft]
        ((with_reducible refine draw_pl ttOk zOk foOk mixedOk pl64x4 ?_ ?_); (focus kernel_rfl); (conv => whnf))
        repeat' (first | ((with_reducible apply rd_intro); (focus (intro K hK; (conv => whnf); first | exact hK | (intro z hz; rw [wrapI (by omega)] at hz; subst hz; exact hK))); (conv => whnf)) | ((with_reducible apply gd_and); (focus ((conv => whnf); first | rfl | (intro K hK; (conv => whnf); first | exact hK | (intro z hz; rw [wrapI (by omega)] at hz; subst hz; exact hK)))); (conv => whnf)) | ((with_reducible apply z_wrap); (focus omega); (conv => whnf)) | ((with_reducible refine mt_dec (fun _ => ?_) (fun _ => ?_)) <;> (conv => whnf)) | ((with_reducible refine mt_eq (fun _ => ?_) (fun _ => ?_)) <;> (conv => whnf)) | ((with_reducible refine mt_ne (fun _ => ?_) (fun _ => ?_)) <;> (conv => whnf)) | ((with_reducible refine mt_not (fun _ => ?_) (fun _ => ?_)) <;> (conv => whnf)) | ((with_reducible refine mt_any (fun _ => ?_) (fun _ => ?_)) <;> (conv => whnf)))
        · ((with_reducible apply rd_intro); (focus (intro K hK; (conv => whnf); exact ⟨by omega, pc p, hpp, hK⟩)); (conv => whnf))
          repeat' (first | ((with_reducible apply rd_intro); (focus (intro K hK; (conv => whnf); first | exact hK | (intro z hz; rw [wrapI (by omega)] at hz; subst hz; exact hK))); (conv => whnf)) | ((with_reducible apply gd_and); (focus ((conv => whnf); first | rfl | (intro K hK; (conv => whnf); first | exact hK | (intro z hz; rw [wrapI (by omega)] at hz; subst hz; exact hK)))); (conv => whnf)) | ((with_reducible apply z_wrap); (focus omega); (conv => whnf)) | ((with_reducible refine mt_dec (fun _ => ?_) (fun _ => ?_)) <;> (conv => whnf)) | ((with_reducible refine mt_eq (fun _ => ?_) (fun _ => ?_)) <;> (conv => whnf)) | ((with_reducible refine mt_ne (fun _ => ?_) (fun _ => ?_)) <;> (conv => whnf)) | ((with_reducible refine mt_not (fun _ => ?_) (fun _ => ?_)) <;> (conv => whnf)) | ((with_reducible refine mt_any (fun _ => ?_) (fun _ => ?_)) <;> (conv => whnf)))
          rw [toList_beq]
          exact ⟨rfl, rfl⟩
        · rename_i h2; exact absurd h h2
    · rename_i h
      have hkl : k = r.length := by omega
      have hfi : fi r key = k := tw_len hk hall (.inl hkl)
      have hft : ft r key = false := by unfold ft; rw [hfi, hkl, List.getElem?_eq_none (Nat.le_refl _)]
      rw [hfi, hft]
      ((with_reducible refine draw_pl ttOk zOk foOk mixedOk pl64x4 ?_ ?_); (focus kernel_rfl); (conv => whnf))
      repeat' (first | ((with_reducible apply rd_intro); (focus (intro K hK; (conv => whnf); first | exact hK | (intro z hz; rw [wrapI (by omega)] at hz; subst hz; exact hK))); (conv => whnf)) | ((with_reducible apply gd_and); (focus ((conv => whnf); first | rfl | (intro K hK; (conv => whnf); first | exact hK | (intro z hz; rw [wrapI (by omega)] at hz; subst hz; exact hK)))); (conv => whnf)) | ((with_reducible apply z_wrap); (focus omega); (conv => whnf)) | ((with_reducible refine mt_dec (fun _ => ?_) (fun _ => ?_)) <;> (conv => whnf)) | ((with_reducible refine mt_eq (fun _ => ?_) (fun _ => ?_)) <;> (conv => whnf)) | ((with_reducible refine mt_ne (fun _ => ?_) (fun _ => ?_)) <;> (conv => whnf)) | ((with_reducible refine mt_not (fun _ => ?_) (fun _ => ?_)) <;> (conv => whnf)) | ((with_reducible refine mt_any (fun _ => ?_) (fun _ => ?_)) <;> (conv => whnf)))
      · rename_i h2; exact absurd h2 h
      · exact ⟨rfl, rfl⟩
end Go.Proofs.Ytpedbknmkgcldaa

namespace Go.Proofs.Ytpedbknmkgcldaa
open Go.Ab Go.RowKit Go.MapKept
attribute [local irreducible] ACalls AW ADraw Into
set_option maxRecDepth 100000
theorem copyPairs_row (xs : List (ByteArray × ByteArray)) (hm : xs.length ≤ 1000000) : ACalls Try.prog 101 [.d (.sl 2 (prs xs))] [] (fun av L => av = .arr 0 ∧ L = [.row 152 2 (prs xs) false]) := by
  have hpl : (prs xs).length = xs.length := List.length_map ..
  refine acalls_go ttOk zOk foOk Try.func101 rfl Try.ntmps101 rfl true rfl ?_
  conv => whnf
  refine loop_go ttOk zOk foOk (σ := Nat) (fun k => ([(0, .d (.sl 2 (prs xs))), (3, .arr 0), (4, .d (.int .i64 k))], [.row 152 2 (prs (xs.take k)) false])) (fun k => k ≤ xs.length) (fun k => xs.length - k) [0, 3, 4] ?_ ?_
  · conv => whnf
    exact ⟨0, rfl, rfl, by omega⟩
  · rintro k hk
    conv => whnf
    ((with_reducible refine mt_dec (fun _ => ?_) (fun _ => ?_)) <;> (conv => whnf))
    · rename_i h
      obtain ⟨p, hp⟩ : ∃ p, xs[k]? = some p := ⟨_, List.getElem?_eq_getElem (by omega)⟩
      have hpp : (prs xs)[((k : Nat) : Int).toNat]? = some (pc p) := by rw [Int.toNat_natCast, prs, List.getElem?_map, hp]; rfl
      refine ⟨by omega, pc p, hpp, ?_⟩
      conv => whnf
      repeat' (first | ((with_reducible apply z_wrap); (focus omega); (conv => whnf)) | ((with_reducible refine mt_dec (fun _ => ?_) (fun _ => ?_)) <;> (conv => whnf)) | ((with_reducible refine mt_eq (fun _ => ?_) (fun _ => ?_)) <;> (conv => whnf)) | ((with_reducible refine mt_ne (fun _ => ?_) (fun _ => ?_)) <;> (conv => whnf)) | ((with_reducible refine mt_not (fun _ => ?_) (fun _ => ?_)) <;> (conv => whnf)) | ((with_reducible refine mt_any (fun _ => ?_) (fun _ => ?_)) <;> (conv => whnf)))
      refine ⟨by simp [prs]; omega, ?_⟩
      conv => whnf
      repeat' (first | ((with_reducible apply z_wrap); (focus omega); (conv => whnf)) | ((with_reducible refine mt_dec (fun _ => ?_) (fun _ => ?_)) <;> (conv => whnf)) | ((with_reducible refine mt_eq (fun _ => ?_) (fun _ => ?_)) <;> (conv => whnf)) | ((with_reducible refine mt_ne (fun _ => ?_) (fun _ => ?_)) <;> (conv => whnf)) | ((with_reducible refine mt_not (fun _ => ?_) (fun _ => ?_)) <;> (conv => whnf)) | ((with_reducible refine mt_any (fun _ => ?_) (fun _ => ?_)) <;> (conv => whnf)))
      refine ⟨k + 1, rfl, ?_, by omega, by omega⟩
      rw [List.take_add_one, hp]
      simp [prs, pc]
    · rename_i h
      obtain rfl : k = xs.length := by omega
      exact ⟨by simp, by simp⟩
end Go.Proofs.Ytpedbknmkgcldaa

namespace Go.Proofs.Ytpedbknmkgcldaa
open Go.Ab Go.RowKit Go.MapKept
attribute [local irreducible] ACalls AW ADraw Into
set_option maxRecDepth 100000
theorem wrap_u64 (i : Int) : IntKind.u64.wrap i = i % 18446744073709551616 := by
  simp [IntKind.wrap, IntKind.signed, IntKind.bits]
theorem within_ok (i n : Int) (hn : 0 < n) (hn2 : n ≤ 1000000) (hi : -9223372036854775808 ≤ i ∧ i < 9223372036854775808) : ACalls Try.prog 28 [.d (.int .i64 i), .d (.int .i64 n)] [] (fun av L => av = .d (.int .i64 ((i % 18446744073709551616) % n)) ∧ L = []) := by
  refine acalls_go ttOk zOk foOk Try.func28 rfl Try.ntmps28 rfl false rfl ?_
  conv => whnf
  intro z hz
  rw [wrap_u64] at hz
  have h0 := Int.emod_nonneg i (show (18446744073709551616 : Int) ≠ 0 by decide)
  rw [← hz] at h0 ⊢
  clear hz
  conv => whnf
  intro m hm
  have hm' : m = n := by rw [hm, wrap_u64]; omega
  clear hm
  subst hm'
  conv => whnf
  refine ⟨by omega, ?_⟩
  intro r hr
  have hr' : r = z % m := by rw [hr, Int.tmod_eq_emod_of_nonneg h0]
  clear hr
  have h1 := Int.emod_nonneg z (show m ≠ 0 by omega)
  have h2 := Int.emod_lt_of_pos z hn
  rw [← hr'] at h1 h2 ⊢
  clear hr'
  conv => whnf
  intro q hq
  have hq' : q = r := by rw [hq, wrapI (by omega)]
  clear hq
  subst hq'
  conv => whnf
  exact ⟨rfl, rfl⟩
end Go.Proofs.Ytpedbknmkgcldaa

namespace Go.Proofs.Ytpedbknmkgcldaa
open Go.Ab Go.RowKit Go.MapKept
attribute [local irreducible] ACalls AW ADraw Into
set_option maxRecDepth 100000
def Act11.av (a : Act11) : AV := .agg [.d (.int .i64 a.act), .d (.str a.key), .d (.str a.val), .d (.sl 1 (nums a.picks))]
def Act11.w (a : Act11) : Int := (a.act % 18446744073709551616) % 8
def nextP (r : List (ByteArray × ByteArray)) (a : Act11) : List (ByteArray × ByteArray) × Int :=
  if a.w = 4 then (if goodK a.key = false then (r, 1) else if ft r a.key = false then (r, 3) else (r.take (fi r a.key) ++ r.drop (fi r a.key + 1), 0))
  else if a.w = 5 ∨ a.w = 6 ∨ a.w = 7 then (r, 0)
  else if badK a.key a.val = true then (r, 1) else (r.take (fi r a.key) ++ [(a.key, a.val)] ++ r.drop (if ft r a.key = true then fi r a.key + 1 else fi r a.key), 0)
theorem fi_le (r : List (ByteArray × ByteArray)) (key : ByteArray) : fi r key ≤ r.length := by
  unfold fi
  exact (List.takeWhile_sublist _).length_le
theorem ft_lt {r : List (ByteArray × ByteArray)} {key : ByteArray} (h : ft r key = true) : fi r key < r.length := by
  unfold ft at h
  split at h
  · rename_i p hp; exact (List.getElem?_eq_some_iff.1 hp).1
  · cases h
theorem prs_cut (r : List (ByteArray × ByteArray)) (hi lo : Nat) : ((prs r).take hi).drop lo = prs ((r.take hi).drop lo) := by simp [prs]
theorem prs_app (a b : List (ByteArray × ByteArray)) : prs a ++ prs b = prs (a ++ b) := by simp [prs]
theorem gk_empty {k : ByteArray} (h : (k.toList == (⟨#[]⟩ : ByteArray).toList) = true) : goodK k = false := by
  rw [ba_empty] at h
  have : k.size = 0 := by simpa using h
  simp [goodK, this]
theorem gk_good {k : ByteArray} (h : (k.toList == (⟨#[]⟩ : ByteArray).toList) = false) (h2 : ¬ (k.size : Int) > 32) : goodK k = true := by
  rw [ba_empty] at h
  have : ¬ k.size = 0 := by simpa using h
  simp [goodK]; omega
set_option maxHeartbeats 8000000 in
theorem nextP_ok (r : List (ByteArray × ByteArray)) (a : Act11) (ha : a.ok) (hk : a.key.size ≤ 40000) (hv : a.val.size ≤ 40000) (hr : r.length ≤ 100000) : ACalls Try.prog 62 [.d (.sl 2 (prs r)), a.av] [] (fun av L => av = .tup [.d (.sl 2 (prs (nextP r a).1)), .d (.int .i64 (nextP r a).2)] ∧ L = []) := by
  have hpl : (prs r).length = r.length := List.length_map ..
  have hfi := fi_le r a.key
  obtain ⟨i, hi⟩ : ∃ i, fi r a.key = i := ⟨_, rfl⟩
  obtain ⟨t, ht⟩ : ∃ t, ft r a.key = t := ⟨_, rfl⟩
  have hlt : t = true → i < r.length := fun h => by rw [← hi]; exact ft_lt (by rw [ht]; exact h)
  rw [hi] at hfi
  refine acalls_go ttOk zOk foOk Try.func62 rfl Try.ntmps62 rfl false rfl ?_
  conv => whnf
  refine (find_ok r a.key (by omega)).mono ?_
  rintro _ _ ⟨rfl, rfl⟩
  rw [hi, ht]
  conv => whnf
  repeat' (first | ((with_reducible apply rd_intro); (focus (intro K hK; (conv => whnf); first | exact hK | (intro z hz; rw [wrapI (by omega)] at hz; subst hz; exact hK))); (conv => whnf)) | ((with_reducible apply gd_and); (focus ((conv => whnf); first | rfl | (intro K hK; (conv => whnf); first | exact hK | (intro z hz; rw [wrapI (by omega)] at hz; subst hz; exact hK)))); (conv => whnf)) | ((with_reducible apply z_wrap); (focus omega); (conv => whnf)) | ((with_reducible refine mt_dec (fun _ => ?_) (fun _ => ?_)) <;> (conv => whnf)) | ((with_reducible refine mt_eq (fun _ => ?_) (fun _ => ?_)) <;> (conv => whnf)) | ((with_reducible refine mt_ne (fun _ => ?_) (fun _ => ?_)) <;> (conv => whnf)) | ((with_reducible refine mt_not (fun _ => ?_) (fun _ => ?_)) <;> (conv => whnf)) | ((with_reducible refine mt_any (fun _ => ?_) (fun _ => ?_)) <;> (conv => whnf)))
  refine (within_ok a.act 8 (by decide) (by decide) ha.act).mono ?_
  rintro _ _ ⟨rfl, rfl⟩
  conv => whnf
  rw [show (a.act % 18446744073709551616) % 8 = a.w from rfl]
  repeat' (first | ((with_reducible apply rd_intro); (focus (intro K hK; (conv => whnf); first | exact hK | (intro z hz; rw [wrapI (by omega)] at hz; subst hz; exact hK))); (conv => whnf)) | ((with_reducible apply gd_and); (focus ((conv => whnf); first | rfl | (intro K hK; (conv => whnf); first | exact hK | (intro z hz; rw [wrapI (by omega)] at hz; subst hz; exact hK)))); (conv => whnf)) | ((with_reducible apply z_wrap); (focus omega); (conv => whnf)) | ((with_reducible refine mt_dec (fun _ => ?_) (fun _ => ?_)) <;> (conv => whnf)) | ((with_reducible refine mt_eq (fun _ => ?_) (fun _ => ?_)) <;> (conv => whnf)) | ((with_reducible refine mt_ne (fun _ => ?_) (fun _ => ?_)) <;> (conv => whnf)) | ((with_reducible refine mt_not (fun _ => ?_) (fun _ => ?_)) <;> (conv => whnf)) | ((with_reducible refine mt_any (fun _ => ?_) (fun _ => ?_)) <;> (conv => whnf)))
  · rename_i h4 h0
    have hg := gk_empty h0
    rw [show nextP r a = (r, 1) by simp only [nextP, if_pos h4, if_pos hg]]
    exact ⟨rfl, rfl⟩
  · rename_i h4 h0 h32
    have hg : goodK a.key = false := by simp [goodK]; omega
    rw [show nextP r a = (r, 1) by simp only [nextP, if_pos h4, if_pos hg]]
    exact ⟨rfl, rfl⟩
  · rename_i h4 h0 h32 htf
    have hg := gk_good h0 h32
    rw [show nextP r a = (r, 3) by simp only [nextP, if_pos h4, hg, ht, htf]; rfl]
    exact ⟨rfl, rfl⟩
  · rename_i h4 h0 h32 htt
    have hg := gk_good h0 h32
    have hil := hlt htt
    rw [show nextP r a = (r.take i ++ r.drop (i + 1), 0) by simp only [nextP, if_pos h4, hg, ht, htt, hi]; rfl]
    refine ⟨by decide, by omega, by omega, ?_⟩
    rw [show ((prs r).take ((i : Nat) : Int).toNat).drop (Int.toNat 0) = prs (r.take i) by rw [Int.toNat_natCast]; show ((prs r).take i).drop 0 = _; rw [prs_cut, List.drop_zero]]
    conv => whnf
    repeat' (first | ((with_reducible apply rd_intro); (focus (intro K hK; (conv => whnf); first | exact hK | (intro z hz; rw [wrapI (by omega)] at hz; subst hz; exact hK))); (conv => whnf)) | ((with_reducible apply gd_and); (focus ((conv => whnf); first | rfl | (intro K hK; (conv => whnf); first | exact hK | (intro z hz; rw [wrapI (by omega)] at hz; subst hz; exact hK)))); (conv => whnf)) | ((with_reducible apply z_wrap); (focus omega); (conv => whnf)) | ((with_reducible refine mt_dec (fun _ => ?_) (fun _ => ?_)) <;> (conv => whnf)) | ((with_reducible refine mt_eq (fun _ => ?_) (fun _ => ?_)) <;> (conv => whnf)) | ((with_reducible refine mt_ne (fun _ => ?_) (fun _ => ?_)) <;> (conv => whnf)) | ((with_reducible refine mt_not (fun _ => ?_) (fun _ => ?_)) <;> (conv => whnf)) | ((with_reducible refine mt_any (fun _ => ?_) (fun _ => ?_)) <;> (conv => whnf)))
    refine (copyPairs_row (r.take i) (by rw [List.length_take]; omega)).mono ?_
    rintro _ _ ⟨rfl, rfl⟩
    conv => whnf
    repeat' (first | ((with_reducible apply rd_intro); (focus (intro K hK; (conv => whnf); first | exact hK | (intro z hz; rw [wrapI (by omega)] at hz; subst hz; exact hK))); (conv => whnf)) | ((with_reducible apply gd_and); (focus ((conv => whnf); first | rfl | (intro K hK; (conv => whnf); first | exact hK | (intro z hz; rw [wrapI (by omega)] at hz; subst hz; exact hK)))); (conv => whnf)) | ((with_reducible apply z_wrap); (focus omega); (conv => whnf)) | ((with_reducible refine mt_dec (fun _ => ?_) (fun _ => ?_)) <;> (conv => whnf)) | ((with_reducible refine mt_eq (fun _ => ?_) (fun _ => ?_)) <;> (conv => whnf)) | ((with_reducible refine mt_ne (fun _ => ?_) (fun _ => ?_)) <;> (conv => whnf)) | ((with_reducible refine mt_not (fun _ => ?_) (fun _ => ?_)) <;> (conv => whnf)) | ((with_reducible refine mt_any (fun _ => ?_) (fun _ => ?_)) <;> (conv => whnf)))
    refine ⟨by omega, by omega, by omega, ?_⟩
    rw [show ((prs r).take (((prs r).length : Nat) : Int).toNat).drop ((i : Int) + 1).toNat = prs (r.drop (i + 1)) by rw [Int.toNat_natCast, show ((i : Int) + 1).toNat = i + 1 by omega, prs_cut, hpl, List.take_length]]
    conv => whnf
    repeat' (first | ((with_reducible apply rd_intro); (focus (intro K hK; (conv => whnf); first | exact hK | (intro z hz; rw [wrapI (by omega)] at hz; subst hz; exact hK))); (conv => whnf)) | ((with_reducible apply gd_and); (focus ((conv => whnf); first | rfl | (intro K hK; (conv => whnf); first | exact hK | (intro z hz; rw [wrapI (by omega)] at hz; subst hz; exact hK)))); (conv => whnf)) | ((with_reducible apply z_wrap); (focus omega); (conv => whnf)) | ((with_reducible refine mt_dec (fun _ => ?_) (fun _ => ?_)) <;> (conv => whnf)) | ((with_reducible refine mt_eq (fun _ => ?_) (fun _ => ?_)) <;> (conv => whnf)) | ((with_reducible refine mt_ne (fun _ => ?_) (fun _ => ?_)) <;> (conv => whnf)) | ((with_reducible refine mt_not (fun _ => ?_) (fun _ => ?_)) <;> (conv => whnf)) | ((with_reducible refine mt_any (fun _ => ?_) (fun _ => ?_)) <;> (conv => whnf)))
    refine ⟨by simp [prs]; (show _ * 32 ≤ _); omega, ?_⟩
    conv => whnf
    repeat' (first | ((with_reducible apply rd_intro); (focus (intro K hK; (conv => whnf); first | exact hK | (intro z hz; rw [wrapI (by omega)] at hz; subst hz; exact hK))); (conv => whnf)) | ((with_reducible apply gd_and); (focus ((conv => whnf); first | rfl | (intro K hK; (conv => whnf); first | exact hK | (intro z hz; rw [wrapI (by omega)] at hz; subst hz; exact hK)))); (conv => whnf)) | ((with_reducible apply z_wrap); (focus omega); (conv => whnf)) | ((with_reducible refine mt_dec (fun _ => ?_) (fun _ => ?_)) <;> (conv => whnf)) | ((with_reducible refine mt_eq (fun _ => ?_) (fun _ => ?_)) <;> (conv => whnf)) | ((with_reducible refine mt_ne (fun _ => ?_) (fun _ => ?_)) <;> (conv => whnf)) | ((with_reducible refine mt_not (fun _ => ?_) (fun _ => ?_)) <;> (conv => whnf)) | ((with_reducible refine mt_any (fun _ => ?_) (fun _ => ?_)) <;> (conv => whnf)))
    rw [prs_app]
    exact ⟨rfl, rfl⟩
  · rename_i h4 h5
    rw [show nextP r a = (r, 0) by simp only [nextP, if_neg h4, if_pos (Or.inl h5 : a.w = 5 ∨ a.w = 6 ∨ a.w = 7)]]
    exact ⟨rfl, rfl⟩
  · rename_i h4 h5 h6
    rw [show nextP r a = (r, 0) by simp only [nextP, if_neg h4, if_pos (Or.inr (Or.inl h6) : a.w = 5 ∨ a.w = 6 ∨ a.w = 7)]]
    exact ⟨rfl, rfl⟩
  · rename_i h4 h5 h6 h7
    rw [show nextP r a = (r, 0) by simp only [nextP, if_neg h4, if_pos (Or.inr (Or.inr h7) : a.w = 5 ∨ a.w = 6 ∨ a.w = 7)]]
    exact ⟨rfl, rfl⟩
  · rename_i h4 h5 h6 h7 h0
    have hn : ¬ (a.w = 5 ∨ a.w = 6 ∨ a.w = 7) := by rintro (h | h | h); exact h5 h; exact h6 h; exact h7 h
    have hg := gk_empty h0
    rw [show nextP r a = (r, 1) by simp only [nextP, if_neg h4, if_neg hn, if_pos (show badK a.key a.val = true by simp [badK, hg])]]
    exact ⟨rfl, rfl⟩
  · rename_i h4 h5 h6 h7 h0 h32
    have hn : ¬ (a.w = 5 ∨ a.w = 6 ∨ a.w = 7) := by rintro (h | h | h); exact h5 h; exact h6 h; exact h7 h
    have hg : goodK a.key = false := by simp [goodK]; omega
    rw [show nextP r a = (r, 1) by simp only [nextP, if_neg h4, if_neg hn, if_pos (show badK a.key a.val = true by simp [badK, hg])]]
    exact ⟨rfl, rfl⟩
  · rename_i h4 h5 h6 h7 h0 h32 hvl
    have hn : ¬ (a.w = 5 ∨ a.w = 6 ∨ a.w = 7) := by rintro (h | h | h); exact h5 h; exact h6 h; exact h7 h
    rw [show nextP r a = (r, 1) by simp only [nextP, if_neg h4, if_neg hn, if_pos (show badK a.key a.val = true by simp [badK]; right; omega)]]
    exact ⟨rfl, rfl⟩
  · rename_i h4 h5 h6 h7 h0 h32 hvl
    have hn : ¬ (a.w = 5 ∨ a.w = 6 ∨ a.w = 7) := by rintro (h | h | h); exact h5 h; exact h6 h; exact h7 h
    have hg := gk_good h0 h32
    have hb : badK a.key a.val = false := by simp [badK, hg]; omega
    rw [show nextP r a = (r.take i ++ [(a.key, a.val)] ++ r.drop (if t = true then i + 1 else i), 0) by simp only [nextP, if_neg h4, if_neg hn, if_neg (show ¬ badK a.key a.val = true by rw [hb]; decide), hi, ht]]
    have cut : ((prs r).take ((i : Nat) : Int).toNat).drop (Int.toNat 0) = prs (r.take i) := by rw [Int.toNat_natCast]; show ((prs r).take i).drop 0 = _; rw [prs_cut, List.drop_zero]
    have hti : (prs (r.take i)).length = i := by simp [prs]; omega
    ((with_reducible refine draw_pl ttOk zOk foOk mixedOk pl62x16 ?_ ?_); (focus kernel_rfl); (conv => whnf))
    repeat' (first | ((with_reducible apply rd_intro); (focus (intro K hK; (conv => whnf); first | exact hK | (intro z hz; rw [wrapI (by omega)] at hz; subst hz; exact hK))); (conv => whnf)) | ((with_reducible apply gd_and); (focus ((conv => whnf); first | rfl | (intro K hK; (conv => whnf); first | exact hK | (intro z hz; rw [wrapI (by omega)] at hz; subst hz; exact hK)))); (conv => whnf)) | ((with_reducible apply z_wrap); (focus omega); (conv => whnf)) | ((with_reducible refine mt_dec (fun _ => ?_) (fun _ => ?_)) <;> (conv => whnf)) | ((with_reducible refine mt_eq (fun _ => ?_) (fun _ => ?_)) <;> (conv => whnf)) | ((with_reducible refine mt_ne (fun _ => ?_) (fun _ => ?_)) <;> (conv => whnf)) | ((with_reducible refine mt_not (fun _ => ?_) (fun _ => ?_)) <;> (conv => whnf)) | ((with_reducible refine mt_any (fun _ => ?_) (fun _ => ?_)) <;> (conv => whnf)))
    ((with_reducible apply rd_intro); (focus (intro K hK; (conv => whnf); refine ⟨by decide, by omega, by omega, ?_⟩; rw [cut]; exact hK)); (conv => whnf))
    repeat' (first | ((with_reducible apply rd_intro); (focus (intro K hK; (conv => whnf); first | exact hK | (intro z hz; rw [wrapI (by omega)] at hz; subst hz; exact hK))); (conv => whnf)) | ((with_reducible apply gd_and); (focus ((conv => whnf); first | rfl | (intro K hK; (conv => whnf); first | exact hK | (intro z hz; rw [wrapI (by omega)] at hz; subst hz; exact hK)))); (conv => whnf)) | ((with_reducible apply z_wrap); (focus omega); (conv => whnf)) | ((with_reducible refine mt_dec (fun _ => ?_) (fun _ => ?_)) <;> (conv => whnf)) | ((with_reducible refine mt_eq (fun _ => ?_) (fun _ => ?_)) <;> (conv => whnf)) | ((with_reducible refine mt_ne (fun _ => ?_) (fun _ => ?_)) <;> (conv => whnf)) | ((with_reducible refine mt_not (fun _ => ?_) (fun _ => ?_)) <;> (conv => whnf)) | ((with_reducible refine mt_any (fun _ => ?_) (fun _ => ?_)) <;> (conv => whnf)))
    refine (copyPairs_row (r.take i) (by rw [List.length_take]; omega)).mono ?_
    rintro _ _ ⟨rfl, rfl⟩
    conv => whnf
    repeat' (first | ((with_reducible apply rd_intro); (focus (intro K hK; (conv => whnf); first | exact hK | (intro z hz; rw [wrapI (by omega)] at hz; subst hz; exact hK))); (conv => whnf)) | ((with_reducible apply gd_and); (focus ((conv => whnf); first | rfl | (intro K hK; (conv => whnf); first | exact hK | (intro z hz; rw [wrapI (by omega)] at hz; subst hz; exact hK)))); (conv => whnf)) | ((with_reducible apply z_wrap); (focus omega); (conv => whnf)) | ((with_reducible refine mt_dec (fun _ => ?_) (fun _ => ?_)) <;> (conv => whnf)) | ((with_reducible refine mt_eq (fun _ => ?_) (fun _ => ?_)) <;> (conv => whnf)) | ((with_reducible refine mt_ne (fun _ => ?_) (fun _ => ?_)) <;> (conv => whnf)) | ((with_reducible refine mt_not (fun _ => ?_) (fun _ => ?_)) <;> (conv => whnf)) | ((with_reducible refine mt_any (fun _ => ?_) (fun _ => ?_)) <;> (conv => whnf)))
    refine ⟨by rw [hti]; (show (i + 1) * 32 ≤ _); omega, ?_⟩
    conv => whnf
    repeat' (first | ((with_reducible apply rd_intro); (focus (intro K hK; (conv => whnf); first | exact hK | (intro z hz; rw [wrapI (by omega)] at hz; subst hz; exact hK))); (conv => whnf)) | ((with_reducible apply gd_and); (focus ((conv => whnf); first | rfl | (intro K hK; (conv => whnf); first | exact hK | (intro z hz; rw [wrapI (by omega)] at hz; subst hz; exact hK)))); (conv => whnf)) | ((with_reducible apply z_wrap); (focus omega); (conv => whnf)) | ((with_reducible refine mt_dec (fun _ => ?_) (fun _ => ?_)) <;> (conv => whnf)) | ((with_reducible refine mt_eq (fun _ => ?_) (fun _ => ?_)) <;> (conv => whnf)) | ((with_reducible refine mt_ne (fun _ => ?_) (fun _ => ?_)) <;> (conv => whnf)) | ((with_reducible refine mt_not (fun _ => ?_) (fun _ => ?_)) <;> (conv => whnf)) | ((with_reducible refine mt_any (fun _ => ?_) (fun _ => ?_)) <;> (conv => whnf)))
    · rename_i htt
      have hil := hlt htt
      rw [if_pos htt]
      refine ⟨by omega, by omega, by omega, ?_⟩
      rw [show ((prs r).take (((prs r).length : Nat) : Int).toNat).drop ((i : Int) + 1).toNat = prs (r.drop (i + 1)) by rw [Int.toNat_natCast, show ((i : Int) + 1).toNat = i + 1 by omega, prs_cut, hpl, List.take_length]]
      conv => whnf
      repeat' (first | ((with_reducible apply rd_intro); (focus (intro K hK; (conv => whnf); first | exact hK | (intro z hz; rw [wrapI (by omega)] at hz; subst hz; exact hK))); (conv => whnf)) | ((with_reducible apply gd_and); (focus ((conv => whnf); first | rfl | (intro K hK; (conv => whnf); first | exact hK | (intro z hz; rw [wrapI (by omega)] at hz; subst hz; exact hK)))); (conv => whnf)) | ((with_reducible apply z_wrap); (focus omega); (conv => whnf)) | ((with_reducible refine mt_dec (fun _ => ?_) (fun _ => ?_)) <;> (conv => whnf)) | ((with_reducible refine mt_eq (fun _ => ?_) (fun _ => ?_)) <;> (conv => whnf)) | ((with_reducible refine mt_ne (fun _ => ?_) (fun _ => ?_)) <;> (conv => whnf)) | ((with_reducible refine mt_not (fun _ => ?_) (fun _ => ?_)) <;> (conv => whnf)) | ((with_reducible refine mt_any (fun _ => ?_) (fun _ => ?_)) <;> (conv => whnf)))
      refine ⟨by simp [prs]; (show _ * 32 ≤ _); omega, ?_⟩
      conv => whnf
      repeat' (first | ((with_reducible apply rd_intro); (focus (intro K hK; (conv => whnf); first | exact hK | (intro z hz; rw [wrapI (by omega)] at hz; subst hz; exact hK))); (conv => whnf)) | ((with_reducible apply gd_and); (focus ((conv => whnf); first | rfl | (intro K hK; (conv => whnf); first | exact hK | (intro z hz; rw [wrapI (by omega)] at hz; subst hz; exact hK)))); (conv => whnf)) | ((with_reducible apply z_wrap); (focus omega); (conv => whnf)) | ((with_reducible refine mt_dec (fun _ => ?_) (fun _ => ?_)) <;> (conv => whnf)) | ((with_reducible refine mt_eq (fun _ => ?_) (fun _ => ?_)) <;> (conv => whnf)) | ((with_reducible refine mt_ne (fun _ => ?_) (fun _ => ?_)) <;> (conv => whnf)) | ((with_reducible refine mt_not (fun _ => ?_) (fun _ => ?_)) <;> (conv => whnf)) | ((with_reducible refine mt_any (fun _ => ?_) (fun _ => ?_)) <;> (conv => whnf)))
      refine ⟨?_, rfl⟩
      rw [← prs_app, ← prs_app]
      rfl
    · rename_i htt
      rw [if_neg (by rw [htt]; decide)]
      refine ⟨by omega, by omega, by omega, ?_⟩
      rw [show ((prs r).take (((prs r).length : Nat) : Int).toNat).drop ((i : Int)).toNat = prs (r.drop i) by rw [Int.toNat_natCast, Int.toNat_natCast, prs_cut, hpl, List.take_length]]
      conv => whnf
      repeat' (first | ((with_reducible apply rd_intro); (focus (intro K hK; (conv => whnf); first | exact hK | (intro z hz; rw [wrapI (by omega)] at hz; subst hz; exact hK))); (conv => whnf)) | ((with_reducible apply gd_and); (focus ((conv => whnf); first | rfl | (intro K hK; (conv => whnf); first | exact hK | (intro z hz; rw [wrapI (by omega)] at hz; subst hz; exact hK)))); (conv => whnf)) | ((with_reducible apply z_wrap); (focus omega); (conv => whnf)) | ((with_reducible refine mt_dec (fun _ => ?_) (fun _ => ?_)) <;> (conv => whnf)) | ((with_reducible refine mt_eq (fun _ => ?_) (fun _ => ?_)) <;> (conv => whnf)) | ((with_reducible refine mt_ne (fun _ => ?_) (fun _ => ?_)) <;> (conv => whnf)) | ((with_reducible refine mt_not (fun _ => ?_) (fun _ => ?_)) <;> (conv => whnf)) | ((with_reducible refine mt_any (fun _ => ?_) (fun _ => ?_)) <;> (conv => whnf)))
      refine ⟨by simp [prs]; (show _ * 32 ≤ _); omega, ?_⟩
      conv => whnf
      repeat' (first | ((with_reducible apply rd_intro); (focus (intro K hK; (conv => whnf); first | exact hK | (intro z hz; rw [wrapI (by omega)] at hz; subst hz; exact hK))); (conv => whnf)) | ((with_reducible apply gd_and); (focus ((conv => whnf); first | rfl | (intro K hK; (conv => whnf); first | exact hK | (intro z hz; rw [wrapI (by omega)] at hz; subst hz; exact hK)))); (conv => whnf)) | ((with_reducible apply z_wrap); (focus omega); (conv => whnf)) | ((with_reducible refine mt_dec (fun _ => ?_) (fun _ => ?_)) <;> (conv => whnf)) | ((with_reducible refine mt_eq (fun _ => ?_) (fun _ => ?_)) <;> (conv => whnf)) | ((with_reducible refine mt_ne (fun _ => ?_) (fun _ => ?_)) <;> (conv => whnf)) | ((with_reducible refine mt_not (fun _ => ?_) (fun _ => ?_)) <;> (conv => whnf)) | ((with_reducible refine mt_any (fun _ => ?_) (fun _ => ?_)) <;> (conv => whnf)))
      refine ⟨?_, rfl⟩
      rw [← prs_app, ← prs_app]
      rfl
end Go.Proofs.Ytpedbknmkgcldaa

namespace Go.Proofs.Ytpedbknmkgcldaa
open Go.Ab Go.RowKit Go.MapKept
attribute [local irreducible] ACalls AW ADraw Into
set_option maxRecDepth 100000
theorem spoil_ok (xs : List ByteArray) (hm : xs.length ≤ 8000000000) : ACalls Try.prog 50 [.arr 0] [.row 9 1 (strs xs) false] (fun av L => av = .tup [] ∧ L = [.dead]) := by
  refine acalls_go ttOk zOk foOk Try.func50 rfl Try.ntmps50 rfl true rfl ?_
  conv => whnf
  refine loop_go2 ttOk zOk foOk (σ := Nat) (ρ := List ByteArray) (fun k ys => ([(0, .arr 0), (2, .d (.int .i64 k))], [.row 9 1 (strs ys) false])) (fun k ys => k ≤ xs.length ∧ ys.length = xs.length) (fun k _ => xs.length - k) [0, 2] ?_ ?_
  · conv => whnf
    exact ⟨0, xs, rfl, rfl, by omega, rfl⟩
  · rintro k ys ⟨hk, hl⟩
    have hll : (strs ys).length = ys.length := by simp [strs]
    conv => whnf
    repeat' (first | ((with_reducible apply z_wrap); (focus omega); (conv => whnf)) | ((with_reducible refine mt_dec (fun _ => ?_) (fun _ => ?_)) <;> (conv => whnf)) | ((with_reducible refine mt_eq (fun _ => ?_) (fun _ => ?_)) <;> (conv => whnf)) | ((with_reducible refine mt_ne (fun _ => ?_) (fun _ => ?_)) <;> (conv => whnf)) | ((with_reducible refine mt_not (fun _ => ?_) (fun _ => ?_)) <;> (conv => whnf)) | ((with_reducible refine mt_any (fun _ => ?_) (fun _ => ?_)) <;> (conv => whnf)))
    · rename_i h
      refine ⟨by omega, by rw [hll]; show k < _; omega, ?_⟩
      conv => whnf
      obtain ⟨y, hy⟩ : ∃ y, ys[k]? = some y := ⟨_, List.getElem?_eq_getElem (by omega)⟩
      refine ⟨[.str y], by rw [Int.toNat_natCast, strs, List.getElem?_map, hy]; rfl, ?_⟩
      conv => whnf
      repeat' (first | ((with_reducible apply z_wrap); (focus omega); (conv => whnf)) | ((with_reducible refine mt_dec (fun _ => ?_) (fun _ => ?_)) <;> (conv => whnf)) | ((with_reducible refine mt_eq (fun _ => ?_) (fun _ => ?_)) <;> (conv => whnf)) | ((with_reducible refine mt_ne (fun _ => ?_) (fun _ => ?_)) <;> (conv => whnf)) | ((with_reducible refine mt_not (fun _ => ?_) (fun _ => ?_)) <;> (conv => whnf)) | ((with_reducible refine mt_any (fun _ => ?_) (fun _ => ?_)) <;> (conv => whnf)))
      refine ⟨k + 1, ys.set k ⟨#[115, 112, 111, 105, 108, 116]⟩, rfl, ?_, ⟨by omega, by simpa using hl⟩, by omega⟩
      simp [strs, List.map_set]
    · rename_i h
      refine ⟨by simp [strs]; omega, ?_⟩
      conv => whnf
      exact ⟨rfl, rfl⟩
end Go.Proofs.Ytpedbknmkgcldaa

namespace Go.Proofs.Ytpedbknmkgcldaa
open Go.Ab Go.RowKit Go.MapKept
attribute [local irreducible] ACalls AW ADraw Into
set_option maxRecDepth 100000
theorem rising_unique : ∀ {a b : List ByteArray}, a.Perm b → risingS a → risingS b → a = b
  | [], b, h, _, _ => by simpa using h.symm
  | x :: r, [], h, _, _ => by simp at h
  | x :: r, y :: s, h, ha, hb => by
    have ha' := List.pairwise_cons.1 ha
    have hb' := List.pairwise_cons.1 hb
    by_cases e : x = y
    · subst e
      rw [rising_unique (h.cons_inv) ha'.2 hb'.2]
    · exfalso
      have h1 : x ∈ y :: s := h.subset (by simp)
      have h2 : y ∈ x :: r := h.symm.subset (by simp)
      have h3 : x ∈ s := (List.mem_cons.1 h1).resolve_left e
      have h4 : y ∈ r := (List.mem_cons.1 h2).resolve_left (fun e2 => e e2.symm)
      have := lessS_trans (ha'.1 y h4) (hb'.1 x h3)
      rw [lessS_irr] at this
      cases this
theorem getP_mem {k v : ByteArray} : ∀ {ps : List (ByteArray × ByteArray)}, (ps.map (·.1)).Nodup → (k, v) ∈ ps → getP k ps = some v
  | [], _, h => by cases h
  | p :: r, hn, h => by
    simp only [List.map_cons, List.nodup_cons] at hn
    simp only [getP]
    rcases List.mem_cons.1 h with e | h
    · rw [← e]; simp
    · rw [if_neg (fun e => hn.1 (by rw [← e]; exact List.mem_map.2 ⟨(k, v), h, rfl⟩))]
      exact getP_mem hn.2 h
set_option maxHeartbeats 8000000 in
theorem same_ok (l : Lg) (ps : List (ByteArray × ByteArray)) (hn : (ps.map (·.1)).Nodup) (hl : ps.length ≤ 100000) (hs : ∀ p ∈ ps, p.1.size ≤ 1000000) (r : List (ByteArray × ByteArray)) (hp : r.Perm ps) (hr : risingS (r.map (·.1))) :
    ACalls Try.prog 65 [.ptr 0 0, .d (.sl 2 (prs r))] (Kc l ps false) (fun av L => av = .d (.bool true) ∧ L = Kc l ps false) := by
  have hpl : (prs r).length = r.length := List.length_map ..
  have hrl : r.length = ps.length := hp.length_eq
  refine acalls_go ttOk zOk foOk Try.func65 rfl Try.ntmps65 rfl true rfl ?_
  conv => whnf
  repeat' (first | ((with_reducible apply rd_intro); (focus (intro K hK; (conv => whnf); first | exact hK | (intro z hz; rw [wrapI (by omega)] at hz; subst hz; exact hK))); (conv => whnf)) | ((with_reducible apply gd_and); (focus ((conv => whnf); first | rfl | (intro K hK; (conv => whnf); first | exact hK | (intro z hz; rw [wrapI (by omega)] at hz; subst hz; exact hK)))); (conv => whnf)) | ((with_reducible apply z_wrap); (focus omega); (conv => whnf)) | ((with_reducible refine mt_dec (fun _ => ?_) (fun _ => ?_)) <;> (conv => whnf)) | ((with_reducible refine mt_eq (fun _ => ?_) (fun _ => ?_)) <;> (conv => whnf)) | ((with_reducible refine mt_ne (fun _ => ?_) (fun _ => ?_)) <;> (conv => whnf)) | ((with_reducible refine mt_not (fun _ => ?_) (fun _ => ?_)) <;> (conv => whnf)) | ((with_reducible refine mt_any (fun _ => ?_) (fun _ => ?_)) <;> (conv => whnf)))
  refine (keysC l ps false hn (by omega) hs).mono ?_
  rintro _ _ ⟨rfl, ss, hss, hrs, rfl⟩
  obtain rfl : ss = r.map (·.1) := rising_unique (hss.trans (hp.map _).symm) hrs hr
  have hsl : (strs (r.map (·.1))).length = r.length := by simp [strs]
  conv => whnf
  repeat' (first | ((with_reducible apply rd_intro); (focus (intro K hK; (conv => whnf); first | exact hK | (intro z hz; rw [wrapI (by omega)] at hz; subst hz; exact hK))); (conv => whnf)) | ((with_reducible apply gd_and); (focus ((conv => whnf); first | rfl | (intro K hK; (conv => whnf); first | exact hK | (intro z hz; rw [wrapI (by omega)] at hz; subst hz; exact hK)))); (conv => whnf)) | ((with_reducible apply z_wrap); (focus omega); (conv => whnf)) | ((with_reducible refine mt_dec (fun _ => ?_) (fun _ => ?_)) <;> (conv => whnf)) | ((with_reducible refine mt_eq (fun _ => ?_) (fun _ => ?_)) <;> (conv => whnf)) | ((with_reducible refine mt_ne (fun _ => ?_) (fun _ => ?_)) <;> (conv => whnf)) | ((with_reducible refine mt_not (fun _ => ?_) (fun _ => ?_)) <;> (conv => whnf)) | ((with_reducible refine mt_any (fun _ => ?_) (fun _ => ?_)) <;> (conv => whnf)))
  · rename_i h; exfalso; apply h; rw [hsl, hpl]
  refine loop_go ttOk zOk foOk (σ := Nat) (fun k => ([(0, .ptr 0 0), (1, .d (.sl 2 (prs r))), (5, .arr 6), (6, .d (.int .i64 k))], Kc l ps false ++ [.row 9 1 (strs (r.map (·.1))) false])) (fun k => k ≤ r.length) (fun k => r.length - k) [0, 1, 5, 6] ?_ ?_
  · conv => whnf
    exact ⟨0, rfl, rfl, Nat.zero_le _⟩
  · intro k hk
    conv => whnf
    repeat' (first | ((with_reducible apply rd_intro); (focus (intro K hK; (conv => whnf); first | exact hK | (intro z hz; rw [wrapI (by omega)] at hz; subst hz; exact hK))); (conv => whnf)) | ((with_reducible apply gd_and); (focus ((conv => whnf); first | rfl | (intro K hK; (conv => whnf); first | exact hK | (intro z hz; rw [wrapI (by omega)] at hz; subst hz; exact hK)))); (conv => whnf)) | ((with_reducible apply z_wrap); (focus omega); (conv => whnf)) | ((with_reducible refine mt_dec (fun _ => ?_) (fun _ => ?_)) <;> (conv => whnf)) | ((with_reducible refine mt_eq (fun _ => ?_) (fun _ => ?_)) <;> (conv => whnf)) | ((with_reducible refine mt_ne (fun _ => ?_) (fun _ => ?_)) <;> (conv => whnf)) | ((with_reducible refine mt_not (fun _ => ?_) (fun _ => ?_)) <;> (conv => whnf)) | ((with_reducible refine mt_any (fun _ => ?_) (fun _ => ?_)) <;> (conv => whnf)))
    · rename_i h
      obtain ⟨p, hpk⟩ : ∃ p, r[k]? = some p := ⟨_, List.getElem?_eq_getElem (by omega)⟩
      have hpp : (prs r)[((k : Nat) : Int).toNat]? = some (pc p) := by rw [Int.toNat_natCast, prs, List.getElem?_map, hpk]; rfl
      have hkk : (strs (r.map (·.1)))[((k : Nat) : Int).toNat]? = some [.str p.1] := by rw [Int.toNat_natCast, strs, List.getElem?_map, List.getElem?_map, hpk]; rfl
      have hget : getP p.1 ps = some p.2 := getP_mem hn (hp.subset (List.mem_of_getElem? hpk))
      refine ⟨by omega, pc p, hpp, ?_⟩
      conv => whnf
      repeat' (first | ((with_reducible apply rd_intro); (focus (intro K hK; (conv => whnf); first | exact hK | (intro z hz; rw [wrapI (by omega)] at hz; subst hz; exact hK))); (conv => whnf)) | ((with_reducible apply gd_and); (focus ((conv => whnf); first | rfl | (intro K hK; (conv => whnf); first | exact hK | (intro z hz; rw [wrapI (by omega)] at hz; subst hz; exact hK)))); (conv => whnf)) | ((with_reducible apply z_wrap); (focus omega); (conv => whnf)) | ((with_reducible refine mt_dec (fun _ => ?_) (fun _ => ?_)) <;> (conv => whnf)) | ((with_reducible refine mt_eq (fun _ => ?_) (fun _ => ?_)) <;> (conv => whnf)) | ((with_reducible refine mt_ne (fun _ => ?_) (fun _ => ?_)) <;> (conv => whnf)) | ((with_reducible refine mt_not (fun _ => ?_) (fun _ => ?_)) <;> (conv => whnf)) | ((with_reducible refine mt_any (fun _ => ?_) (fun _ => ?_)) <;> (conv => whnf)))
      refine (getC l ps false p.1).mono ?_
      rintro _ _ ⟨rfl, rfl⟩
      rw [hget]
      conv => whnf
      repeat' (first | ((with_reducible apply rd_intro); (focus (intro K hK; (conv => whnf); first | exact hK | (intro z hz; rw [wrapI (by omega)] at hz; subst hz; exact hK))); (conv => whnf)) | ((with_reducible apply gd_and); (focus ((conv => whnf); first | rfl | (intro K hK; (conv => whnf); first | exact hK | (intro z hz; rw [wrapI (by omega)] at hz; subst hz; exact hK)))); (conv => whnf)) | ((with_reducible apply z_wrap); (focus omega); (conv => whnf)) | ((with_reducible refine mt_dec (fun _ => ?_) (fun _ => ?_)) <;> (conv => whnf)) | ((with_reducible refine mt_eq (fun _ => ?_) (fun _ => ?_)) <;> (conv => whnf)) | ((with_reducible refine mt_ne (fun _ => ?_) (fun _ => ?_)) <;> (conv => whnf)) | ((with_reducible refine mt_not (fun _ => ?_) (fun _ => ?_)) <;> (conv => whnf)) | ((with_reducible refine mt_any (fun _ => ?_) (fun _ => ?_)) <;> (conv => whnf)))
      ((with_reducible refine draw_pl ttOk zOk foOk mixedOk pl65x8 ?_ ?_); (focus kernel_rfl); (conv => whnf))
      repeat' (first | ((with_reducible apply rd_intro); (focus (intro K hK; (conv => whnf); first | exact hK | (intro z hz; rw [wrapI (by omega)] at hz; subst hz; exact hK))); (conv => whnf)) | ((with_reducible apply gd_and); (focus ((conv => whnf); first | rfl | (intro K hK; (conv => whnf); first | exact hK | (intro z hz; rw [wrapI (by omega)] at hz; subst hz; exact hK)))); (conv => whnf)) | ((with_reducible apply z_wrap); (focus omega); (conv => whnf)) | ((with_reducible refine mt_dec (fun _ => ?_) (fun _ => ?_)) <;> (conv => whnf)) | ((with_reducible refine mt_eq (fun _ => ?_) (fun _ => ?_)) <;> (conv => whnf)) | ((with_reducible refine mt_ne (fun _ => ?_) (fun _ => ?_)) <;> (conv => whnf)) | ((with_reducible refine mt_not (fun _ => ?_) (fun _ => ?_)) <;> (conv => whnf)) | ((with_reducible refine mt_any (fun _ => ?_) (fun _ => ?_)) <;> (conv => whnf)))
      ((with_reducible apply rd_intro); (focus (intro K hK; (conv => whnf); exact ⟨by omega, by rw [hsl]; (show k < r.length); omega, hK⟩)); (conv => whnf))
      repeat' (first | ((with_reducible apply rd_intro); (focus (intro K hK; (conv => whnf); first | exact hK | (intro z hz; rw [wrapI (by omega)] at hz; subst hz; exact hK))); (conv => whnf)) | ((with_reducible apply gd_and); (focus ((conv => whnf); first | rfl | (intro K hK; (conv => whnf); first | exact hK | (intro z hz; rw [wrapI (by omega)] at hz; subst hz; exact hK)))); (conv => whnf)) | ((with_reducible apply z_wrap); (focus omega); (conv => whnf)) | ((with_reducible refine mt_dec (fun _ => ?_) (fun _ => ?_)) <;> (conv => whnf)) | ((with_reducible refine mt_eq (fun _ => ?_) (fun _ => ?_)) <;> (conv => whnf)) | ((with_reducible refine mt_ne (fun _ => ?_) (fun _ => ?_)) <;> (conv => whnf)) | ((with_reducible refine mt_not (fun _ => ?_) (fun _ => ?_)) <;> (conv => whnf)) | ((with_reducible refine mt_any (fun _ => ?_) (fun _ => ?_)) <;> (conv => whnf)))
      ((with_reducible apply rd_intro); (focus (intro K hK; (conv => whnf); exact ⟨[.str p.1], hkk, hK⟩)); (conv => whnf))
      repeat' (first | ((with_reducible apply rd_intro); (focus (intro K hK; (conv => whnf); first | exact hK | (intro z hz; rw [wrapI (by omega)] at hz; subst hz; exact hK))); (conv => whnf)) | ((with_reducible apply gd_and); (focus ((conv => whnf); first | rfl | (intro K hK; (conv => whnf); first | exact hK | (intro z hz; rw [wrapI (by omega)] at hz; subst hz; exact hK)))); (conv => whnf)) | ((with_reducible apply z_wrap); (focus omega); (conv => whnf)) | ((with_reducible refine mt_dec (fun _ => ?_) (fun _ => ?_)) <;> (conv => whnf)) | ((with_reducible refine mt_eq (fun _ => ?_) (fun _ => ?_)) <;> (conv => whnf)) | ((with_reducible refine mt_ne (fun _ => ?_) (fun _ => ?_)) <;> (conv => whnf)) | ((with_reducible refine mt_not (fun _ => ?_) (fun _ => ?_)) <;> (conv => whnf)) | ((with_reducible refine mt_any (fun _ => ?_) (fun _ => ?_)) <;> (conv => whnf)))
      ((with_reducible apply rd_intro); (focus (intro K hK; (conv => whnf); exact ⟨by omega, pc p, hpp, hK⟩)); (conv => whnf))
      repeat' (first | ((with_reducible apply rd_intro); (focus (intro K hK; (conv => whnf); first | exact hK | (intro z hz; rw [wrapI (by omega)] at hz; subst hz; exact hK))); (conv => whnf)) | ((with_reducible apply gd_and); (focus ((conv => whnf); first | rfl | (intro K hK; (conv => whnf); first | exact hK | (intro z hz; rw [wrapI (by omega)] at hz; subst hz; exact hK)))); (conv => whnf)) | ((with_reducible apply z_wrap); (focus omega); (conv => whnf)) | ((with_reducible refine mt_dec (fun _ => ?_) (fun _ => ?_)) <;> (conv => whnf)) | ((with_reducible refine mt_eq (fun _ => ?_) (fun _ => ?_)) <;> (conv => whnf)) | ((with_reducible refine mt_ne (fun _ => ?_) (fun _ => ?_)) <;> (conv => whnf)) | ((with_reducible refine mt_not (fun _ => ?_) (fun _ => ?_)) <;> (conv => whnf)) | ((with_reducible refine mt_any (fun _ => ?_) (fun _ => ?_)) <;> (conv => whnf)))
      · rename_i h2; simp at h2
      refine (num11_ok 0).mono ?_
      rintro _ _ ⟨rfl, rfl⟩
      conv => whnf
      repeat' (first | (first | ((with_reducible apply rd_intro); (focus (intro K hK; (conv => whnf); first | exact hK | (intro z hz; rw [wrapI (by omega)] at hz; subst hz; exact hK))); (conv => whnf)) | ((with_reducible apply gd_and); (focus ((conv => whnf); first | rfl | (intro K hK; (conv => whnf); first | exact hK | (intro z hz; rw [wrapI (by omega)] at hz; subst hz; exact hK)))); (conv => whnf)) | ((with_reducible apply z_wrap); (focus omega); (conv => whnf)) | ((with_reducible refine mt_dec (fun _ => ?_) (fun _ => ?_)) <;> (conv => whnf)) | ((with_reducible refine mt_eq (fun _ => ?_) (fun _ => ?_)) <;> (conv => whnf)) | ((with_reducible refine mt_ne (fun _ => ?_) (fun _ => ?_)) <;> (conv => whnf)) | ((with_reducible refine mt_not (fun _ => ?_) (fun _ => ?_)) <;> (conv => whnf)) | ((with_reducible refine mt_any (fun _ => ?_) (fun _ => ?_)) <;> (conv => whnf))) | ((with_reducible apply gd_and); (focus ((conv => whnf); intro K hK; (conv => whnf); exact ⟨by omega, by rw [hsl]; (show k < r.length); omega, hK⟩)); (conv => whnf)) | ((with_reducible apply gd_and); (focus ((conv => whnf); intro K hK; (conv => whnf); exact ⟨[.str p.1], hkk, hK⟩)); (conv => whnf)) | ((with_reducible apply gd_and); (focus ((conv => whnf); intro K hK; (conv => whnf); exact ⟨by omega, pc p, hpp, hK⟩)); (conv => whnf)) | ((with_reducible apply rd_intro); (focus (intro K hK; (conv => whnf); exact ⟨by omega, pc p, hpp, hK⟩)); (conv => whnf)))
      · rename_i h3; simp at h3
      · exact ⟨k + 1, rfl, rfl, by omega, by omega⟩
    · rename_i h
      obtain rfl : k = r.length := by omega
      (refine Or.inr ?_; (conv => whnf))
      refine (spoil_ok (r.map (·.1)) (by simp; omega)).mono ?_
      rintro _ _ ⟨rfl, rfl⟩
      conv => whnf
      exact ⟨rfl, rfl⟩
end Go.Proofs.Ytpedbknmkgcldaa

namespace Go.Proofs.Ytpedbknmkgcldaa
open Go.Ab Go.RowKit
/-! ## what is read of frames -/
theorem scan1_frame (s : ByteArray) (rest : List UInt8) (hs : s.size ≤ 4096) : scan1 (frameL s ++ rest) = some s := by
  have hds : s.data.toList.length = s.size := by simp
  have hc := chk_range s.data.toList
  have e : frameL s ++ rest = fourL s.size ++ (s.data.toList ++ (fourL (chk s.data.toList) ++ ([1] ++ rest))) := by simp [frameL]
  have hlen : (frameL s ++ rest).length = s.size + 9 + rest.length := by rw [List.length_append, frame_len]
  have hn : num4 (frameL s ++ rest) = (s.size : Int) := by
    rw [e]
    show numL _ _ _ _ = _
    exact num_four _ (by omega)
  have hd4 : (frameL s ++ rest).drop 4 = s.data.toList ++ (fourL (chk s.data.toList) ++ ([1] ++ rest)) := by rw [e]; rfl
  have hw : ((frameL s ++ rest).drop 4).take s.size = s.data.toList := by rw [hd4, ← hds, List.take_left]
  have hd2 : (frameL s ++ rest).drop (4 + s.size) = fourL (chk s.data.toList) ++ ([1] ++ rest) := by
    rw [← List.drop_drop, hd4, ← hds, List.drop_left]
  have h1 : (frameL s ++ rest)[s.size + 8]? = some 1 := by
    have : (frameL s ++ rest)[4 + s.size + 4]? = ((frameL s ++ rest).drop (4 + s.size))[4]? := by rw [List.getElem?_drop]
    rw [show s.size + 8 = 4 + s.size + 4 by omega, this, hd2]
    rfl
  have hn2 : num4 ((frameL s ++ rest).drop (4 + s.size)) = chk s.data.toList := by
    rw [hd2]
    show numL _ _ _ _ = _
    exact num_four _ hc
  unfold scan1
  rw [hn, Int.toNat_natCast, hw, hn2, h1, hlen, if_neg (by omega), if_neg (by rintro (h | h | h) <;> first | omega | exact h rfl), if_neg (by simp)]
theorem scan_lay (l : List ByteArray) (rest : List UInt8) (hs : ∀ s ∈ l, s.size ≤ 4096) : scanL (layL l ++ rest) = l ++ scanL rest := by
  induction l with
  | nil => rfl
  | cons x r ih =>
    have e : layL (x :: r) ++ rest = frameL x ++ (layL r ++ rest) := by simp [layL]
    rw [e, scanL_some (scan1_frame x _ (hs x (by simp))), ← frame_len x, List.drop_left, ih fun s h => hs s (by simp [h])]
    rfl
theorem scanL_nil : scanL [] = [] := scanL_none (by simp [scan1])
theorem scan_all (l : List ByteArray) (hs : ∀ s ∈ l, s.size ≤ 4096) : scanL (layL l) = l := by
  have := scan_lay l [] hs
  rw [List.append_nil, scanL_nil, List.append_nil] at this
  exact this
/-- a disk of a crash where all was safe -/
def LS.crashed (x : LS) : LS := ⟨0, x.recs, x.file, if x.file = true then layL x.recs else []⟩
def LS.opened (x : LS) : LS := ⟨if x.file = true then IntKind.i64.wrap (x.calls + 1) else x.calls, x.recs, x.file, if x.file = true then layL x.recs else []⟩
theorem LS.crashed_ok {x : LS} (h : x.ok) : x.crashed.ok := by
  refine ⟨fun hf => ?_, h.sum, h.small, ?_⟩
  · have hf' : x.file = false := hf
    exact ⟨(h.new hf').1, by simp [LS.crashed, hf']⟩
  · show (if x.file = true then layL x.recs else []).length ≤ _
    have := h.len
    split <;> simp <;> omega
theorem LS.opened_ok {x : LS} (h : x.ok) : x.opened.ok := by
  have := LS.crashed_ok h
  exact ⟨this.new, this.sum, this.small, this.safe⟩
theorem LS.opn {x : LS} (h : x.ok) : LD.opn x.l.d = (0, x.opened.l) := by
  have hfr : getN freshN x.fs = none := by
    unfold LS.fs
    split
    · simp [getN, fresh_log]
    · rfl
  have hrd : x.l.d.read freshN = ([], 3) := read_none fresh_good rfl hfr
  have hsw : (LD.mk x.l.d [] 0 false false).sweep = (0, LD.mk x.l.d [] 0 false false) := by simp [LD.sweep, hrd]
  unfold LD.opn
  rw [hsw, if_neg (by simp)]
  cases hx : x.file with
  | false =>
    have e : x.fs = [] := by simp [LS.fs, hx]
    have hn : x.l.d.read logN = ([], 3) := read_none log_good rfl (show getN logN x.fs = none by rw [e]; rfl)
    have hr := (h.new hx).1
    unfold LD.load
    rw [if_pos (by rw [hn])]
    simp only [LS.l, LS.opened, hx, hr]
    simp [LS.fs, hx, wsum]
  | true =>
    have e : x.fs = [⟨logN, x.safe, layL x.recs⟩] := by simp [LS.fs, hx]
    have hn : x.l.d.read logN = (layL x.recs, 0) := read_some (f := ⟨logN, x.safe, layL x.recs⟩) log_good rfl (show getN logN x.fs = _ by rw [e]; simp [getN])
    have hs : x.l.d.sync logN = (0, x.synced.l.d) := by
      rw [sync_some log_good (by rw [LS.spend_eq]) (f := ⟨logN, x.safe, layL x.recs⟩) (show getN logN x.fs = _ by rw [e]; simp [getN]), LS.spend_eq]
      show (0, DD.mk _ _ _ (updN logN _ x.fs)) = (0, DD.mk _ _ _ (LS.fs _))
      simp [hx, LS.fs, LS.synced, updN]
    have hsc := scan_all x.recs h.small
    unfold LD.load
    simp only [hn, hsc, hs]
    simp [LD.got, LS.l, LS.opened, LS.synced, hx, LS.spend, LS.fs]
end Go.Proofs.Ytpedbknmkgcldaa

namespace Go.Proofs.Ytpedbknmkgcldaa
open Go.Ab Go.RowKit
theorem dw_head {α : Type} {P : α → Bool} {p : α} {s : List α} : ∀ {r : List α}, r.dropWhile P = p :: s → P p = false
  | [], h => by simp at h
  | x :: r, h => by
    rw [List.dropWhile_cons] at h
    split at h
    · exact dw_head h
    · rename_i hx
      cases h
      simpa using hx
theorem tw_all {α : Type} {P : α → Bool} : ∀ {r : List α}, ∀ p ∈ r.takeWhile P, P p = true
  | [], p, h => by simp at h
  | x :: r, p, h => by
    rw [List.takeWhile_cons] at h
    split at h
    · rename_i hx
      rcases List.mem_cons.1 h with rfl | h
      · exact hx
      · exact tw_all p h
    · cases h
theorem lessS_total {a b : ByteArray} (h1 : lessS a b = false) (h2 : lessS b a = false) : a = b := by
  have := bl_total a.toList b.toList h1 h2
  rw [ByteArray.toList_eq, ByteArray.toList_eq] at this
  rcases a with ⟨⟨a⟩⟩; rcases b with ⟨⟨b⟩⟩
  simpa using this
theorem dec {r : List (ByteArray × ByteArray)} (hr : risingS (r.map (·.1))) (key : ByteArray) : ∃ tw s, (∀ p ∈ tw, lessS p.1 key = true) ∧ (∀ p ∈ s, lessS key p.1 = true) ∧ r.take (fi r key) = tw ∧ risingS (tw.map (·.1)) ∧ risingS (s.map (·.1)) ∧
    ((ft r key = true ∧ (∃ v, r = tw ++ (key, v) :: s) ∧ r.drop (fi r key + 1) = s) ∨ (ft r key = false ∧ r = tw ++ s ∧ r.drop (fi r key) = s)) := by
  obtain ⟨tw, htw⟩ : ∃ tw, r.takeWhile (fun p : ByteArray × ByteArray => lessS p.1 key) = tw := ⟨_, rfl⟩
  obtain ⟨d, hd⟩ : ∃ d, r.dropWhile (fun p : ByteArray × ByteArray => lessS p.1 key) = d := ⟨_, rfl⟩
  have hrd : r = tw ++ d := by rw [← htw, ← hd, List.takeWhile_append_dropWhile]
  have hfi : fi r key = tw.length := by unfold fi; rw [htw]
  have hta : ∀ p ∈ tw, lessS p.1 key = true := fun p hp => tw_all (P := fun p : ByteArray × ByteArray => lessS p.1 key) (r := r) p (by rw [htw]; exact hp)
  have hpw : risingS ((tw ++ d).map (·.1)) := by rw [← hrd]; exact hr
  rw [List.map_append] at hpw
  obtain ⟨w1, w2, w3⟩ := List.pairwise_append.1 hpw
  have htake : r.take (fi r key) = tw := by rw [hfi, hrd, List.take_left]
  have hdrop : r.drop (fi r key) = d := by rw [hfi, hrd, List.drop_left]
  have hat : r[fi r key]? = d[0]? := by rw [hfi, hrd, List.getElem?_append_right (Nat.le_refl _), Nat.sub_self]
  cases d with
  | nil =>
    refine ⟨tw, [], hta, by simp, htake, w1, by simp [risingS], .inr ⟨?_, by simpa using hrd, hdrop⟩⟩
    unfold ft; rw [hat]; rfl
  | cons p s =>
    have hpf : lessS p.1 key = false := dw_head (P := fun p : ByteArray × ByteArray => lessS p.1 key) hd
    have w2' := List.pairwise_cons.1 w2
    have hps : ∀ q ∈ s, lessS p.1 q.1 = true := fun q hq => w2'.1 q.1 (List.mem_map.2 ⟨q, hq, rfl⟩)
    have hft : ft r key = decide (p.1 = key) := by unfold ft; rw [hat]; rfl
    by_cases e : p.1 = key
    · refine ⟨tw, s, hta, fun q hq => by rw [← e]; exact hps q hq, htake, w1, w2'.2, .inl ⟨by rw [hft, decide_eq_true e], ⟨p.2, by rw [← e]; exact hrd⟩, ?_⟩⟩
      rw [← List.drop_drop, hdrop]; rfl
    · have hkp : lessS key p.1 = true := by
        cases h : lessS key p.1 with
        | true => rfl
        | false => exact absurd (lessS_total hpf h) e
      refine ⟨tw, p :: s, hta, fun q hq => ?_, htake, w1, w2, .inr ⟨by rw [hft, decide_eq_false e], hrd, hdrop⟩⟩
      rcases List.mem_cons.1 hq with rfl | hq
      · exact hkp
      · exact lessS_trans hkp (hps q hq)
theorem less_ne {a b : ByteArray} (h : lessS a b = true) : a ≠ b := fun e => by rw [e, lessS_irr] at h; cases h
theorem del_filter {key : ByteArray} : ∀ {ps : List (ByteArray × ByteArray)}, (ps.map (·.1)).Nodup → delP key ps = ps.filter fun p => decide (p.1 ≠ key)
  | [], _ => rfl
  | p :: r, hn => by
    simp only [List.map_cons, List.nodup_cons] at hn
    simp only [delP]
    by_cases e : key = p.1
    · rw [if_pos e, List.filter_cons_of_neg (by simp [e])]
      symm
      rw [List.filter_eq_self]
      intro q hq
      have : q.1 ≠ key := fun e2 => hn.1 (by rw [← e, ← e2]; exact List.mem_map.2 ⟨q, hq, rfl⟩)
      simpa using this
    · rw [if_neg e, List.filter_cons_of_pos (by simpa using fun e2 => e e2.symm), del_filter hn.2]
theorem rest_perm {r ps tw s : List (ByteArray × ByteArray)} {key : ByteArray} (hp : r.Perm ps) (hn : (ps.map (·.1)).Nodup) (h1 : ∀ p ∈ tw, lessS p.1 key = true) (h2 : ∀ p ∈ s, lessS key p.1 = true) (h : (∃ v, r = tw ++ (key, v) :: s) ∨ r = tw ++ s) : (tw ++ s).Perm (delP key ps) := by
  rw [del_filter hn]
  refine List.Perm.trans ?_ (hp.filter _)
  have e1 : tw.filter (fun p => decide (p.1 ≠ key)) = tw := List.filter_eq_self.2 fun p hp => by simpa using less_ne (h1 p hp)
  have e2 : s.filter (fun p => decide (p.1 ≠ key)) = s := List.filter_eq_self.2 fun p hp => by simpa using fun e : p.1 = key => less_ne (h2 p hp) e.symm
  rcases h with ⟨v, rfl⟩ | rfl
  · rw [List.filter_append, List.filter_cons_of_neg (by simp), e1, e2]
  · rw [List.filter_append, e1, e2]
theorem getP_none {key : ByteArray} : ∀ {ps : List (ByteArray × ByteArray)}, getP key ps = none ↔ key ∉ ps.map (·.1)
  | [] => by simp [getP]
  | p :: r => by
    simp only [getP, List.map_cons, List.mem_cons, not_or]
    by_cases e : key = p.1
    · simp [e]
    · rw [if_neg e]
      have := getP_none (key := key) (ps := r)
      constructor
      · intro h; exact ⟨e, this.1 h⟩
      · intro h; exact this.2 h.2
theorem ft_get {r ps : List (ByteArray × ByteArray)} (hr : risingS (r.map (·.1))) (hp : r.Perm ps) (key : ByteArray) : ft r key = true ↔ getP key ps ≠ none := by
  obtain ⟨tw, s, h1, h2, _, _, _, h⟩ := dec hr key
  have hm : key ∈ ps.map (·.1) ↔ key ∈ r.map (·.1) := (hp.map (·.1)).mem_iff.symm
  rw [Ne, getP_none, Classical.not_not, hm]
  rcases h with ⟨h3, ⟨v, h4⟩, _⟩ | ⟨h3, h4, _⟩
  · rw [h3, h4]; simp
  · rw [h3, h4]
    constructor
    · intro h; cases h
    · intro h
      exfalso
      obtain ⟨p, hp', e⟩ := List.mem_map.1 h
      rcases List.mem_append.1 hp' with hq | hq
      · exact less_ne (h1 p hq) e
      · exact less_ne (h2 p hq) e.symm
theorem rising_join {tw s : List (ByteArray × ByteArray)} {key val : ByteArray} (h1 : ∀ p ∈ tw, lessS p.1 key = true) (h2 : ∀ p ∈ s, lessS key p.1 = true) (w1 : risingS (tw.map (·.1))) (w2 : risingS (s.map (·.1))) : risingS ((tw ++ s).map (·.1)) ∧ risingS ((tw ++ [(key, val)] ++ s).map (·.1)) := by
  have c1 : ∀ a ∈ tw.map (·.1), ∀ b ∈ s.map (·.1), lessS a b = true := by
    intro a ha b hb
    obtain ⟨p, hp, rfl⟩ := List.mem_map.1 ha
    obtain ⟨q, hq, rfl⟩ := List.mem_map.1 hb
    exact lessS_trans (h1 p hp) (h2 q hq)
  constructor
  · rw [List.map_append]
    exact List.pairwise_append.2 ⟨w1, w2, c1⟩
  · rw [List.append_assoc, List.map_append]
    refine List.pairwise_append.2 ⟨w1, ?_, ?_⟩
    · simp only [List.singleton_append, List.map_cons]
      refine List.pairwise_cons.2 ⟨?_, w2⟩
      intro b hb
      obtain ⟨q, hq, rfl⟩ := List.mem_map.1 hb
      exact h2 q hq
    · intro a ha b hb
      simp only [List.singleton_append, List.map_cons, List.mem_cons] at hb
      rcases hb with rfl | hb
      · obtain ⟨p, hp, rfl⟩ := List.mem_map.1 ha
        exact h1 p hp
      · exact c1 a ha b hb
/-- what is played on the page's list is what is played on the store -/
theorem next_del {r ps : List (ByteArray × ByteArray)} {a : Act11} (hr : risingS (r.map (·.1))) (hp : r.Perm ps) (hn : (ps.map (·.1)).Nodup) (h4 : a.w = 4) (hg : goodK a.key = true) (hf : getP a.key ps ≠ none) :
    (nextP r a).2 = 0 ∧ (nextP r a).1.Perm (delP a.key ps) ∧ risingS ((nextP r a).1.map (·.1)) := by
  have hft := (ft_get hr hp a.key).2 hf
  obtain ⟨tw, s, h1, h2, h3, w1, w2, h⟩ := dec hr a.key
  rw [show nextP r a = (r.take (fi r a.key) ++ r.drop (fi r a.key + 1), 0) by simp only [nextP, if_pos h4, hg, hft]; rfl]
  rcases h with ⟨_, h5, h6⟩ | ⟨h5, _⟩
  · simp only [h3, h6]
    exact ⟨trivial, rest_perm hp hn h1 h2 (.inl h5), (rising_join (val := ⟨#[]⟩) h1 h2 w1 w2).1⟩
  · rw [hft] at h5; cases h5
theorem next_set {r ps : List (ByteArray × ByteArray)} {a : Act11} (hr : risingS (r.map (·.1))) (hp : r.Perm ps) (hn : (ps.map (·.1)).Nodup) (h4 : ¬ a.w = 4) (h5 : ¬ (a.w = 5 ∨ a.w = 6 ∨ a.w = 7)) (hb : badK a.key a.val = false) :
    (nextP r a).2 = 0 ∧ (nextP r a).1.Perm (setP a.key a.val ps) ∧ risingS ((nextP r a).1.map (·.1)) := by
  obtain ⟨tw, s, h1, h2, h3, w1, w2, h⟩ := dec hr a.key
  rw [show nextP r a = (r.take (fi r a.key) ++ [(a.key, a.val)] ++ r.drop (if ft r a.key = true then fi r a.key + 1 else fi r a.key), 0) by simp only [nextP, if_neg h4, if_neg h5, if_neg (show ¬ badK a.key a.val = true by rw [hb]; decide)]]
  have hd : r.drop (if ft r a.key = true then fi r a.key + 1 else fi r a.key) = s := by
    rcases h with ⟨h5, _, h6⟩ | ⟨h5, _, h6⟩
    · rw [if_pos h5, h6]
    · rw [if_neg (by rw [h5]; decide), h6]
  have hrp : (tw ++ s).Perm (delP a.key ps) := rest_perm hp hn h1 h2 (by
    rcases h with ⟨_, h5, _⟩ | ⟨_, h5, _⟩
    · exact .inl h5
    · exact .inr h5)
  simp only [h3, hd]
  refine ⟨trivial, ?_, (rising_join h1 h2 w1 w2).2⟩
  unfold setP
  refine List.Perm.trans ?_ (hrp.append_right _)
  rw [List.append_assoc, List.append_assoc]
  exact (List.perm_append_comm).append_left tw
end Go.Proofs.Ytpedbknmkgcldaa

namespace Go.Proofs.Ytpedbknmkgcldaa
open Go.Ab Go.RowKit
def keyO (j : Nat) : ByteArray := if j % 3 = 0 then ⟨#[97]⟩ else if j % 3 = 1 then ⟨#[98]⟩ else ⟨#[99]⟩
def zb (m : Nat) : ByteArray := ⟨(List.replicate m (0 : UInt8)).toArray⟩
theorem zb_size (m : Nat) : (zb m).size = m := by show (List.replicate m (0 : UInt8)).toArray.size = m; simp
theorem keyO_size (j : Nat) : (keyO j).size = 1 := by unfold keyO; split; rfl; split <;> rfl
theorem keyO_ne {i j : Nat} (h : i % 3 ≠ j % 3) : keyO i ≠ keyO j := by
  unfold keyO
  have hi : i % 3 < 3 := Nat.mod_lt _ (by decide)
  have hj : j % 3 < 3 := Nat.mod_lt _ (by decide)
  split
  · split
    · omega
    · split <;> decide
  · split
    · split
      · decide
      · split
        · omega
        · decide
    · split
      · decide
      · split
        · decide
        · omega
theorem keyO_mem (j : Nat) : keyO j ∈ [keyO 0, keyO 1, keyO 2] := by
  have hj : j % 3 < 3 := Nat.mod_lt _ (by decide)
  unfold keyO
  rcases (show j % 3 = 0 ∨ j % 3 = 1 ∨ j % 3 = 2 by omega) with h | h | h <;> simp [h]
theorem baLawful : LawfulBEq ByteArray where
  eq_of_beq {a b} h := by rw [ba_beq] at h; simpa using h
  rfl {a} := by rw [ba_beq]; simp
theorem sub_len : ∀ {l m : List ByteArray}, l.Nodup → (∀ x ∈ l, x ∈ m) → l.length ≤ m.length
  | [], m, _, _ => Nat.zero_le _
  | x :: r, m, hn, h => by
    have hn' := List.nodup_cons.1 hn
    have hx := h x (by simp)
    have := baLawful
    have := sub_len (l := r) (m := m.erase x) hn'.2 (fun y hy => (List.mem_erase_of_ne (fun e => hn'.1 (by rw [← e]; exact hy))).2 (h y (by simp [hy])))
    rw [List.length_erase_of_mem hx] at this
    have hp := List.length_pos_of_mem hx
    simp only [List.length_cons]
    omega
structure OInv (i : Nat) (l : Lg) (ps : List (ByteArray × ByteArray)) (x : LS) (os : List Op11) : Prop where
  ok : x.ok
  l : l.dat = x.l
  recs : x.recs = os.map Op11.enc
  good : ∀ o ∈ os, o.ok
  perm : ps.Perm (foldO os)
  nd : (ps.map (·.1)).Nodup
  keys : ∀ q ∈ ps, (∃ j, q.1 = keyO j) ∧ q.2.size ≤ 3300
  last : ∀ j, j < i → i ≤ j + 3 → getP (keyO j) ps = some (zb (3000 + j))
theorem OInv.len {i : Nat} {l : Lg} {ps : List (ByteArray × ByteArray)} {x : LS} {os : List Op11} (h : OInv i l ps x os) : ps.length ≤ 3 := by
  have := sub_len (m := [keyO 0, keyO 1, keyO 2]) h.nd (fun y hy => by
    obtain ⟨q, hq, rfl⟩ := List.mem_map.1 hy
    obtain ⟨⟨j, e⟩, _⟩ := h.keys q hq
    rw [e]; exact keyO_mem j)
  simpa using this
theorem psum_le {B : Nat} : ∀ {ps : List (ByteArray × ByteArray)}, (∀ q ∈ ps, q.1.size ≤ 1 ∧ q.2.size ≤ B) → psum ps ≤ ps.length * (65 + B)
  | [], _ => by simp [psum]
  | q :: r, h => by
    have h1 := h q (by simp)
    have h2 := psum_le (ps := r) fun q hq => h q (by simp [hq])
    simp only [psum, List.length_cons]
    have e : ((r.length + 1 : Nat) : Int) * (65 + B) = r.length * (65 + B) + (65 + B) := by rw [Int.natCast_add, Int.add_mul]; simp
    omega
theorem OInv.sizes {i : Nat} {l : Lg} {ps : List (ByteArray × ByteArray)} {x : LS} {os : List Op11} (h : OInv i l ps x os) : psum ps ≤ 10095 ∧ ∀ q ∈ ps, q.1.size ≤ 1 ∧ q.2.size ≤ 3300 := by
  have h1 : ∀ q ∈ ps, q.1.size ≤ 1 ∧ q.2.size ≤ 3300 := fun q hq => by
    obtain ⟨⟨j, e⟩, h2⟩ := h.keys q hq
    exact ⟨by rw [e, keyO_size]; exact Nat.le_refl _, h2⟩
  have h2 := psum_le h1
  have h3 := h.len
  refine ⟨?_, h1⟩
  have : (ps.length : Int) * (65 + (3300 : Nat)) ≤ 3 * (65 + (3300 : Nat)) := Int.mul_le_mul_of_nonneg_right (by omega) (by decide)
  omega
theorem getP_app_left {k : ByteArray} : ∀ {a b : List (ByteArray × ByteArray)}, k ∉ a.map (·.1) → getP k (a ++ b) = getP k b
  | [], b, _ => rfl
  | p :: r, b, h => by
    simp only [List.map_cons, List.mem_cons, not_or] at h
    simp only [List.cons_append, getP, if_neg h.1]
    exact getP_app_left h.2
theorem getP_app_ne {k : ByteArray} {p : ByteArray × ByteArray} (h : k ≠ p.1) : ∀ {a : List (ByteArray × ByteArray)}, getP k (a ++ [p]) = getP k a
  | [] => by simp [getP, h]
  | q :: r => by
    simp only [List.cons_append, getP, getP_app_ne h]
theorem getP_del_ne {k k' : ByteArray} (h : k' ≠ k) : ∀ {a : List (ByteArray × ByteArray)}, getP k' (delP k a) = getP k' a
  | [] => rfl
  | p :: r => by
    simp only [delP]
    by_cases e : k = p.1
    · rw [if_pos e]
      simp only [getP, if_neg (show ¬ k' = p.1 by rw [← e]; exact h)]
    · rw [if_neg e]
      simp only [getP, getP_del_ne h]
theorem getP_set_same {k v : ByteArray} {ps : List (ByteArray × ByteArray)} (hn : (ps.map (·.1)).Nodup) : getP k (setP k v ps) = some v := by
  unfold setP
  rw [getP_app_left (del_notin hn)]
  simp [getP]
theorem getP_set_ne {k k' v : ByteArray} {ps : List (ByteArray × ByteArray)} (h : k' ≠ k) : getP k' (setP k v ps) = getP k' ps := by
  unfold setP
  rw [getP_app_ne h, getP_del_ne h]
theorem setP_perm {k v : ByteArray} {ps qs : List (ByteArray × ByteArray)} (hp : ps.Perm qs) (hn : (ps.map (·.1)).Nodup) (hm : (qs.map (·.1)).Nodup) : (setP k v ps).Perm (setP k v qs) := by
  unfold setP
  rw [del_filter hn, del_filter hm]
  exact (hp.filter _).append_right _
theorem fold_puts (g : ByteArray → ByteArray) : ∀ {ns : List ByteArray} {acc : List (ByteArray × ByteArray)}, ns.Nodup → (∀ n ∈ ns, n ∉ acc.map (·.1)) → (ns.map fun n => Op11.put n (g n)).foldl Op11.app acc = acc ++ ns.map fun n => (n, g n)
  | [], acc, _, _ => by simp
  | n :: r, acc, hn, h => by
    have hn' := List.nodup_cons.1 hn
    have hd : delP n acc = acc := by
      have : ∀ l : List (ByteArray × ByteArray), n ∉ l.map (·.1) → delP n l = l := by
        intro l
        induction l with
        | nil => intro _; rfl
        | cons p l ih =>
          intro hl
          simp only [List.map_cons, List.mem_cons, not_or] at hl
          simp only [delP, if_neg hl.1, ih hl.2]
      exact this acc (h n (by simp))
    simp only [List.map_cons, List.foldl_cons]
    show (r.map _).foldl Op11.app (setP n (g n) acc) = _
    rw [setP, hd, fold_puts g hn'.2 (fun m hm => by
      rw [List.map_append, List.mem_append, not_or]
      refine ⟨h m (by simp [hm]), ?_⟩
      simp only [List.map_cons, List.map_nil, List.mem_singleton]
      exact fun e => hn'.1 (by rw [← e]; exact hm)), List.append_assoc]
    rfl
theorem fold_laid {ss : List ByteArray} {key val : ByteArray} {ps : List (ByteArray × ByteArray)} (hn : (ps.map (·.1)).Nodup) (hss : ss.Perm (ps.map (·.1))) : (foldO (laidR ss key val ps)).Perm (setP key val ps) := by
  have hsn : ss.Nodup := hss.nodup_iff.2 hn
  have e1 : foldO (laidR ss key val ps) = setP key val ((ss.filter fun n => decide (n ≠ key)).map fun n => (n, getD n ps)) := by
    unfold laidR othersO foldO
    rw [List.foldl_append, fold_puts (fun n => getD n ps) (hsn.filter _) (by simp)]
    rfl
  have hnot : key ∉ (((ss.filter fun n => decide (n ≠ key)).map fun n => (n, getD n ps)).map (·.1)) := by
    intro h
    obtain ⟨q, hq, e⟩ := List.mem_map.1 h
    obtain ⟨n, hn2, rfl⟩ := List.mem_map.1 hq
    have := (List.mem_filter.1 hn2).2
    simp at this
    exact this e
  have hd : ∀ l : List (ByteArray × ByteArray), key ∉ l.map (·.1) → delP key l = l := by
    intro l
    induction l with
    | nil => intro _; rfl
    | cons p l ih =>
      intro hl
      simp only [List.map_cons, List.mem_cons, not_or] at hl
      simp only [delP, if_neg hl.1, ih hl.2]
  rw [e1]
  unfold setP
  rw [hd _ hnot, del_filter hn]
  refine List.Perm.append_right _ ?_
  refine ((hss.filter _).map _).trans (List.Perm.of_eq ?_)
  rw [List.filter_map, List.map_map]
  have : ∀ q ∈ ps, getD q.1 ps = q.2 := fun q hq => by unfold getD; rw [getP_mem hn hq]; rfl
  calc (ps.filter ((fun n => decide (n ≠ key)) ∘ fun q => q.1)).map ((fun n => (n, getD n ps)) ∘ fun q => q.1)
      = (ps.filter ((fun n => decide (n ≠ key)) ∘ fun q => q.1)).map id := List.map_congr_left fun q hq => by
        simp only [Function.comp, id]
        rw [this q (List.mem_filter.1 hq).1]
    _ = _ := by rw [List.map_id]; rfl
theorem wsum_bound {B : Nat} : ∀ {l : List ByteArray}, (∀ s ∈ l, s.size ≤ B) → wsum l ≤ l.length * (16 + B)
  | [], _ => by simp [wsum]
  | x :: r, h => by
    have h1 := h x (by simp)
    have h2 := wsum_bound (l := r) fun s hs => h s (by simp [hs])
    simp only [wsum, List.length_cons]
    have e : ((r.length + 1 : Nat) : Int) * (16 + B) = r.length * (16 + B) + (16 + B) := by rw [Int.natCast_add, Int.add_mul]; simp
    omega
theorem OInv.laid {i : Nat} {l : Lg} {ps : List (ByteArray × ByteArray)} {x : LS} {os : List Op11} (h : OInv i l ps x os) {key val : ByteArray} (hk : key.size ≤ 1) (hv : val.size ≤ 3300) {ss : List ByteArray} (hss : ss.Perm (ps.map (·.1))) :
    (counted ((laidR ss key val ps).map Op11.enc)).2 = 0 ∧ ∀ o ∈ laidR ss key val ps, o.ok := by
  have hlen := h.len
  have hs := h.sizes.2
  have hmem : ∀ o ∈ laidR ss key val ps, ∃ n v, o = .put n v ∧ n.size ≤ 1 ∧ v.size ≤ 3300 := by
    intro o ho
    unfold laidR othersO at ho
    rcases List.mem_append.1 ho with ho | ho
    · obtain ⟨n, hn, rfl⟩ := List.mem_map.1 ho
      have hm : n ∈ ps.map (·.1) := hss.subset (List.mem_filter.1 hn).1
      obtain ⟨q, hq, rfl⟩ := List.mem_map.1 hm
      refine ⟨q.1, _, rfl, (hs q hq).1, ?_⟩
      unfold getD
      rw [getP_mem h.nd hq]
      exact (hs q hq).2
    · rw [List.mem_singleton.1 ho]
      exact ⟨key, val, rfl, hk, hv⟩
  have hkp : kP.size = 1 := rfl
  have hsz : ∀ s ∈ (laidR ss key val ps).map Op11.enc, s.size ≤ 3303 := by
    intro s hs
    obtain ⟨o, ho, rfl⟩ := List.mem_map.1 hs
    obtain ⟨n, v, rfl, h1, h2⟩ := hmem o ho
    have := rec_size kP n v
    show (recK kP n v).size ≤ 3303
    omega
  have hl : ((laidR ss key val ps).map Op11.enc).length ≤ 4 := by
    have h1 := List.length_filter_le (fun n => decide (n ≠ key)) ss
    have h2 := hss.length_eq
    simp only [List.length_map] at h2
    simp only [laidR, othersO, List.length_map, List.length_append, List.length_cons, List.length_nil]
    omega
  refine ⟨?_, fun o ho => ?_⟩
  · rw [counted_eq, if_neg, if_neg]
    · have h1 := wsum_bound hsz
      have : (((laidR ss key val ps).map Op11.enc).length : Int) * (16 + (3303 : Nat)) ≤ 4 * (16 + (3303 : Nat)) := Int.mul_le_mul_of_nonneg_right (by omega) (by decide)
      omega
    · rw [Bool.not_eq_false, List.all_eq_true]
      intro s hs
      have := hsz s hs
      simp; omega
  · obtain ⟨n, v, rfl, h1, h2⟩ := hmem o ho
    exact ⟨by omega, by omega⟩
theorem OInv.step {i : Nat} {l l' : Lg} {ps : List (ByteArray × ByteArray)} {x x' : LS} {os os' : List Op11} (h : OInv i l ps x os) (hi : i < 300) (h1 : x'.ok) (h2 : l'.dat = x'.l) (h3 : x'.recs = os'.map Op11.enc) (h4 : ∀ o ∈ os', o.ok) (h5 : (setP (keyO i) (zb (3000 + i)) ps).Perm (foldO os')) : OInv (i + 1) l' (setP (keyO i) (zb (3000 + i)) ps) x' os' := by
  refine ⟨h1, h2, h3, h4, h5, set_nodup h.nd, ?_, ?_⟩
  · intro q hq
    unfold setP at hq
    rcases List.mem_append.1 hq with hq | hq
    · exact h.keys q ((del_sub2 _ _).subset hq)
    · rw [List.mem_singleton.1 hq]
      exact ⟨⟨i, rfl⟩, by show (zb (3000 + i)).size ≤ _; rw [zb_size]; omega⟩
  · intro j hj hij
    by_cases e : j = i
    · rw [e]; exact getP_set_same h.nd
    · rw [getP_set_ne (keyO_ne (by omega))]
      exact h.last j (by omega) (by omega)
end Go.Proofs.Ytpedbknmkgcldaa

namespace Go.Proofs.Ytpedbknmkgcldaa
open Go.Ab Go.RowKit Go.MapKept
attribute [local irreducible] ACalls AW ADraw Into
set_option maxRecDepth 100000
set_option maxHeartbeats 4000000 in
theorem ksync_ok (l : Lg) (ps : List (ByteArray × ByteArray)) {x : LS} (hx : x.ok) (hl : l.dat = x.l) : ACalls Try.prog 60 [.ptr 0 0] (Kc l ps false) (fun av L => av = .d (.int .i64 0) ∧ ∃ l' : Lg, L = Kc l' ps false ∧ l'.dat = if x.file = true then x.synced.l else x.l) := by
  refine acalls_go ttOk zOk foOk Try.func60 rfl Try.ntmps60 rfl false rfl ?_
  conv => whnf
  repeat' (first | ((with_reducible apply z_wrap); (focus omega); (conv => whnf)) | ((with_reducible refine mt_dec (fun _ => ?_) (fun _ => ?_)) <;> (conv => whnf)) | ((with_reducible refine mt_eq (fun _ => ?_) (fun _ => ?_)) <;> (conv => whnf)) | ((with_reducible refine mt_ne (fun _ => ?_) (fun _ => ?_)) <;> (conv => whnf)) | ((with_reducible refine mt_not (fun _ => ?_) (fun _ => ?_)) <;> (conv => whnf)) | ((with_reducible refine mt_any (fun _ => ?_) (fun _ => ?_)) <;> (conv => whnf)))
  refine (sync_good l hx hl).mono ?_
  rintro _ _ ⟨l', rfl, rfl, hl'⟩
  conv => whnf
  repeat' (first | ((with_reducible apply z_wrap); (focus omega); (conv => whnf)) | ((with_reducible refine mt_dec (fun _ => ?_) (fun _ => ?_)) <;> (conv => whnf)) | ((with_reducible refine mt_eq (fun _ => ?_) (fun _ => ?_)) <;> (conv => whnf)) | ((with_reducible refine mt_ne (fun _ => ?_) (fun _ => ?_)) <;> (conv => whnf)) | ((with_reducible refine mt_not (fun _ => ?_) (fun _ => ?_)) <;> (conv => whnf)) | ((with_reducible refine mt_any (fun _ => ?_) (fun _ => ?_)) <;> (conv => whnf)))
  exact ⟨rfl, l', rfl, hl'⟩
end Go.Proofs.Ytpedbknmkgcldaa

namespace Go.Proofs.Ytpedbknmkgcldaa
open Go.Ab Go.RowKit Go.MapKept
attribute [local irreducible] ACalls AW ADraw Into
set_option maxRecDepth 100000
theorem equal_ok (a b : List UInt8) : ACalls Try.prog 71 [.d (.sl 1 (u8s a)), .d (.sl 1 (u8s b))] [] (fun av L => av = .d (.bool (decide (a = b))) ∧ L = []) := by
  refine acalls_go ttOk zOk foOk Try.func71 rfl Try.ntmps71 rfl false rfl ?_
  conv => whnf
  refine ⟨a, rfl, ?_⟩
  conv => whnf
  refine ⟨b, rfl, ?_⟩
  conv => whnf
  have h : ∀ x : List UInt8, (⟨x.toArray⟩ : ByteArray).toList = x := fun x => by rw [ByteArray.toList_eq]
  rw [h, h]
  refine ⟨?_, rfl⟩
  congr 2
  rw [Bool.eq_iff_iff]
  simp
end Go.Proofs.Ytpedbknmkgcldaa

namespace Go.Proofs.Ytpedbknmkgcldaa
open Go.Ab Go.RowKit Go.MapKept
attribute [local irreducible] ACalls AW ADraw Into
set_option maxRecDepth 100000
theorem tdiv_in (p n : Int) (hn : 0 < n) (hp : -9223372036854775808 ≤ p ∧ p < 9223372036854775808) : -9223372036854775808 ≤ p.tdiv n ∧ p.tdiv n < 9223372036854775808 := by
  rcases Int.lt_or_le p 0 with h | h
  · have e : p.tdiv n = -((-p).tdiv n) := by rw [Int.neg_tdiv, Int.neg_neg]
    rw [e, Int.tdiv_eq_ediv_of_nonneg (by omega)]
    have h1 : (-p) / n ≤ -p := Int.ediv_le_self _ (by omega)
    have h2 : 0 ≤ (-p) / n := Int.ediv_nonneg (by omega) (by omega)
    omega
  · rw [Int.tdiv_eq_ediv_of_nonneg h]
    have h1 : p / n ≤ p := Int.ediv_le_self _ h
    have h2 : 0 ≤ p / n := Int.ediv_nonneg h (by omega)
    omega
theorem tmod_in (p n : Int) (hn : 0 < n) : (0 ≤ p.tmod n ∧ p.tmod n = p % n ∧ p.tdiv n = p / n ∧ p.tmod n < n) ∨ (-n < p.tmod n ∧ p.tmod n < 0 ∧ p.tmod n + n = p % n ∧ p.tdiv n - 1 = p / n) := by
  have hd := Int.mul_tdiv_add_tmod p n
  have h3 : p.tmod n < n := Int.tmod_lt_of_pos p hn
  have h4 : -n < p.tmod n := by
    have := Int.tmod_lt_of_pos (-p) hn
    rw [Int.neg_tmod] at this; omega
  rcases Int.lt_or_le (p.tmod n) 0 with h | h
  · right
    have := (Int.ediv_emod_unique (a := p) (b := n) (r := p.tmod n + n) (q := p.tdiv n - 1) hn).2 ⟨by rw [Int.mul_sub]; omega, by omega, by omega⟩
    exact ⟨h4, h, this.2.symm, this.1.symm⟩
  · left
    have := (Int.ediv_emod_unique (a := p) (b := n) (r := p.tmod n) (q := p.tdiv n) hn).2 ⟨by omega, h, h3⟩
    exact ⟨h, this.2.symm, this.1.symm, h3⟩
theorem modulo_ok (p n : Int) (hn : 0 < n) (hn2 : n ≤ 4611686018427387904) (hp : -9223372036854775808 ≤ p ∧ p < 9223372036854775808) : ACalls Try.prog 72 [.d (.int .i64 p), .d (.int .i64 n)] [] (fun av L => av = .tup [.d (.int .i64 (p % n)), .d (.int .i64 (p / n))] ∧ L = []) := by
  refine acalls_go ttOk zOk foOk Try.func72 rfl Try.ntmps72 rfl false rfl ?_
  conv => whnf
  ((with_reducible refine draw_pl ttOk zOk foOk mixedOk pl72x1 ?_ ?_); (focus kernel_rfl); (conv => whnf))
  repeat' (first | ((with_reducible apply rd_intro); (focus (intro K hK; (conv => whnf); first | exact hK | (intro z hz; rw [wrapI (by omega)] at hz; subst hz; exact hK))); (conv => whnf)) | ((with_reducible apply gd_and); (focus ((conv => whnf); first | rfl | (intro K hK; (conv => whnf); first | exact hK | (intro z hz; rw [wrapI (by omega)] at hz; subst hz; exact hK)))); (conv => whnf)) | ((with_reducible apply z_wrap); (focus omega); (conv => whnf)) | ((with_reducible refine mt_dec (fun _ => ?_) (fun _ => ?_)) <;> (conv => whnf)) | ((with_reducible refine mt_eq (fun _ => ?_) (fun _ => ?_)) <;> (conv => whnf)) | ((with_reducible refine mt_ne (fun _ => ?_) (fun _ => ?_)) <;> (conv => whnf)) | ((with_reducible refine mt_not (fun _ => ?_) (fun _ => ?_)) <;> (conv => whnf)) | ((with_reducible refine mt_any (fun _ => ?_) (fun _ => ?_)) <;> (conv => whnf)))
  ((with_reducible apply rd_intro); (focus (intro K hK; (conv => whnf); refine ⟨by omega, ?_⟩; intro z hz; subst hz; exact hK)); (conv => whnf))
  repeat' (first | ((with_reducible apply rd_intro); (focus (intro K hK; (conv => whnf); first | exact hK | (intro z hz; rw [wrapI (by omega)] at hz; subst hz; exact hK))); (conv => whnf)) | ((with_reducible apply gd_and); (focus ((conv => whnf); first | rfl | (intro K hK; (conv => whnf); first | exact hK | (intro z hz; rw [wrapI (by omega)] at hz; subst hz; exact hK)))); (conv => whnf)) | ((with_reducible apply z_wrap); (focus omega); (conv => whnf)) | ((with_reducible refine mt_dec (fun _ => ?_) (fun _ => ?_)) <;> (conv => whnf)) | ((with_reducible refine mt_eq (fun _ => ?_) (fun _ => ?_)) <;> (conv => whnf)) | ((with_reducible refine mt_ne (fun _ => ?_) (fun _ => ?_)) <;> (conv => whnf)) | ((with_reducible refine mt_not (fun _ => ?_) (fun _ => ?_)) <;> (conv => whnf)) | ((with_reducible refine mt_any (fun _ => ?_) (fun _ => ?_)) <;> (conv => whnf)))
  ((with_reducible apply rd_intro); (focus (intro K hK; (conv => whnf); refine ⟨by omega, ?_⟩; intro z hz; subst hz; exact hK)); (conv => whnf))
  have hq := tdiv_in p n hn hp
  rw [show IntKind.i64.wrap (p.tdiv n) = p.tdiv n from wrapI hq]
  have hl := tmod_in p n hn
  repeat' (first | ((with_reducible apply rd_intro); (focus (intro K hK; (conv => whnf); first | exact hK | (intro z hz; rw [wrapI (by omega)] at hz; subst hz; exact hK))); (conv => whnf)) | ((with_reducible apply gd_and); (focus ((conv => whnf); first | rfl | (intro K hK; (conv => whnf); first | exact hK | (intro z hz; rw [wrapI (by omega)] at hz; subst hz; exact hK)))); (conv => whnf)) | ((with_reducible apply z_wrap); (focus omega); (conv => whnf)) | ((with_reducible refine mt_dec (fun _ => ?_) (fun _ => ?_)) <;> (conv => whnf)) | ((with_reducible refine mt_eq (fun _ => ?_) (fun _ => ?_)) <;> (conv => whnf)) | ((with_reducible refine mt_ne (fun _ => ?_) (fun _ => ?_)) <;> (conv => whnf)) | ((with_reducible refine mt_not (fun _ => ?_) (fun _ => ?_)) <;> (conv => whnf)) | ((with_reducible refine mt_any (fun _ => ?_) (fun _ => ?_)) <;> (conv => whnf)))
  · intro z hz
    conv => whnf
    refine ⟨?_, rfl⟩
    subst hz
    rcases hl with hl | hl
    · omega
    · rw [show IntKind.i64.wrap (p.tdiv n - 1) = p.tdiv n - 1 from wrapI (by have := Int.le_ediv_of_mul_le (a := -9223372036854775808) (b := p) hn (by omega); omega)]
      rw [← hl.2.2.1, ← hl.2.2.2]
  · rcases hl with hl | hl
    · rw [← hl.2.1, ← hl.2.2.1]; exact ⟨rfl, rfl⟩
    · omega
end Go.Proofs.Ytpedbknmkgcldaa

namespace Go.Proofs.Ytpedbknmkgcldaa
open Go.Ab Go.RowKit
/-! crashes, as data -/
def padTo (n : Nat) (l : List UInt8) : List UInt8 := l ++ List.replicate (n - l.length) 0
def tornN (safe seen : List UInt8) (p : Int) : Nat := min ((p % (((max safe.length seen.length + 31) / 32 : Nat) + 1 : Int)).toNat * 32) (max safe.length seen.length)
def tornL (safe seen : List UInt8) (p : Int) : List UInt8 :=
  ((padTo (max safe.length seen.length) seen).take (tornN safe seen p) ++ (padTo (max safe.length seen.length) safe).drop (tornN safe seen p)).take seen.length
def headP : List Int → Int
  | [] => 0
  | p :: _ => p
def stepC (f : FD) (picks : List Int) : List UInt8 × List Int :=
  if f.safe = f.seen then (f.seen, picks) else
  (if headP picks % 3 = 0 then f.safe else if headP picks % 3 = 2 then tornL f.safe f.seen (headP picks / 3) else f.seen, picks.tail)
def crashAt (fs : List FD) (picks : List Int) : Nat → List FileS × List Int
  | 0 => ([], picks)
  | k + 1 => match fs[k]? with
    | none => crashAt fs picks k
    | some f => ((crashAt fs picks k).1 ++ [⟨f.name, (stepC f (crashAt fs picks k).2).1⟩], (stepC f (crashAt fs picks k).2).2)
theorem crashAt_succ {fs : List FD} {picks : List Int} {k : Nat} {f : FD} (h : fs[k]? = some f) : crashAt fs picks (k + 1) = ((crashAt fs picks k).1 ++ [⟨f.name, (stepC f (crashAt fs picks k).2).1⟩], (stepC f (crashAt fs picks k).2).2) := by
  simp only [crashAt, h]
theorem crash_length {fs : List FD} {picks : List Int} : ∀ {k : Nat}, k ≤ fs.length → (crashAt fs picks k).1.length = k
  | 0, _ => rfl
  | k + 1, h => by
    rw [crashAt_succ (List.getElem?_eq_getElem (show k < fs.length by omega))]
    simp [crash_length (show k ≤ fs.length by omega)]
theorem step_sub (f : FD) (picks : List Int) : (stepC f picks).2 = picks ∨ (stepC f picks).2 = picks.tail := by
  unfold stepC
  split
  · exact .inl rfl
  · exact .inr rfl
theorem crash_picks {fs : List FD} {picks : List Int} : ∀ {k : Nat}, ∀ x ∈ (crashAt fs picks k).2, x ∈ picks
  | 0, x, h => h
  | k + 1, x, h => by
    cases hf : fs[k]? with
    | none => simp only [crashAt, hf] at h; exact crash_picks x h
    | some f =>
      rw [crashAt_succ hf] at h
      rcases step_sub f (crashAt fs picks k).2 with e | e
      · simp only [e] at h; exact crash_picks x h
      · simp only [e] at h; exact crash_picks x (List.mem_of_mem_tail h)
theorem crash_plen {fs : List FD} {picks : List Int} : ∀ {k : Nat}, (crashAt fs picks k).2.length ≤ picks.length
  | 0 => Nat.le_refl _
  | k + 1 => by
    cases hf : fs[k]? with
    | none => simp only [crashAt, hf]; exact crash_plen
    | some f =>
      rw [crashAt_succ hf]
      rcases step_sub f (crashAt fs picks k).2 with e | e
      · simp only [e]; exact crash_plen
      · simp only [e, List.length_tail]; exact Nat.le_trans (Nat.sub_le _ _) crash_plen
/-- the files by the order of names -/
def pickFs (ss : List ByteArray) (fs : List FD) : List FD := ss.filterMap fun n => getN n fs
theorem pick_names {fs : List FD} : ∀ {ss : List ByteArray}, (∀ n ∈ ss, n ∈ fs.map FD.name) → (pickFs ss fs).map FD.name = ss
  | [], _ => rfl
  | n :: r, h => by
    cases hg : getN n fs with
    | none => exact absurd (h n (by simp)) (getN_not hg)
    | some f =>
      have := pick_names (fs := fs) (ss := r) fun m hm => h m (by simp [hm])
      simp only [pickFs] at this
      simp only [pickFs, List.filterMap_cons, hg, List.map_cons, getN_name hg, this]
theorem getN_mem : ∀ {fs : List FD}, (fs.map FD.name).Nodup → ∀ {f : FD}, f ∈ fs → getN f.name fs = some f
  | [], _, _, h => by simp at h
  | x :: r, hn, f, h => by
    simp only [getN]
    split
    · rename_i he
      exact congrArg some (inj_name hn (by simp) h he.symm)
    · rename_i he
      rcases List.mem_cons.1 h with rfl | h
      · exact absurd rfl he
      · exact getN_mem (List.nodup_cons.1 hn).2 h
theorem pick_self {fs : List FD} (hn : (fs.map FD.name).Nodup) : pickFs (fs.map FD.name) fs = fs := by
  have : ∀ l : List FD, (∀ f ∈ l, f ∈ fs) → pickFs (l.map FD.name) fs = l := by
    intro l
    induction l with
    | nil => intro _; rfl
    | cons x r ih =>
      intro h
      have := ih fun f hf => h f (by simp [hf])
      simp only [pickFs] at this
      simp only [pickFs, List.map_cons, List.filterMap_cons, getN_mem hn (h x (by simp)), this]
  exact this fs fun f hf => hf
theorem pick_perm {ss : List ByteArray} {fs : List FD} (hn : (fs.map FD.name).Nodup) (h : ss.Perm (fs.map FD.name)) : (pickFs ss fs).Perm fs := by
  have := h.filterMap (fun n => getN n fs)
  have e := pick_self hn
  unfold pickFs at e
  rw [e] at this
  exact this
theorem pick_get {ss : List ByteArray} {fs : List FD} (h : ∀ n ∈ ss, n ∈ fs.map FD.name) {k : Nat} {f : FD} (hk : (pickFs ss fs)[k]? = some f) : ss[k]? = some f.name ∧ getN f.name fs = some f := by
  constructor
  · have := congrArg (fun l => l[k]?) (pick_names h)
    simp only [List.getElem?_map, hk, Option.map_some] at this
    exact this.symm
  · have := List.mem_of_getElem? hk
    unfold pickFs at this
    obtain ⟨n, _, hg⟩ := List.mem_filterMap.1 this
    rw [getN_name hg]; exact hg
theorem findF_of_get {n : ByteArray} {d : Dk} {g : FD} (h : getN n d.dat.fs = some g) : ∃ i f, findF n d.fs 0 = some (i, f) ∧ f.dat = g := by
  have := findF_get (n := n) (fs := d.fs) (j := 0)
  rw [show getN n (d.fs.map Fl.dat) = some g from h] at this
  cases hf : findF n d.fs 0 with
  | none => rw [hf] at this; cases this
  | some p => rw [hf] at this; exact ⟨p.1, p.2, rfl, by simpa using this⟩
end Go.Proofs.Ytpedbknmkgcldaa

namespace Go.Proofs.Ytpedbknmkgcldaa
open Go.Ab Go.RowKit Go.MapKept
attribute [local irreducible] ACalls AW ADraw Into
set_option maxRecDepth 100000
abbrev rows2 (l : List (List UInt8)) : List (List DV) := l.map fun x => [.sl 1 (u8s x)]
def longestL (l : List (List UInt8)) : Nat := l.foldl (fun m x => max m x.length) 0
theorem longest_ok (l : List (List UInt8)) (hl : l.length ≤ 1000) : ACalls Try.prog 106 [.d (.sl 1 (rows2 l))] [] (fun av L => av = .d (.int .i64 (longestL l : Nat)) ∧ L = []) := by
  refine acalls_go ttOk zOk foOk Try.func106 rfl Try.ntmps106 rfl false rfl ?_
  conv => whnf
  refine loop_go ttOk zOk foOk (σ := Nat) (fun k => ([(2, .d (.int .i64 (longestL (l.take k) : Nat))), (5, .d (.sl 1 (rows2 l))), (6, .d (.int .i64 (rows2 l).length)), (7, .d (.int .i64 k))], [])) (fun k => k ≤ l.length) (fun k => l.length - k) [2, 5, 6, 7] ?_ ?_
  · conv => whnf
    exact ⟨0, rfl, rfl, by omega⟩
  · rintro k hk
    conv => whnf
    refine sp_dec (fun h => ?_) (fun h => ?_) <;> simp only [rows2, List.length_map] at h
    · conv => whnf
      obtain ⟨a, ha⟩ : ∃ a, l[k]? = some a := ⟨_, List.getElem?_eq_getElem (by omega)⟩
      ((with_reducible refine ix_map ha ?_ ?_); (focus (first | rfl | omega)); (conv => whnf))
      repeat' (first | ((with_reducible apply z_wrap); (focus omega); (conv => whnf)) | ((with_reducible refine mt_dec (fun _ => ?_) (fun _ => ?_)) <;> (conv => whnf)) | ((with_reducible refine mt_eq (fun _ => ?_) (fun _ => ?_)) <;> (conv => whnf)) | ((with_reducible refine mt_ne (fun _ => ?_) (fun _ => ?_)) <;> (conv => whnf)) | ((with_reducible refine mt_not (fun _ => ?_) (fun _ => ?_)) <;> (conv => whnf)) | ((with_reducible refine mt_any (fun _ => ?_) (fun _ => ?_)) <;> (conv => whnf)))
      refine ⟨k + 1, ?_, rfl, by omega, by omega⟩
      have : longestL (l.take (k + 1)) = max (longestL (l.take k)) a.length := by
        rw [List.take_add_one, ha]
        simp [longestL, List.foldl_append]
      rw [this]
      simp only [u8s_length]
      rw [show ((max (longestL (l.take k)) a.length : Nat) : Int) = max ((longestL (l.take k) : Nat) : Int) (a.length : Int) by omega]
      rfl
    · conv => whnf
      obtain rfl : k = l.length := by omega
      rw [List.take_length]
      exact ⟨rfl, rfl⟩
end Go.Proofs.Ytpedbknmkgcldaa

namespace Go.Proofs.Ytpedbknmkgcldaa
open Go.Ab Go.RowKit Go.MapKept
attribute [local irreducible] ACalls AW ADraw Into
set_option maxRecDepth 100000
theorem bclone_row (xs : List UInt8) (hm : xs.length ≤ 140737488355328) : ACalls Try.prog 107 [.d (.sl 1 (u8s xs))] [] (fun av L => av = .arr 0 ∧ L = [.row 5 1 (u8s xs) false]) := by
  refine acalls_go ttOk zOk foOk Try.func107 rfl Try.ntmps107 rfl true rfl ?_
  conv => whnf
  intro b hb
  conv => whnf
  refine sp_any (fun h => ?_) (fun h => ?_)
  · conv => whnf
    exact ⟨rfl, by rw [hb h]⟩
  · conv => whnf
    refine ⟨by simp [u8s]; omega, ?_⟩
    conv => whnf
    exact ⟨rfl, rfl⟩
end Go.Proofs.Ytpedbknmkgcldaa
