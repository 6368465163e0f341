/- ImageAny: for every list of byte slices the law returns true, and its argument reads behind the call as it read before. No condition of ours. -/
import Derived.Test.YtkaepgfmpljlmaaImageAnyCodB
import Derived.Test.YtkaepgfmpljlmaaRows

set_option linter.unusedVariables false
set_option linter.unusedSimpArgs false
namespace Go.Proofs.Ytkaepgfmpljlmaa
open Go.Ab Go.RowKit Go.MapKept
attribute [local irreducible] ACalls AW ADraw Into fltB fnear
set_option maxRecDepth 100000
/-! ## a checkpoint, read -/
def accsOf : List Int → List AccS
  | a :: b :: r => ⟨a, b⟩ :: accsOf r
  | _ => []
def prsOf : List ByteArray → List PairS
  | a :: b :: r => ⟨a, b⟩ :: prsOf r
  | _ => []
theorem accsOf_snoc : ∀ (k : Nat) (l : List Int) (a b : Int), l[2 * k]? = some a → l[2 * k + 1]? = some b → accsOf (l.take (2 * (k + 1))) = accsOf (l.take (2 * k)) ++ [⟨a, b⟩]
  | 0, x :: y :: r, a, b, h1, h2 => by simp at h1 h2; subst h1 h2; simp [accsOf]
  | 0, [], a, b, h1, h2 => by simp at h1
  | 0, [x], a, b, h1, h2 => by simp at h2
  | k + 1, [], a, b, h1, h2 => by simp at h1
  | k + 1, [x], a, b, h1, h2 => by simp at h1
  | k + 1, x :: y :: r, a, b, h1, h2 => by
    have e1 : 2 * (k + 1) = 2 * k + 1 + 1 := by omega
    have e2 : 2 * (k + 1 + 1) = 2 * (k + 1) + 1 + 1 := by omega
    rw [e1] at h1 h2
    simp only [List.getElem?_cons_succ] at h1 h2
    have := accsOf_snoc k r a b h1 h2
    rw [e2, e1] 
    simp only [List.take_succ_cons, accsOf, List.cons_append]
    rw [show 2 * k + 1 + 1 = 2 * (k + 1) by omega, this]
theorem prsOf_snoc : ∀ (k : Nat) (l : List ByteArray) (a b : ByteArray), l[2 * k]? = some a → l[2 * k + 1]? = some b → prsOf (l.take (2 * (k + 1))) = prsOf (l.take (2 * k)) ++ [⟨a, b⟩]
  | 0, x :: y :: r, a, b, h1, h2 => by simp at h1 h2; subst h1 h2; simp [prsOf]
  | 0, [], a, b, h1, h2 => by simp at h1
  | 0, [x], a, b, h1, h2 => by simp at h2
  | k + 1, [], a, b, h1, h2 => by simp at h1
  | k + 1, [x], a, b, h1, h2 => by simp at h1
  | k + 1, x :: y :: r, a, b, h1, h2 => by
    have e1 : 2 * (k + 1) = 2 * k + 1 + 1 := by omega
    have e2 : 2 * (k + 1 + 1) = 2 * (k + 1) + 1 + 1 := by omega
    rw [e1] at h1 h2
    simp only [List.getElem?_cons_succ] at h1 h2
    have := prsOf_snoc k r a b h1 h2
    rw [e2, e1] 
    simp only [List.take_succ_cons, prsOf, List.cons_append]
    rw [show 2 * k + 1 + 1 = 2 * (k + 1) by omega, this]
theorem accsOf_len (l : List Int) : (accsOf l).length ≤ l.length := by
  match l with
  | [] => simp [accsOf]
  | [x] => simp [accsOf]
  | a :: b :: r => have := accsOf_len r; simp [accsOf]; omega
theorem prsOf_len (l : List ByteArray) : (prsOf l).length ≤ l.length := by
  match l with
  | [] => simp [prsOf]
  | [x] => simp [prsOf]
  | a :: b :: r => have := prsOf_len r; simp [prsOf]; omega
theorem equal_ok (a b : List UInt8) : ACalls Try.prog 15 [.d (.sl 1 (u8s a)), .d (.sl 1 (u8s b))] [] (fun av L => av = .d (.bool (decide (a = b))) ∧ L = []) := by
  refine acalls_go ttOk zOk foOk Try.func15 rfl Try.ntmps15 rfl false rfl ?_
  conv => whnf
  refine ⟨a, rfl, ?_⟩
  conv => whnf
  refine ⟨b, rfl, ?_⟩
  conv => whnf
  have h : ∀ x : List UInt8, (⟨x.toArray⟩ : ByteArray).toList = x := fun x => by rw [ByteArray.toList_eq]
  rw [h, h]
  refine ⟨?_, rfl⟩
  congr 2
  rw [Bool.eq_iff_iff]
  simp
def zPt : AV := .agg (pcs (.int .i64 0) .nils (.int .i64 0) .nils .nils .nils (.int .i64 0))
/-- how bytes are read as a checkpoint -/
def Dec (b : List UInt8) (p : Pt) : Prop := ∃ (s0 s1 s2 t0 t1 t2 : ByteArray) (r : List ByteArray) (n0 n1 n2 : Int) (l0 l1 l2 : List Int), listF rtext b = some (s0 :: s1 :: s2 :: t0 :: t1 :: t2 :: r) ∧ r.length % 2 = 0 ∧ (rd1 s0 = some n0 ∧ rd1 s1 = some n1 ∧ rd1 s2 = some n2) ∧ (rdl t0 = some l0 ∧ rdl t1 = some l1 ∧ rdl t2 = some l2) ∧ l2.length % 2 = 0 ∧ p = ⟨⟨n0, l0, n1⟩, prsOf r, accsOf l2, l1, n2⟩
/-- they are not one's bytes -/
def NoP (b : List UInt8) : Prop := ∀ p, Dec b p → ptMay p → putO p.texts = some b → False
/-- what Parse hands back -/
def ParseR (b : List UInt8) (av : AV) : Prop := (∃ p : Pt, p.fit ∧ ptMay p ∧ putO p.texts = some b ∧ Dec b p ∧ av = .tup [p.av, .d (.int .i64 0)]) ∨ (NoP b ∧ av = .tup [zPt, .d (.int .i64 1)])
set_option maxHeartbeats 8000000 in
theorem parse_raw (b : List UInt8) (hb : b.length ≤ 100000) : ACalls Try.prog 5 [.d (.sl 1 (u8s b))] [] (fun av L => ParseR b av ∧ L = []) := by
  have hg := get_ok b (by omega)
  refine acalls_data (post := fun av L => (∃ p : Pt, p.fit ∧ ptMay p ∧ putO p.texts = some b ∧ Dec b p ∧ av = .tup [.agg [.d (.int .i64 p.cur.round), .d (lN p.cur.done), .d (.int .i64 p.cur.count), .arr 0, .arr 1, .d (lN p.seen), .d (.int .i64 p.count)], .d (.int .i64 0)] ∧ L = [.row 57 2 (pairsD p.prs) true, .row 55 2 (accsD p.accs) true]) ∨ (NoP b ∧ av = .tup [zPt, .d (.int .i64 1)] ∧ L = [])) ?_ ?_
  · refine acalls_go ttOk zOk foOk Try.func5 rfl Try.ntmps5 rfl true rfl ?_
    conv => whnf
    refine scope_go ttOk zOk foOk (σ := Unit) (fun _ => ([(2, .ptr 0 0)], [.cells (pcs (.int .i64 0) .nils (.int .i64 0) .nils .nils .nils (.int .i64 0))])) (fun k _ => k = 0 ∧ NoP b) (fun _ _ => 0) ?_ ?_
    · rintro k rest hk _ ⟨rfl, hnp⟩
      have e := Option.some.inj (show some _ = some rest from hk)
      subst e
      clear hk
      conv => whnf
      repeat' (first | ((with_reducible apply rd_intro); (focus (intro K hK; (conv => whnf); first | exact hK | (intro z hz; rw [wrapI (by omega)] at hz; subst hz; exact hK))); (conv => whnf)) | ((with_reducible apply gd_and); (focus ((conv => whnf) <;> first | rfl | (intro K hK; (conv => whnf); first | exact hK | (intro z hz; rw [wrapI (by omega)] at hz; subst hz; exact hK)))); (conv => whnf)) | ((with_reducible apply z_wrap); (focus omega); (conv => whnf)) | ((with_reducible first | apply mt_dec | apply mt_eq | apply mt_ne | apply mt_not | apply mt_any) <;> (intro _; conv => whnf)))
      exact .inr ⟨hnp, rfl, rfl⟩
    · intro pass
      conv => whnf
      repeat' (first | ((with_reducible apply rd_intro); (focus (intro K hK; (conv => whnf); first | exact hK | (intro z hz; rw [wrapI (by omega)] at hz; subst hz; exact hK))); (conv => whnf)) | ((with_reducible apply gd_and); (focus ((conv => whnf) <;> first | rfl | (intro K hK; (conv => whnf); first | exact hK | (intro z hz; rw [wrapI (by omega)] at hz; subst hz; exact hK)))); (conv => whnf)) | ((with_reducible apply z_wrap); (focus omega); (conv => whnf)) | ((with_reducible first | apply mt_dec | apply mt_eq | apply mt_ne | apply mt_not | apply mt_any) <;> (intro _; conv => whnf)))
      refine hg.mono ?_
      rintro _ _ ⟨rfl, rfl⟩
      have hbadI : ∀ L : List AB, L[0]? = L[0]? := fun _ => rfl
      rcases hl : listF rtext b with _ | l
      · rw [show strLR b = _ from (by unfold strLR; rw [hl])]
        conv => whnf
        repeat' (first | ((with_reducible apply rd_intro); (focus (intro K hK; (conv => whnf); first | exact hK | (intro z hz; rw [wrapI (by omega)] at hz; subst hz; exact hK))); (conv => whnf)) | ((with_reducible apply gd_and); (focus ((conv => whnf) <;> first | rfl | (intro K hK; (conv => whnf); first | exact hK | (intro z hz; rw [wrapI (by omega)] at hz; subst hz; exact hK)))); (conv => whnf)) | ((with_reducible apply z_wrap); (focus omega); (conv => whnf)) | ((with_reducible first | apply mt_dec | apply mt_eq | apply mt_ne | apply mt_not | apply mt_any) <;> (intro _; conv => whnf)))
        refine into_of [2] ?_
        conv => whnf
        exact ⟨(), rfl, rfl, rfl, fun p hd _ _ => by
            obtain ⟨s0', s1', s2', t0', t1', t2', r', n0', n1', n2', l0', l1', l2', q1, q2, ⟨q3, q4, q5⟩, ⟨q6, q7, q8⟩, q9, q10⟩ := hd
            rw [hl] at q1; cases q1⟩
      · have hll := listF_len hl
        have hls := listF_all (fun s : ByteArray => s.size ≤ b.length) (fun r h => by have := rtext_len r; exact ⟨by omega, by omega⟩) hl
        have hsl := strs_length l
        rw [show strLR b = _ from (by unfold strLR; rw [hl])]
        conv => whnf
        repeat' (first | ((with_reducible apply rd_intro); (focus (intro K hK; (conv => whnf); first | exact hK | (intro z hz; rw [wrapI (by omega)] at hz; subst hz; exact hK))); (conv => whnf)) | ((with_reducible apply gd_and); (focus ((conv => whnf) <;> first | rfl | (intro K hK; (conv => whnf); first | exact hK | (intro z hz; rw [wrapI (by omega)] at hz; subst hz; exact hK)))); (conv => whnf)) | ((with_reducible apply z_wrap); (focus omega); (conv => whnf)) | ((with_reducible first | apply mt_dec | apply mt_eq | apply mt_ne | apply mt_not | apply mt_any) <;> (intro _; conv => whnf)))
        · rename_i hlt6
          replace hlt6 : (((strs l).length : Nat) : Int) < 6 := hlt6
          refine into_of [2] ?_
          conv => whnf
          exact ⟨(), rfl, rfl, rfl, fun p hd _ _ => by
            obtain ⟨s0', s1', s2', t0', t1', t2', r', n0', n1', n2', l0', l1', l2', q1, q2, ⟨q3, q4, q5⟩, ⟨q6, q7, q8⟩, q9, q10⟩ := hd
            rw [hl] at q1; cases q1
            simp [strs] at hlt6
            omega⟩
        rename_i h6
        replace h6 : ¬ (((strs l).length : Nat) : Int) < 6 := h6
        refine ⟨by decide, ?_⟩
        intro z hz
        replace hz : z = ((l.length % 2 : Nat) : Int) := by
          rw [hz, hsl]; show ((l.length : Nat) : Int).tmod 2 = _; rw [Int.tmod_eq_emod_of_nonneg (by omega)]; omega
        subst hz
        conv => whnf
        repeat' (first | ((with_reducible apply rd_intro); (focus (intro K hK; (conv => whnf); first | exact hK | (intro z hz; rw [wrapI (by omega)] at hz; subst hz; exact hK))); (conv => whnf)) | ((with_reducible apply gd_and); (focus ((conv => whnf) <;> first | rfl | (intro K hK; (conv => whnf); first | exact hK | (intro z hz; rw [wrapI (by omega)] at hz; subst hz; exact hK)))); (conv => whnf)) | ((with_reducible apply z_wrap); (focus omega); (conv => whnf)) | ((with_reducible first | apply mt_dec | apply mt_eq | apply mt_ne | apply mt_not | apply mt_any) <;> (intro _; conv => whnf)))
        · rename_i hodd
          replace hodd : ((l.length % 2 : Nat) : Int) ≠ 0 := hodd
          refine into_of [2] ?_
          conv => whnf
          exact ⟨(), rfl, rfl, rfl, fun p hd _ _ => by
            obtain ⟨s0', s1', s2', t0', t1', t2', r', n0', n1', n2', l0', l1', l2', q1, q2, ⟨q3, q4, q5⟩, ⟨q6, q7, q8⟩, q9, q10⟩ := hd
            rw [hl] at q1; cases q1
            simp at hodd
            omega⟩
        rename_i h2
        replace h2 : ((l.length % 2 : Nat) : Int) = 0 := h2
        obtain ⟨s0, s1, s2, t0, t1, t2, r, rfl⟩ : ∃ s0 s1 s2 t0 t1 t2 r, l = s0 :: s1 :: s2 :: t0 :: t1 :: t2 :: r := by
          match l, hsl, h6 with
          | s0 :: s1 :: s2 :: t0 :: t1 :: t2 :: r, _, _ => exact ⟨s0, s1, s2, t0, t1, t2, r, rfl⟩
          | [], _, h => simp [strs] at h
          | [_], _, h => simp [strs] at h
          | [_, _], _, h => simp [strs] at h
          | [_, _, _], _, h => simp [strs] at h
          | [_, _, _, _], _, h => simp [strs] at h
          | [_, _, _, _, _], _, h => simp [strs] at h
        have hrl : r.length ≤ 100000 := by simp at hll; omega
        have hsz : ∀ s ∈ s0 :: s1 :: s2 :: t0 :: t1 :: t2 :: r, s.size ≤ 100000 := fun s hs => by have := hls s hs; omega
        have hrd := read_ok s0 s1 s2 (t0 :: t1 :: t2 :: r) (by simp; omega) ⟨by have := hsz s0 (by simp); omega, by have := hsz s1 (by simp); omega, by have := hsz s2 (by simp); omega⟩ (.int .i64 0) .nils (.int .i64 0) .nils .nils .nils (.int .i64 0)
        (refine Or.inr ?_; (conv => whnf))
        refine hrd.mono ?_
        rintro _ _ (⟨n0, n1, n2, e0, e1, e2, rfl, rfl⟩ | ⟨hf, rfl, x1, x2, x3, x4, x5, x6, x7, rfl⟩)
        · conv => whnf
          repeat' (first | ((with_reducible apply rd_intro); (focus (intro K hK; (conv => whnf); first | exact hK | (intro z hz; rw [wrapI (by omega)] at hz; subst hz; exact hK))); (conv => whnf)) | ((with_reducible apply gd_and); (focus ((conv => whnf) <;> first | rfl | (intro K hK; (conv => whnf); first | exact hK | (intro z hz; rw [wrapI (by omega)] at hz; subst hz; exact hK)))); (conv => whnf)) | ((with_reducible apply z_wrap); (focus omega); (conv => whnf)) | ((with_reducible first | apply mt_dec | apply mt_eq | apply mt_ne | apply mt_not | apply mt_any) <;> (intro _; conv => whnf)))
          refine ⟨by decide, by show (3 : Int) ≤ ((strs (s0 :: s1 :: s2 :: t0 :: t1 :: t2 :: r)).length : Nat); omega, Int.le_refl _, ?_⟩
          have e3 : ((strs (s0 :: s1 :: s2 :: t0 :: t1 :: t2 :: r)).take (((strs (s0 :: s1 :: s2 :: t0 :: t1 :: t2 :: r)).length : Nat) : Int).toNat).drop (3 : Int).toNat = strs (t0 :: t1 :: t2 :: r) := by
            rw [Int.toNat_natCast, List.take_length]; rfl
          have hls2 := lists_ok t0 t1 t2 r (by omega) ⟨by have := hsz t0 (by simp); omega, by have := hsz t1 (by simp); omega, by have := hsz t2 (by simp); omega⟩ (.int .i64 n0) .nils (.int .i64 n1) .nils .nils .nils (.int .i64 n2) .nils
          rw [← e3] at hls2
          conv => whnf
          repeat' (first | ((with_reducible apply rd_intro); (focus (intro K hK; (conv => whnf); first | exact hK | (intro z hz; rw [wrapI (by omega)] at hz; subst hz; exact hK))); (conv => whnf)) | ((with_reducible apply gd_and); (focus ((conv => whnf) <;> first | rfl | (intro K hK; (conv => whnf); first | exact hK | (intro z hz; rw [wrapI (by omega)] at hz; subst hz; exact hK)))); (conv => whnf)) | ((with_reducible apply z_wrap); (focus omega); (conv => whnf)) | ((with_reducible first | apply mt_dec | apply mt_eq | apply mt_ne | apply mt_not | apply mt_any) <;> (intro _; conv => whnf)))
          (refine Or.inr ?_; (conv => whnf))
          refine hls2.mono ?_
          rintro _ _ (⟨l0, l1, l2, f0, f1, f2, rfl, rfl⟩ | ⟨hf, rfl, x1, x2, x3, x4, x5, x6, x7, x8, rfl⟩)
          · conv => whnf
            repeat' (first | ((with_reducible apply rd_intro); (focus (intro K hK; (conv => whnf); first | exact hK | (intro z hz; rw [wrapI (by omega)] at hz; subst hz; exact hK))); (conv => whnf)) | ((with_reducible apply gd_and); (focus ((conv => whnf) <;> first | rfl | (intro K hK; (conv => whnf); first | exact hK | (intro z hz; rw [wrapI (by omega)] at hz; subst hz; exact hK)))); (conv => whnf)) | ((with_reducible apply z_wrap); (focus omega); (conv => whnf)) | ((with_reducible first | apply mt_dec | apply mt_eq | apply mt_ne | apply mt_not | apply mt_any) <;> (intro _; conv => whnf)))
            have hl0 : l0.length ≤ 100000 := by have h1 := listF_len f0; have h2 := hsz t0 (by simp); simp at h1; omega
            have hl1 : l1.length ≤ 100000 := by have h1 := listF_len f1; have h2 := hsz t1 (by simp); simp at h1; omega
            have hl2 : l2.length ≤ 100000 := by have h1 := listF_len f2; have h2 := hsz t2 (by simp); simp at h1; omega
            have hnl2 := nums_length l2
            refine ⟨by decide, ?_⟩
            intro z hz
            replace hz : z = ((l2.length % 2 : Nat) : Int) := by
              rw [hz]; show (((nums l2).length : Nat) : Int).tmod 2 = _; rw [hnl2, Int.tmod_eq_emod_of_nonneg (by omega)]; omega
            subst hz
            conv => whnf
            repeat' (first | ((with_reducible apply rd_intro); (focus (intro K hK; (conv => whnf); first | exact hK | (intro z hz; rw [wrapI (by omega)] at hz; subst hz; exact hK))); (conv => whnf)) | ((with_reducible apply gd_and); (focus ((conv => whnf) <;> first | rfl | (intro K hK; (conv => whnf); first | exact hK | (intro z hz; rw [wrapI (by omega)] at hz; subst hz; exact hK)))); (conv => whnf)) | ((with_reducible apply z_wrap); (focus omega); (conv => whnf)) | ((with_reducible first | apply mt_dec | apply mt_eq | apply mt_ne | apply mt_not | apply mt_any) <;> (intro _; conv => whnf)))
            · rename_i hodd2
              refine into_of [2] ?_
              conv => whnf
              exact ⟨(), rfl, rfl, rfl, fun p hd _ _ => by
                obtain ⟨s0', s1', s2', t0', t1', t2', r', n0', n1', n2', l0', l1', l2', q1, q2, ⟨q3, q4, q5⟩, ⟨q6, q7, q8⟩, q9, q10⟩ := hd
                rw [hl] at q1; cases q1
                replace hodd2 : ¬ ((l2.length % 2 : Nat) : Int) = 0 := hodd2
                rw [f2] at q8; cases q8
                omega⟩
            rename_i h3
            replace h3 : ((l2.length % 2 : Nat) : Int) = 0 := h3
            refine aw_nilrowC [(1, 3, 57, 2), (1, 4, 55, 2)] rfl ?_
            refine loop_go ttOk zOk foOk (σ := Nat) (fun k => ([(0, .d (.sl 1 (u8s b))), (2, .ptr 0 0), (4, .ptr 1 0), (5, .ptr 2 0), (7, .d (.sl 1 (strs (s0 :: s1 :: s2 :: t0 :: t1 :: t2 :: r)))), (9, .d (.int .i64 ((2 * k : Nat) : Int)))], [.cells (pcs (.int .i64 0) .nils (.int .i64 0) .nils .nils .nils (.int .i64 0)), .cells [.d (.int .i64 n0), .d (lN l0), .d (.int .i64 n1), .arr 3, .arr 4, .d (lN l1), .d (.int .i64 n2)], .cells [.d (lN l2)], .row 57 2 [] false, .row 55 2 (accsD (accsOf (l2.take (2 * k)))) false]))
              (fun k => 2 * k ≤ l2.length) (fun k => l2.length - 2 * k) [0, 2, 4, 5, 7, 9] ?_ ?_
            · conv => whnf
              exact ⟨0, rfl, rfl, Nat.zero_le _⟩
            · intro k hk
              conv => whnf
              repeat' (first | ((with_reducible apply rd_intro); (focus (intro K hK; (conv => whnf); first | exact hK | (intro z hz; rw [wrapI (by omega)] at hz; subst hz; exact hK))); (conv => whnf)) | ((with_reducible apply gd_and); (focus ((conv => whnf) <;> first | rfl | (intro K hK; (conv => whnf); first | exact hK | (intro z hz; rw [wrapI (by omega)] at hz; subst hz; exact hK)))); (conv => whnf)) | ((with_reducible apply z_wrap); (focus omega); (conv => whnf)) | ((with_reducible first | apply mt_dec | apply mt_eq | apply mt_ne | apply mt_not | apply mt_any) <;> (intro _; conv => whnf)))
              · rename_i h4
                replace h4 : ((2 * k : Nat) : Int) < (((nums l2).length : Nat) : Int) := h4
                refine Exists.elim (⟨_, List.getElem?_eq_getElem (by omega)⟩ : ∃ c, l2[2 * k]? = some c) fun x hx => ?_
                refine Exists.elim (⟨_, List.getElem?_eq_getElem (by omega)⟩ : ∃ c, l2[2 * k + 1]? = some c) fun y hy => ?_
                have hal : (accsD (accsOf (l2.take (2 * k)))).length ≤ 100000 := by rw [accsD_length]; have := accsOf_len (l2.take (2 * k)); simp at this; omega
                ((with_reducible refine draw_pl ttOk zOk foOk mixedOk pl5x10 ?_ ?_); (focus kernel_rfl); (conv => whnf))
                repeat' (first | ((with_reducible apply rd_intro); (focus (intro K hK; (conv => whnf); first | exact hK | (intro z hz; rw [wrapI (by omega)] at hz; subst hz; exact hK))); (conv => whnf)) | ((with_reducible apply gd_and); (focus ((conv => whnf) <;> first | rfl | (intro K hK; (conv => whnf); first | exact hK | (intro z hz; rw [wrapI (by omega)] at hz; subst hz; exact hK)))); (conv => whnf)) | ((with_reducible apply z_wrap); (focus omega); (conv => whnf)) | ((with_reducible first | apply mt_dec | apply mt_eq | apply mt_ne | apply mt_not | apply mt_any) <;> (intro _; conv => whnf)))
                ((with_reducible apply rd_intro); (focus (intro K hK; (conv => whnf); exact ⟨by omega, [.int .i64 x], (by rw [Int.toNat_natCast]; exact nums_at hx), hK⟩)); (conv => whnf))
                repeat' (first | ((with_reducible apply rd_intro); (focus (intro K hK; (conv => whnf); first | exact hK | (intro z hz; rw [wrapI (by omega)] at hz; subst hz; exact hK))); (conv => whnf)) | ((with_reducible apply gd_and); (focus ((conv => whnf) <;> first | rfl | (intro K hK; (conv => whnf); first | exact hK | (intro z hz; rw [wrapI (by omega)] at hz; subst hz; exact hK)))); (conv => whnf)) | ((with_reducible apply z_wrap); (focus omega); (conv => whnf)) | ((with_reducible first | apply mt_dec | apply mt_eq | apply mt_ne | apply mt_not | apply mt_any) <;> (intro _; conv => whnf)))
                ((with_reducible apply rd_intro); (focus (intro K hK; (conv => whnf); exact ⟨by omega, [.int .i64 y], (by rw [show (((2 * k : Nat) : Int) + 1).toNat = 2 * k + 1 by omega]; exact nums_at hy), hK⟩)); (conv => whnf))
                repeat' (first | ((with_reducible apply rd_intro); (focus (intro K hK; (conv => whnf); first | exact hK | (intro z hz; rw [wrapI (by omega)] at hz; subst hz; exact hK))); (conv => whnf)) | ((with_reducible apply gd_and); (focus ((conv => whnf) <;> first | rfl | (intro K hK; (conv => whnf); first | exact hK | (intro z hz; rw [wrapI (by omega)] at hz; subst hz; exact hK)))); (conv => whnf)) | ((with_reducible apply z_wrap); (focus omega); (conv => whnf)) | ((with_reducible first | apply mt_dec | apply mt_eq | apply mt_ne | apply mt_not | apply mt_any) <;> (intro _; conv => whnf)))
                refine ⟨by show ((accsD (accsOf (l2.take (2 * k)))).length + 1) * 16 ≤ _; omega, ?_⟩
                conv => whnf
                repeat' (first | ((with_reducible apply rd_intro); (focus (intro K hK; (conv => whnf); first | exact hK | (intro z hz; rw [wrapI (by omega)] at hz; subst hz; exact hK))); (conv => whnf)) | ((with_reducible apply gd_and); (focus ((conv => whnf) <;> first | rfl | (intro K hK; (conv => whnf); first | exact hK | (intro z hz; rw [wrapI (by omega)] at hz; subst hz; exact hK)))); (conv => whnf)) | ((with_reducible apply z_wrap); (focus omega); (conv => whnf)) | ((with_reducible first | apply mt_dec | apply mt_eq | apply mt_ne | apply mt_not | apply mt_any) <;> (intro _; conv => whnf)))
                refine ⟨k + 1, ?_, ?_, by omega, by omega⟩
                · show [_, _, _, _, _, _] = [_, _, _, _, _, (9, AV.d (.int .i64 ((2 * (k + 1) : Nat) : Int)))]
                  rw [show ((2 * (k + 1) : Nat) : Int) = ((2 * k : Nat) : Int) + 2 by omega]
                · rw [accsOf_snoc k l2 x y hx hy]
                  simp only [accsD, List.map_append]
                  rfl
              · rename_i h4
                replace h4 : ¬ ((2 * k : Nat) : Int) < (((nums l2).length : Nat) : Int) := h4
                rw [List.take_of_length_le (by omega)]
                clear hk h4
                have hre : r.length % 2 = 0 := by simp at h2; omega
                refine loop_go ttOk zOk foOk (σ := Nat) (fun k => ([(0, .d (.sl 1 (u8s b))), (2, .ptr 0 0), (4, .ptr 1 0), (7, .d (.sl 1 (strs (s0 :: s1 :: s2 :: t0 :: t1 :: t2 :: r)))), (10, .d (.int .i64 ((6 + 2 * k : Nat) : Int)))], [.cells (pcs (.int .i64 0) .nils (.int .i64 0) .nils .nils .nils (.int .i64 0)), .cells [.d (.int .i64 n0), .d (lN l0), .d (.int .i64 n1), .arr 2, .arr 3, .d (lN l1), .d (.int .i64 n2)], .row 57 2 (pairsD (prsOf (r.take (2 * k)))) false, .row 55 2 (accsD (accsOf l2)) false]))
                  (fun k => 2 * k ≤ r.length) (fun k => r.length - 2 * k) [0, 2, 4, 7, 10] ?_ ?_
                · conv => whnf
                  exact ⟨0, rfl, rfl, Nat.zero_le _⟩
                · clear k
                  intro k hk
                  have hsl2 : (((strs (s0 :: s1 :: s2 :: t0 :: t1 :: t2 :: r)).length : Nat) : Int) = r.length + 6 := by rw [strs_length]; simp only [List.length_cons]; omega
                  conv => whnf
                  repeat' (first | ((with_reducible apply rd_intro); (focus (intro K hK; (conv => whnf); first | exact hK | (intro z hz; rw [wrapI (by omega)] at hz; subst hz; exact hK))); (conv => whnf)) | ((with_reducible apply gd_and); (focus ((conv => whnf) <;> first | rfl | (intro K hK; (conv => whnf); first | exact hK | (intro z hz; rw [wrapI (by omega)] at hz; subst hz; exact hK)))); (conv => whnf)) | ((with_reducible apply z_wrap); (focus omega); (conv => whnf)) | ((with_reducible first | apply mt_dec | apply mt_eq | apply mt_ne | apply mt_not | apply mt_any) <;> (intro _; conv => whnf)))
                  · rename_i h4
                    replace h4 : ((6 + 2 * k : Nat) : Int) < (((strs (s0 :: s1 :: s2 :: t0 :: t1 :: t2 :: r)).length : Nat) : Int) := h4
                    refine Exists.elim (⟨_, List.getElem?_eq_getElem (by omega)⟩ : ∃ c, r[2 * k]? = some c) fun x hx => ?_
                    refine Exists.elim (⟨_, List.getElem?_eq_getElem (by omega)⟩ : ∃ c, r[2 * k + 1]? = some c) fun y hy => ?_
                    have hx6 : (s0 :: s1 :: s2 :: t0 :: t1 :: t2 :: r)[6 + 2 * k]? = some x := by rw [show 6 + 2 * k = 2 * k + 1 + 1 + 1 + 1 + 1 + 1 by omega]; exact hx
                    have hy6 : (s0 :: s1 :: s2 :: t0 :: t1 :: t2 :: r)[6 + 2 * k + 1]? = some y := by rw [show 6 + 2 * k + 1 = 2 * k + 1 + 1 + 1 + 1 + 1 + 1 + 1 by omega]; exact hy
                    have hal : (pairsD (prsOf (r.take (2 * k)))).length ≤ 100000 := by rw [pairsD_length]; have := prsOf_len (r.take (2 * k)); simp at this; omega
                    ((with_reducible refine draw_pl ttOk zOk foOk mixedOk pl5x14 ?_ ?_); (focus kernel_rfl); (conv => whnf))
                    repeat' (first | ((with_reducible apply rd_intro); (focus (intro K hK; (conv => whnf); first | exact hK | (intro z hz; rw [wrapI (by omega)] at hz; subst hz; exact hK))); (conv => whnf)) | ((with_reducible apply gd_and); (focus ((conv => whnf) <;> first | rfl | (intro K hK; (conv => whnf); first | exact hK | (intro z hz; rw [wrapI (by omega)] at hz; subst hz; exact hK)))); (conv => whnf)) | ((with_reducible apply z_wrap); (focus omega); (conv => whnf)) | ((with_reducible first | apply mt_dec | apply mt_eq | apply mt_ne | apply mt_not | apply mt_any) <;> (intro _; conv => whnf)))
                    ((with_reducible apply rd_intro); (focus (intro K hK; (conv => whnf); exact ⟨by omega, [.str x], (by rw [Int.toNat_natCast]; exact strs_at hx6), hK⟩)); (conv => whnf))
                    repeat' (first | ((with_reducible apply rd_intro); (focus (intro K hK; (conv => whnf); first | exact hK | (intro z hz; rw [wrapI (by omega)] at hz; subst hz; exact hK))); (conv => whnf)) | ((with_reducible apply gd_and); (focus ((conv => whnf) <;> first | rfl | (intro K hK; (conv => whnf); first | exact hK | (intro z hz; rw [wrapI (by omega)] at hz; subst hz; exact hK)))); (conv => whnf)) | ((with_reducible apply z_wrap); (focus omega); (conv => whnf)) | ((with_reducible first | apply mt_dec | apply mt_eq | apply mt_ne | apply mt_not | apply mt_any) <;> (intro _; conv => whnf)))
                    ((with_reducible apply rd_intro); (focus (intro K hK; (conv => whnf); exact ⟨by omega, [.str y], (by rw [show (((6 + 2 * k : Nat) : Int) + 1).toNat = 6 + 2 * k + 1 by omega]; exact strs_at hy6), hK⟩)); (conv => whnf))
                    repeat' (first | ((with_reducible apply rd_intro); (focus (intro K hK; (conv => whnf); first | exact hK | (intro z hz; rw [wrapI (by omega)] at hz; subst hz; exact hK))); (conv => whnf)) | ((with_reducible apply gd_and); (focus ((conv => whnf) <;> first | rfl | (intro K hK; (conv => whnf); first | exact hK | (intro z hz; rw [wrapI (by omega)] at hz; subst hz; exact hK)))); (conv => whnf)) | ((with_reducible apply z_wrap); (focus omega); (conv => whnf)) | ((with_reducible first | apply mt_dec | apply mt_eq | apply mt_ne | apply mt_not | apply mt_any) <;> (intro _; conv => whnf)))
                    refine ⟨by show ((pairsD (prsOf (r.take (2 * k)))).length + 1) * 32 ≤ _; omega, ?_⟩
                    conv => whnf
                    repeat' (first | ((with_reducible apply rd_intro); (focus (intro K hK; (conv => whnf); first | exact hK | (intro z hz; rw [wrapI (by omega)] at hz; subst hz; exact hK))); (conv => whnf)) | ((with_reducible apply gd_and); (focus ((conv => whnf) <;> first | rfl | (intro K hK; (conv => whnf); first | exact hK | (intro z hz; rw [wrapI (by omega)] at hz; subst hz; exact hK)))); (conv => whnf)) | ((with_reducible apply z_wrap); (focus omega); (conv => whnf)) | ((with_reducible first | apply mt_dec | apply mt_eq | apply mt_ne | apply mt_not | apply mt_any) <;> (intro _; conv => whnf)))
                    refine ⟨k + 1, ?_, ?_, by omega, by omega⟩
                    · show [_, _, _, _, _] = [_, _, _, _, (10, AV.d (.int .i64 ((6 + 2 * (k + 1) : Nat) : Int)))]
                      rw [show ((6 + 2 * (k + 1) : Nat) : Int) = ((6 + 2 * k : Nat) : Int) + 2 by omega]
                    · rw [prsOf_snoc k r x y hx hy]
                      simp only [pairsD, List.map_append]
                      rfl
                  · rename_i h4
                    replace h4 : ¬ ((6 + 2 * k : Nat) : Int) < (((strs (s0 :: s1 :: s2 :: t0 :: t1 :: t2 :: r)).length : Nat) : Int) := h4
                    rw [List.take_of_length_le (by omega)]
                    clear hk h4
                    obtain ⟨p, hp⟩ : ∃ p : Pt, p = ⟨⟨n0, l0, n1⟩, prsOf r, accsOf l2, l1, n2⟩ := ⟨_, rfl⟩
                    have hfit : p.fit := by
                      rw [hp]
                      exact ⟨by show l0.length ≤ _; omega, by have := prsOf_len r; show (prsOf r).length ≤ _; omega, by have := accsOf_len l2; show (accsOf l2).length ≤ _; omega, by show l1.length ≤ _; omega⟩
                    have hdec : ∀ q : Pt, q = ⟨⟨n0, l0, n1⟩, prsOf r, accsOf l2, l1, n2⟩ → Dec b q := fun q hq => ⟨s0, s1, s2, t0, t1, t2, r, n0, n1, n2, l0, l1, l2, hl, hre, ⟨e0, e1, e2⟩, ⟨f0, f1, f2⟩, by omega, hq⟩
                    have hun : ∀ q, Dec b q → q = p := fun q hd => by
                      obtain ⟨s0', s1', s2', t0', t1', t2', r', n0', n1', n2', l0', l1', l2', q1, q2, ⟨q3, q4, q5⟩, ⟨q6, q7, q8⟩, q9, q10⟩ := hd
                      rw [hl] at q1; cases q1
                      rw [e0] at q3; cases q3
                      rw [e1] at q4; cases q4
                      rw [e2] at q5; cases q5
                      rw [f0] at q6; cases q6
                      rw [f1] at q7; cases q7
                      rw [f2] at q8; cases q8
                      rw [q10, hp]
                    have hby := bytes_ok p hfit
                    rw [hp] at hby
                    refine acalls_deep ?_
                    conv => whnf
                    refine hby.mono ?_
                    rintro _ _ ⟨rfl, rfl⟩
                    by_cases hpm : ptMay p
                    · have hbr : bytesR p = putR p.texts := if_pos hpm
                      rw [← hp, hbr]
                      rcases hpo : putO p.texts with _ | c
                      · rw [putR_none hpo]
                        conv => whnf
                        repeat' (first | ((with_reducible apply rd_intro); (focus (intro K hK; (conv => whnf); first | exact hK | (intro z hz; rw [wrapI (by omega)] at hz; subst hz; exact hK))); (conv => whnf)) | ((with_reducible apply gd_and); (focus ((conv => whnf) <;> first | rfl | (intro K hK; (conv => whnf); first | exact hK | (intro z hz; rw [wrapI (by omega)] at hz; subst hz; exact hK)))); (conv => whnf)) | ((with_reducible apply z_wrap); (focus omega); (conv => whnf)) | ((with_reducible first | apply mt_dec | apply mt_eq | apply mt_ne | apply mt_not | apply mt_any) <;> (intro _; conv => whnf)))
                        refine aw_at (σ := Unit) (fun _ => ([(2, .ptr 0 0)], [.cells (pcs (.int .i64 0) .nils (.int .i64 0) .nils .nils .nils (.int .i64 0))])) (fun _ => True) [2] ?_ ?_
                        · conv => whnf
                          exact ⟨(), rfl, rfl, trivial⟩
                        · intro _ _
                          exact pass 0 _ rfl () ⟨rfl, fun q hd _ hq => by rw [hun q hd, hpo] at hq; cases hq⟩
                      · rw [putR_some hpo]
                        conv => whnf
                        repeat' (first | ((with_reducible apply rd_intro); (focus (intro K hK; (conv => whnf); first | exact hK | (intro z hz; rw [wrapI (by omega)] at hz; subst hz; exact hK))); (conv => whnf)) | ((with_reducible apply gd_and); (focus ((conv => whnf) <;> first | rfl | (intro K hK; (conv => whnf); first | exact hK | (intro z hz; rw [wrapI (by omega)] at hz; subst hz; exact hK)))); (conv => whnf)) | ((with_reducible apply z_wrap); (focus omega); (conv => whnf)) | ((with_reducible first | apply mt_dec | apply mt_eq | apply mt_ne | apply mt_not | apply mt_any) <;> (intro _; conv => whnf)))
                        refine (equal_ok c b).mono ?_
                        rintro _ _ ⟨rfl, rfl⟩
                        conv => whnf
                        repeat' (first | ((with_reducible apply rd_intro); (focus (intro K hK; (conv => whnf); first | exact hK | (intro z hz; rw [wrapI (by omega)] at hz; subst hz; exact hK))); (conv => whnf)) | ((with_reducible apply gd_and); (focus ((conv => whnf) <;> first | rfl | (intro K hK; (conv => whnf); first | exact hK | (intro z hz; rw [wrapI (by omega)] at hz; subst hz; exact hK)))); (conv => whnf)) | ((with_reducible apply z_wrap); (focus omega); (conv => whnf)) | ((with_reducible first | apply mt_dec | apply mt_eq | apply mt_ne | apply mt_not | apply mt_any) <;> (intro _; conv => whnf)))
                        · rename_i h9
                          replace h9 : c = b := h9
                          subst h9
                          subst hp
                          exact .inl ⟨_, hfit, hpm, hpo, hdec _ rfl, rfl, rfl⟩
                        · rename_i h9
                          replace h9 : ¬ c = b := h9
                          refine aw_at (σ := Unit) (fun _ => ([(2, .ptr 0 0)], [.cells (pcs (.int .i64 0) .nils (.int .i64 0) .nils .nils .nils (.int .i64 0))])) (fun _ => True) [2] ?_ ?_
                          · conv => whnf
                            exact ⟨(), rfl, rfl, trivial⟩
                          · intro _ _
                            exact pass 0 _ rfl () ⟨rfl, fun q hd _ hq => by rw [hun q hd, hpo] at hq; cases hq; exact h9 rfl⟩
                    · have hbr : bytesR p = .tup [.d (.sl 1 []), .d (.int .i64 1)] := if_neg hpm
                      rw [← hp, hbr]
                      conv => whnf
                      repeat' (first | ((with_reducible apply rd_intro); (focus (intro K hK; (conv => whnf); first | exact hK | (intro z hz; rw [wrapI (by omega)] at hz; subst hz; exact hK))); (conv => whnf)) | ((with_reducible apply gd_and); (focus ((conv => whnf) <;> first | rfl | (intro K hK; (conv => whnf); first | exact hK | (intro z hz; rw [wrapI (by omega)] at hz; subst hz; exact hK)))); (conv => whnf)) | ((with_reducible apply z_wrap); (focus omega); (conv => whnf)) | ((with_reducible first | apply mt_dec | apply mt_eq | apply mt_ne | apply mt_not | apply mt_any) <;> (intro _; conv => whnf)))
                      refine aw_at (σ := Unit) (fun _ => ([(2, .ptr 0 0)], [.cells (pcs (.int .i64 0) .nils (.int .i64 0) .nils .nils .nils (.int .i64 0))])) (fun _ => True) [2] ?_ ?_
                      · conv => whnf
                        exact ⟨(), rfl, rfl, trivial⟩
                      · intro _ _
                        exact pass 0 _ rfl () ⟨rfl, fun q hd hq _ => hpm (by rw [← hun q hd]; exact hq)⟩
          · conv => whnf
            repeat' (first | ((with_reducible apply rd_intro); (focus (intro K hK; (conv => whnf); first | exact hK | (intro z hz; rw [wrapI (by omega)] at hz; subst hz; exact hK))); (conv => whnf)) | ((with_reducible apply gd_and); (focus ((conv => whnf) <;> first | rfl | (intro K hK; (conv => whnf); first | exact hK | (intro z hz; rw [wrapI (by omega)] at hz; subst hz; exact hK)))); (conv => whnf)) | ((with_reducible apply z_wrap); (focus omega); (conv => whnf)) | ((with_reducible first | apply mt_dec | apply mt_eq | apply mt_ne | apply mt_not | apply mt_any) <;> (intro _; conv => whnf)))
            refine into_of [2] ?_
            conv => whnf
            exact ⟨(), rfl, rfl, rfl, fun p hd _ _ => by
              obtain ⟨s0', s1', s2', t0', t1', t2', r', n0', n1', n2', l0', l1', l2', q1, q2, ⟨q3, q4, q5⟩, ⟨q6, q7, q8⟩, q9, q10⟩ := hd
              rw [hl] at q1; cases q1
              rcases hf with h | h | h
              · rw [h] at q6; cases q6
              · rw [h] at q7; cases q7
              · rw [h] at q8; cases q8⟩
        · conv => whnf
          repeat' (first | ((with_reducible apply rd_intro); (focus (intro K hK; (conv => whnf); first | exact hK | (intro z hz; rw [wrapI (by omega)] at hz; subst hz; exact hK))); (conv => whnf)) | ((with_reducible apply gd_and); (focus ((conv => whnf) <;> first | rfl | (intro K hK; (conv => whnf); first | exact hK | (intro z hz; rw [wrapI (by omega)] at hz; subst hz; exact hK)))); (conv => whnf)) | ((with_reducible apply z_wrap); (focus omega); (conv => whnf)) | ((with_reducible first | apply mt_dec | apply mt_eq | apply mt_ne | apply mt_not | apply mt_any) <;> (intro _; conv => whnf)))
          refine into_of [2] ?_
          conv => whnf
          exact ⟨(), rfl, rfl, rfl, fun p hd _ _ => by
            obtain ⟨s0', s1', s2', t0', t1', t2', r', n0', n1', n2', l0', l1', l2', q1, q2, ⟨q3, q4, q5⟩, ⟨q6, q7, q8⟩, q9, q10⟩ := hd
            rw [hl] at q1; cases q1
            rcases hf with h | h | h
            · rw [h] at q3; cases q3
            · rw [h] at q4; cases q4
            · rw [h] at q5; cases q5⟩
  · rintro av L (⟨p, h1, h2, h3, h4, rfl, rfl⟩ | ⟨hnp, rfl, rfl⟩)
    · conv => whnf
      exact ⟨.inl ⟨p, h1, h2, h3, h4, rfl⟩, rfl⟩
    · conv => whnf
      exact ⟨.inr ⟨hnp, rfl⟩, rfl⟩
end Go.Proofs.Ytkaepgfmpljlmaa

namespace Go.Proofs.Ytkaepgfmpljlmaa
open Go.Ab Go.RowKit Go.MapKept
attribute [local irreducible] ACalls AW ADraw Into fltB fnear
set_option maxRecDepth 100000
/-! ## what was refused -/
theorem num24_ok (e : Int) : ACalls Try.prog 7 [.d (.int .i64 e)] [] (fun av L => av = .d (.int .i64 e) ∧ L = []) := by
  refine acalls_go ttOk zOk foOk Try.func7 rfl Try.ntmps7 rfl false rfl ?_
  conv => whnf
  exact ⟨rfl, rfl⟩
def zTab : AV := .agg [.d .nils, .d .nils]
def zExec : AV := .agg [.d .nils, .d .nils, .d .nils, .d (.int .i64 0)]
def zCur : AV := .agg [.d (.int .i64 0), .d .nils, .d (.int .i64 0)]
theorem eqPairs0 : ACalls Try.prog 42 [.d (.sl 2 []), .d (.sl 2 [])] [] (fun av L => av = .d (.bool true) ∧ L = []) := by
  refine acalls_go ttOk zOk foOk Try.func42 rfl Try.ntmps42 rfl false rfl ?_
  conv => whnf
  repeat' (first | ((with_reducible apply z_wrap); (focus omega); (conv => whnf)) | ((with_reducible first | apply mt_dec | apply mt_eq | apply mt_ne | apply mt_not | apply mt_any) <;> (intro _; conv => whnf)))
  refine loop_go ttOk zOk foOk (σ := Unit) (fun k => ([(0, .d (.sl 2 [])), (5, .d (.int .i64 0))], [])) (fun k => True) (fun k => 0) [0, 5] ?_ ?_
  · conv => whnf
    exact ⟨(), rfl, rfl, trivial⟩
  · rintro k -
    conv => whnf
    repeat' (first | ((with_reducible apply z_wrap); (focus omega); (conv => whnf)) | ((with_reducible first | apply mt_dec | apply mt_eq | apply mt_ne | apply mt_not | apply mt_any) <;> (intro _; conv => whnf)))
    exact ⟨rfl, rfl⟩
theorem eqAccs0 : ACalls Try.prog 43 [.d (.sl 2 []), .d (.sl 2 [])] [] (fun av L => av = .d (.bool true) ∧ L = []) := by
  refine acalls_go ttOk zOk foOk Try.func43 rfl Try.ntmps43 rfl false rfl ?_
  conv => whnf
  repeat' (first | ((with_reducible apply z_wrap); (focus omega); (conv => whnf)) | ((with_reducible first | apply mt_dec | apply mt_eq | apply mt_ne | apply mt_not | apply mt_any) <;> (intro _; conv => whnf)))
  refine loop_go ttOk zOk foOk (σ := Unit) (fun k => ([(0, .d (.sl 2 [])), (5, .d (.int .i64 0))], [])) (fun k => True) (fun k => 0) [0, 5] ?_ ?_
  · conv => whnf
    exact ⟨(), rfl, rfl, trivial⟩
  · rintro k -
    conv => whnf
    repeat' (first | ((with_reducible apply z_wrap); (focus omega); (conv => whnf)) | ((with_reducible first | apply mt_dec | apply mt_eq | apply mt_ne | apply mt_not | apply mt_any) <;> (intro _; conv => whnf)))
    exact ⟨rfl, rfl⟩
theorem eqTab0 : ACalls Try.prog 29 [zTab, zTab] [] (fun av L => av = .d (.bool true) ∧ L = []) := by
  refine acalls_go ttOk zOk foOk Try.func29 rfl Try.ntmps29 rfl false rfl ?_
  conv => whnf
  repeat' (first | ((with_reducible apply z_wrap); (focus omega); (conv => whnf)) | ((with_reducible first | apply mt_dec | apply mt_eq | apply mt_ne | apply mt_not | apply mt_any) <;> (intro _; conv => whnf)))
  refine eqPairs0.mono ?_
  rintro _ _ ⟨rfl, rfl⟩
  conv => whnf
  repeat' (first | ((with_reducible apply z_wrap); (focus omega); (conv => whnf)) | ((with_reducible first | apply mt_dec | apply mt_eq | apply mt_ne | apply mt_not | apply mt_any) <;> (intro _; conv => whnf)))
  refine eqAccs0.mono ?_
  rintro _ _ ⟨rfl, rfl⟩
  conv => whnf
  exact ⟨rfl, rfl⟩
theorem eqNums0 : ACalls Try.prog 28 [.d (.sl 1 []), .d (.sl 1 [])] [] (fun av L => av = .d (.bool true) ∧ L = []) := eqNumbers_ok [] [] (by simp [few])
theorem eqExec0 : ACalls Try.prog 17 [zExec, zExec] [] (fun av L => av = .d (.bool true) ∧ L = []) := by
  refine acalls_go ttOk zOk foOk Try.func17 rfl Try.ntmps17 rfl false rfl ?_
  conv => whnf
  repeat' (first | ((with_reducible apply z_wrap); (focus omega); (conv => whnf)) | ((with_reducible first | apply mt_dec | apply mt_eq | apply mt_ne | apply mt_not | apply mt_any) <;> (intro _; conv => whnf)))
  refine eqTab0.mono ?_
  rintro _ _ ⟨rfl, rfl⟩
  conv => whnf
  repeat' (first | ((with_reducible apply z_wrap); (focus omega); (conv => whnf)) | ((with_reducible first | apply mt_dec | apply mt_eq | apply mt_ne | apply mt_not | apply mt_any) <;> (intro _; conv => whnf)))
  refine eqNums0.mono ?_
  rintro _ _ ⟨rfl, rfl⟩
  conv => whnf
  repeat' (first | ((with_reducible apply z_wrap); (focus omega); (conv => whnf)) | ((with_reducible first | apply mt_dec | apply mt_eq | apply mt_ne | apply mt_not | apply mt_any) <;> (intro _; conv => whnf)))
  exact ⟨rfl, rfl⟩
theorem eqCur0 : ACalls Try.prog 16 [zCur, zCur] [] (fun av L => av = .d (.bool true) ∧ L = []) := by
  refine acalls_go ttOk zOk foOk Try.func16 rfl Try.ntmps16 rfl false rfl ?_
  conv => whnf
  repeat' (first | ((with_reducible apply z_wrap); (focus omega); (conv => whnf)) | ((with_reducible first | apply mt_dec | apply mt_eq | apply mt_ne | apply mt_not | apply mt_any) <;> (intro _; conv => whnf)))
  refine eqNums0.mono ?_
  rintro _ _ ⟨rfl, rfl⟩
  conv => whnf
  repeat' (first | ((with_reducible apply z_wrap); (focus omega); (conv => whnf)) | ((with_reducible first | apply mt_dec | apply mt_eq | apply mt_ne | apply mt_not | apply mt_any) <;> (intro _; conv => whnf)))
  exact ⟨rfl, rfl⟩
theorem eqPoint0 : ACalls Try.prog 8 [zPt, zPt] [] (fun av L => av = .d (.bool true) ∧ L = []) := by
  refine acalls_go ttOk zOk foOk Try.func8 rfl Try.ntmps8 rfl false rfl ?_
  conv => whnf
  repeat' (first | ((with_reducible apply z_wrap); (focus omega); (conv => whnf)) | ((with_reducible first | apply mt_dec | apply mt_eq | apply mt_ne | apply mt_not | apply mt_any) <;> (intro _; conv => whnf)))
  refine eqCur0.mono ?_
  rintro _ _ ⟨rfl, rfl⟩
  conv => whnf
  repeat' (first | ((with_reducible apply z_wrap); (focus omega); (conv => whnf)) | ((with_reducible first | apply mt_dec | apply mt_eq | apply mt_ne | apply mt_not | apply mt_any) <;> (intro _; conv => whnf)))
  refine eqExec0.mono ?_
  rintro _ _ ⟨rfl, rfl⟩
  conv => whnf
  exact ⟨rfl, rfl⟩
/-! ## the wake -/
def p4 : Pt := ⟨⟨4, [], 0⟩, [], [], [], 0⟩
def b4 : List UInt8 := [6, 1, 4, 1, 0, 1, 0, 1, 0, 1, 0, 1, 0]
theorem put4 : putO p4.texts = some b4 := by kernel_rfl
theorem may4 : ptMay p4 :=
  ⟨⟨⟨by decide, by decide, by decide⟩, ⟨List.Pairwise.nil, fun x h => (by cases h)⟩, ⟨by decide, by decide⟩⟩,
   ⟨⟨⟨Nat.zero_le _, fun i p h => (by simp [p4] at h)⟩, ⟨Nat.zero_le _, fun i p h => (by simp [p4] at h)⟩⟩, fun x h => (by cases h), List.nodup_nil, ⟨by decide, by decide⟩⟩⟩
theorem dec4 : Dec b4 p4 := ⟨⟨#[4]⟩, ⟨#[0]⟩, ⟨#[0]⟩, ⟨#[0]⟩, ⟨#[0]⟩, ⟨#[0]⟩, [], 4, 0, 0, [], [], [], by kernel_rfl, rfl, ⟨by kernel_rfl, by kernel_rfl, by kernel_rfl⟩, ⟨by kernel_rfl, by kernel_rfl, by kernel_rfl⟩, rfl, rfl⟩
theorem dec_one {b : List UInt8} {p q : Pt} (hp : Dec b p) (hq : Dec b q) : p = q := by
  obtain ⟨s0, s1, s2, t0, t1, t2, r, n0, n1, n2, l0, l1, l2, hl, hre, ⟨e0, e1, e2⟩, ⟨f0, f1, f2⟩, he, rfl⟩ := hp
  obtain ⟨s0', s1', s2', t0', t1', t2', r', n0', n1', n2', l0', l1', l2', q1, q2, ⟨q3, q4, q5⟩, ⟨q6, q7, q8⟩, q9, rfl⟩ := hq
  rw [hl] at q1; cases q1
  rw [e0] at q3; cases q3
  rw [e1] at q4; cases q4
  rw [e2] at q5; cases q5
  rw [f0] at q6; cases q6
  rw [f1] at q7; cases q7
  rw [f2] at q8; cases q8
  rfl
theorem fit4 : p4.fit := ⟨Nat.zero_le _, Nat.zero_le _, Nat.zero_le _, Nat.zero_le _⟩
theorem bytes4 : ACalls Try.prog 9 [.agg [.d (.int .i64 4), .d .nils, .d (.int .i64 0), .d .nils, .d .nils, .d .nils, .d (.int .i64 0)]] [] (fun av L => av = .tup [.d (.sl 1 (u8s b4)), .d (.int .i64 0)] ∧ L = []) := by
  have h := bytes_ok p4 fit4
  rw [show bytesR p4 = .tup [.d (.sl 1 (u8s b4)), .d (.int .i64 0)] from (if_pos may4).trans (putR_some put4)] at h
  exact acalls_nw h (.cons (.agg (.cons (.refl _) (.cons (.nils 1 (by decide)) (.cons (.refl _) (.cons (.nils 2 (by decide)) (.cons (.nils 2 (by decide)) (.cons (.nils 1 (by decide)) (.cons (.refl _) .nil)))))))) .nil)
theorem wakes24 : ACalls Try.prog 11 [] [] (fun av L => av = .d (.bool true) ∧ L = []) := by
  have hp := parse_raw b4 (by decide)
  have h0 := num24_ok 0
  refine acalls_go ttOk zOk foOk Try.func11 rfl Try.ntmps11 rfl false rfl ?_
  conv => whnf
  repeat' (first | ((with_reducible apply z_wrap); (focus omega); (conv => whnf)) | ((with_reducible first | apply mt_dec | apply mt_eq | apply mt_ne | apply mt_not | apply mt_any) <;> (intro _; conv => whnf)))
  refine bytes4.mono ?_
  rintro _ _ ⟨rfl, rfl⟩
  conv => whnf
  repeat' (first | ((with_reducible apply z_wrap); (focus omega); (conv => whnf)) | ((with_reducible first | apply mt_dec | apply mt_eq | apply mt_ne | apply mt_not | apply mt_any) <;> (intro _; conv => whnf)))
  refine hp.mono ?_
  rintro _ _ ⟨⟨p, h1, h2, h3, h4, rfl⟩ | ⟨hn, rfl⟩, rfl⟩
  · obtain rfl := dec_one h4 dec4
    conv => whnf
    repeat' (first | ((with_reducible apply z_wrap); (focus omega); (conv => whnf)) | ((with_reducible first | apply mt_dec | apply mt_eq | apply mt_ne | apply mt_not | apply mt_any) <;> (intro _; conv => whnf)))
    refine h0.mono ?_
    rintro _ _ ⟨rfl, rfl⟩
    conv => whnf
    repeat' (first | ((with_reducible apply z_wrap); (focus omega); (conv => whnf)) | ((with_reducible first | apply mt_dec | apply mt_eq | apply mt_ne | apply mt_not | apply mt_any) <;> (intro _; conv => whnf)))
    refine h0.mono ?_
    rintro _ _ ⟨rfl, rfl⟩
    conv => whnf
    repeat' (first | ((with_reducible apply z_wrap); (focus omega); (conv => whnf)) | ((with_reducible first | apply mt_dec | apply mt_eq | apply mt_ne | apply mt_not | apply mt_any) <;> (intro _; conv => whnf)))
    exact ⟨rfl, rfl⟩
  · exact (hn p4 dec4 may4 put4).elim
end Go.Proofs.Ytkaepgfmpljlmaa

namespace Go.Proofs.Ytkaepgfmpljlmaa
open Go.Ab Go.RowKit Go.MapKept
attribute [local irreducible] ACalls AW ADraw Into fltB fnear
set_option maxRecDepth 100000
theorem copyBytes_ok (xs : List UInt8) (hm : xs.length ≤ 140737488355328) : ACalls Try.prog 4 [.d (.sl 1 (u8s xs))] [] (fun av L => av = .d (.sl 1 (u8s xs)) ∧ L = []) := by
  refine acalls_go ttOk zOk foOk Try.func4 rfl Try.ntmps4 rfl false rfl ?_
  conv => whnf
  refine loop_go ttOk zOk foOk (σ := Nat) (fun k => ([(0, .d (.sl 1 (u8s xs))), (3, .arr 0), (4, .d (.int .i64 k))], [.row 5 1 (u8s (xs.take k)) false])) (fun k => k ≤ xs.length) (fun k => xs.length - k) [0, 3, 4] ?_ ?_
  · conv => whnf
    exact ⟨0, rfl, rfl, by omega⟩
  · rintro k hk
    conv => whnf
    ((with_reducible refine mt_dec (fun _ => ?_) (fun _ => ?_)) <;> (conv => whnf))
    · rename_i h
      simp only [u8s_length] at h
      obtain ⟨a, ha⟩ : ∃ a, xs[k]? = some a := ⟨_, List.getElem?_eq_getElem (by omega)⟩
      ((with_reducible refine ix_u8 ha ?_ ?_); (focus (first | rfl | omega)); (conv => whnf))
      refine ⟨by simp [u8s]; omega, ?_⟩
      conv => whnf
      repeat' (first | ((with_reducible apply rd_intro); (focus (intro K hK; (conv => whnf); first | exact hK | (intro z hz; rw [wrapI (by omega)] at hz; subst hz; exact hK))); (conv => whnf)) | ((with_reducible apply gd_and); (focus ((conv => whnf) <;> first | rfl | (intro K hK; (conv => whnf); first | exact hK | (intro z hz; rw [wrapI (by omega)] at hz; subst hz; exact hK)))); (conv => whnf)) | ((with_reducible apply z_wrap); (focus omega); (conv => whnf)) | ((with_reducible first | apply mt_dec | apply mt_eq | apply mt_ne | apply mt_not | apply mt_any) <;> (intro _; conv => whnf)))
      refine ⟨k + 1, rfl, ?_, by omega, by omega⟩
      rw [List.take_add_one, ha]
      simp [u8s]
    · rename_i h
      simp only [u8s_length] at h
      obtain rfl : k = xs.length := by omega
      exact ⟨by simp, by simp⟩
theorem eqBytes_ok (xs ys : List UInt8) (hm : xs.length ≤ 140737488355328) : ACalls Try.prog 6 [.d (.sl 1 (u8s xs)), .d (.sl 1 (u8s ys))] [] (fun av L => av = .d (.bool (xs == ys)) ∧ L = []) := by
  refine acalls_go ttOk zOk foOk Try.func6 rfl Try.ntmps6 rfl false rfl ?_
  conv => whnf
  ((with_reducible refine mt_ne (fun _ => ?_) (fun _ => ?_)) <;> (conv => whnf))
  · rename_i h
    simp only [u8s_length] at h
    have : (xs == ys) = false := by rw [beq_eq_false_iff_ne]; intro e; exact h (by rw [e])
    rw [this]; exact ⟨rfl, rfl⟩
  · rename_i h
    simp only [u8s_length] at h
    have hl : xs.length = ys.length := by omega
    refine loop_go ttOk zOk foOk (σ := Nat) (fun k => ([(0, .d (.sl 1 (u8s xs))), (1, .d (.sl 1 (u8s ys))), (5, .d (.int .i64 k))], [])) (fun k => k ≤ xs.length ∧ xs.take k = ys.take k) (fun k => xs.length - k) [0, 1, 5] ?_ ?_
    · conv => whnf
      exact ⟨0, rfl, rfl, by simp⟩
    · rintro k ⟨hk, he⟩
      conv => whnf
      ((with_reducible refine mt_dec (fun _ => ?_) (fun _ => ?_)) <;> (conv => whnf))
      · rename_i h
        simp only [u8s_length] at h
        obtain ⟨a, ha⟩ : ∃ a, xs[k]? = some a := ⟨_, List.getElem?_eq_getElem (by omega)⟩
        obtain ⟨b, hb⟩ : ∃ b, ys[k]? = some b := ⟨_, List.getElem?_eq_getElem (by omega)⟩
        ((with_reducible refine draw_pl ttOk zOk foOk mixedOk pl6x6 ?_ ?_); (focus kernel_rfl); (conv => whnf))
        repeat' (first | ((with_reducible apply rd_intro); (focus (intro K hK; (conv => whnf); first | exact hK | (intro z hz; rw [wrapI (by omega)] at hz; subst hz; exact hK))); (conv => whnf)) | ((with_reducible apply gd_and); (focus ((conv => whnf) <;> first | rfl | (intro K hK; (conv => whnf); first | exact hK | (intro z hz; rw [wrapI (by omega)] at hz; subst hz; exact hK)))); (conv => whnf)) | ((with_reducible apply z_wrap); (focus omega); (conv => whnf)) | ((with_reducible first | apply mt_dec | apply mt_eq | apply mt_ne | apply mt_not | apply mt_any) <;> (intro _; conv => whnf)))
        ((with_reducible apply rd_intro); (focus (intro K hK; (conv => whnf); exact ix_u8 ha (by first | rfl | omega) hK)); (conv => whnf))
        repeat' (first | ((with_reducible apply rd_intro); (focus (intro K hK; (conv => whnf); first | exact hK | (intro z hz; rw [wrapI (by omega)] at hz; subst hz; exact hK))); (conv => whnf)) | ((with_reducible apply gd_and); (focus ((conv => whnf) <;> first | rfl | (intro K hK; (conv => whnf); first | exact hK | (intro z hz; rw [wrapI (by omega)] at hz; subst hz; exact hK)))); (conv => whnf)) | ((with_reducible apply z_wrap); (focus omega); (conv => whnf)) | ((with_reducible first | apply mt_dec | apply mt_eq | apply mt_ne | apply mt_not | apply mt_any) <;> (intro _; conv => whnf)))
        ((with_reducible apply rd_intro); (focus (intro K hK; (conv => whnf); exact ix_u8 hb (by first | rfl | omega) hK)); (conv => whnf))
        repeat' (first | ((with_reducible apply rd_intro); (focus (intro K hK; (conv => whnf); first | exact hK | (intro z hz; rw [wrapI (by omega)] at hz; subst hz; exact hK))); (conv => whnf)) | ((with_reducible apply gd_and); (focus ((conv => whnf) <;> first | rfl | (intro K hK; (conv => whnf); first | exact hK | (intro z hz; rw [wrapI (by omega)] at hz; subst hz; exact hK)))); (conv => whnf)) | ((with_reducible apply z_wrap); (focus omega); (conv => whnf)) | ((with_reducible first | apply mt_dec | apply mt_eq | apply mt_ne | apply mt_not | apply mt_any) <;> (intro _; conv => whnf)))
        · rename_i h
          have h2 : a ≠ b := by intro e; rw [e] at h; exact h rfl
          have : (xs == ys) = false := by rw [beq_eq_false_iff_ne]; intro e; subst e; rw [ha] at hb; cases hb; exact h2 rfl
          rw [this]; exact ⟨rfl, rfl⟩
        · rename_i h
          have h2 : a = b := UInt8.toNat_inj.1 (by omega)
          exact ⟨k + 1, rfl, rfl, ⟨by omega, (take_succ_eq ha hb he).2 h2⟩, by omega⟩
      · rename_i h
        simp only [u8s_length] at h
        obtain rfl : k = xs.length := by omega
        have : (xs == ys) = true := by rw [List.take_length, hl, List.take_length] at he; simp [he]
        rw [this]; exact ⟨rfl, rfl⟩
/-! ## ImageAny -/
def rowsB (l : List (List UInt8)) : List (List DV) := l.map fun x => [.sl 1 (u8s x)]
theorem rowsB_length (l : List (List UInt8)) : (rowsB l).length = l.length := List.length_map ..
theorem rowsB_at {l : List (List UInt8)} {k : Nat} {a : List UInt8} (h : l[k]? = some a) : (rowsB l)[k]? = some [.sl 1 (u8s a)] := by simp [rowsB, h]
set_option maxHeartbeats 4000000 in
theorem imageAny_ok (l : List (List UInt8)) (hl : l.length ≤ 140737488355328) : ACalls Try.prog 3 [.d (.sl 1 (rowsB l))] [] (fun av L => av = .d (.bool true) ∧ L = []) := by
  have hrl := rowsB_length l
  refine acalls_go ttOk zOk foOk Try.func3 rfl Try.ntmps3 rfl false rfl ?_
  conv => whnf
  refine loop_go ttOk zOk foOk (σ := Nat) (fun j => ([(0, .d (.sl 1 (rowsB l))), (3, .d (.int .i64 j))], [])) (fun j => j ≤ 20) (fun j => 20 - j) [0, 3] ?_ ?_
  · conv => whnf
    exact ⟨0, rfl, rfl, Nat.zero_le _⟩
  · intro j hj
    conv => whnf
    repeat' (first | ((with_reducible apply rd_intro); (focus (intro K hK; (conv => whnf); first | exact hK | (intro z hz; rw [wrapI (by omega)] at hz; subst hz; exact hK))); (conv => whnf)) | ((with_reducible apply gd_and); (focus ((conv => whnf) <;> first | rfl | (intro K hK; (conv => whnf); first | exact hK | (intro z hz; rw [wrapI (by omega)] at hz; subst hz; exact hK)))); (conv => whnf)) | ((with_reducible apply z_wrap); (focus omega); (conv => whnf)) | ((with_reducible first | apply mt_dec | apply mt_eq | apply mt_ne | apply mt_not | apply mt_any) <;> (intro _; conv => whnf)))
    · rename_i e1 e2
      replace e1 : (j : Int) < (((rowsB l).length : Nat) : Int) := e1
      replace e2 : (j : Int) < 20 := e2
      refine Exists.elim (⟨_, List.getElem?_eq_getElem (by omega)⟩ : ∃ c, l[j]? = some c) fun x hx => ?_
      have hux : (u8s x).length = x.length := u8s_length _
      refine ⟨by omega, [.sl 1 (u8s x)], rowsB_at hx, ?_⟩
      conv => whnf
      repeat' (first | ((with_reducible apply rd_intro); (focus (intro K hK; (conv => whnf); first | exact hK | (intro z hz; rw [wrapI (by omega)] at hz; subst hz; exact hK))); (conv => whnf)) | ((with_reducible apply gd_and); (focus ((conv => whnf) <;> first | rfl | (intro K hK; (conv => whnf); first | exact hK | (intro z hz; rw [wrapI (by omega)] at hz; subst hz; exact hK)))); (conv => whnf)) | ((with_reducible apply z_wrap); (focus omega); (conv => whnf)) | ((with_reducible first | apply mt_dec | apply mt_eq | apply mt_ne | apply mt_not | apply mt_any) <;> (intro _; conv => whnf)))
      · exact ⟨rfl, rfl⟩
      rename_i e3
      replace e3 : ¬ (((u8s x).length : Nat) : Int) > 4000 := e3
      have hcp := copyBytes_ok x (by omega)
      have heq := eqBytes_ok x x (by omega)
      rw [show (x == x) = true by simp] at heq
      have hpa := parse_raw x (by omega)
      refine ⟨by omega, [.sl 1 (u8s x)], rowsB_at hx, ?_⟩
      conv => whnf
      repeat' (first | ((with_reducible apply rd_intro); (focus (intro K hK; (conv => whnf); first | exact hK | (intro z hz; rw [wrapI (by omega)] at hz; subst hz; exact hK))); (conv => whnf)) | ((with_reducible apply gd_and); (focus ((conv => whnf) <;> first | rfl | (intro K hK; (conv => whnf); first | exact hK | (intro z hz; rw [wrapI (by omega)] at hz; subst hz; exact hK)))); (conv => whnf)) | ((with_reducible apply z_wrap); (focus omega); (conv => whnf)) | ((with_reducible first | apply mt_dec | apply mt_eq | apply mt_ne | apply mt_not | apply mt_any) <;> (intro _; conv => whnf)))
      refine hcp.mono ?_
      rintro _ _ ⟨rfl, rfl⟩
      conv => whnf
      repeat' (first | ((with_reducible apply rd_intro); (focus (intro K hK; (conv => whnf); first | exact hK | (intro z hz; rw [wrapI (by omega)] at hz; subst hz; exact hK))); (conv => whnf)) | ((with_reducible apply gd_and); (focus ((conv => whnf) <;> first | rfl | (intro K hK; (conv => whnf); first | exact hK | (intro z hz; rw [wrapI (by omega)] at hz; subst hz; exact hK)))); (conv => whnf)) | ((with_reducible apply z_wrap); (focus omega); (conv => whnf)) | ((with_reducible first | apply mt_dec | apply mt_eq | apply mt_ne | apply mt_not | apply mt_any) <;> (intro _; conv => whnf)))
      refine hpa.mono ?_
      rintro _ _ ⟨⟨p, h1, h2, h3, h4, rfl⟩ | ⟨hn, rfl⟩, rfl⟩
      · conv => whnf
        repeat' (first | ((with_reducible apply rd_intro); (focus (intro K hK; (conv => whnf); first | exact hK | (intro z hz; rw [wrapI (by omega)] at hz; subst hz; exact hK))); (conv => whnf)) | ((with_reducible apply gd_and); (focus ((conv => whnf) <;> first | rfl | (intro K hK; (conv => whnf); first | exact hK | (intro z hz; rw [wrapI (by omega)] at hz; subst hz; exact hK)))); (conv => whnf)) | ((with_reducible apply z_wrap); (focus omega); (conv => whnf)) | ((with_reducible first | apply mt_dec | apply mt_eq | apply mt_ne | apply mt_not | apply mt_any) <;> (intro _; conv => whnf)))
        refine ⟨by omega, [.sl 1 (u8s x)], rowsB_at hx, ?_⟩
        conv => whnf
        repeat' (first | ((with_reducible apply rd_intro); (focus (intro K hK; (conv => whnf); first | exact hK | (intro z hz; rw [wrapI (by omega)] at hz; subst hz; exact hK))); (conv => whnf)) | ((with_reducible apply gd_and); (focus ((conv => whnf) <;> first | rfl | (intro K hK; (conv => whnf); first | exact hK | (intro z hz; rw [wrapI (by omega)] at hz; subst hz; exact hK)))); (conv => whnf)) | ((with_reducible apply z_wrap); (focus omega); (conv => whnf)) | ((with_reducible first | apply mt_dec | apply mt_eq | apply mt_ne | apply mt_not | apply mt_any) <;> (intro _; conv => whnf)))
        refine heq.mono ?_
        rintro _ _ ⟨rfl, rfl⟩
        conv => whnf
        repeat' (first | ((with_reducible apply rd_intro); (focus (intro K hK; (conv => whnf); first | exact hK | (intro z hz; rw [wrapI (by omega)] at hz; subst hz; exact hK))); (conv => whnf)) | ((with_reducible apply gd_and); (focus ((conv => whnf) <;> first | rfl | (intro K hK; (conv => whnf); first | exact hK | (intro z hz; rw [wrapI (by omega)] at hz; subst hz; exact hK)))); (conv => whnf)) | ((with_reducible apply z_wrap); (focus omega); (conv => whnf)) | ((with_reducible first | apply mt_dec | apply mt_eq | apply mt_ne | apply mt_not | apply mt_any) <;> (intro _; conv => whnf)))
        refine (num24_ok 0).mono ?_
        rintro _ _ ⟨rfl, rfl⟩
        conv => whnf
        repeat' (first | ((with_reducible apply rd_intro); (focus (intro K hK; (conv => whnf); first | exact hK | (intro z hz; rw [wrapI (by omega)] at hz; subst hz; exact hK))); (conv => whnf)) | ((with_reducible apply gd_and); (focus ((conv => whnf) <;> first | rfl | (intro K hK; (conv => whnf); first | exact hK | (intro z hz; rw [wrapI (by omega)] at hz; subst hz; exact hK)))); (conv => whnf)) | ((with_reducible apply z_wrap); (focus omega); (conv => whnf)) | ((with_reducible first | apply mt_dec | apply mt_eq | apply mt_ne | apply mt_not | apply mt_any) <;> (intro _; conv => whnf)))
        refine (num24_ok 0).mono ?_
        rintro _ _ ⟨rfl, rfl⟩
        conv => whnf
        repeat' (first | ((with_reducible apply rd_intro); (focus (intro K hK; (conv => whnf); first | exact hK | (intro z hz; rw [wrapI (by omega)] at hz; subst hz; exact hK))); (conv => whnf)) | ((with_reducible apply gd_and); (focus ((conv => whnf) <;> first | rfl | (intro K hK; (conv => whnf); first | exact hK | (intro z hz; rw [wrapI (by omega)] at hz; subst hz; exact hK)))); (conv => whnf)) | ((with_reducible apply z_wrap); (focus omega); (conv => whnf)) | ((with_reducible first | apply mt_dec | apply mt_eq | apply mt_ne | apply mt_not | apply mt_any) <;> (intro _; conv => whnf)))
        have hby := bytes_ok p h1
        rw [show bytesR p = .tup [.d (.sl 1 (u8s x)), .d (.int .i64 0)] from (if_pos h2).trans (putR_some h3)] at hby
        refine ACalls.mono (post := fun av L => av = .tup [.d (.sl 1 (u8s x)), .d (.int .i64 0)] ∧ L = []) hby ?_
        rintro _ _ ⟨rfl, rfl⟩
        conv => whnf
        repeat' (first | ((with_reducible apply rd_intro); (focus (intro K hK; (conv => whnf); first | exact hK | (intro z hz; rw [wrapI (by omega)] at hz; subst hz; exact hK))); (conv => whnf)) | ((with_reducible apply gd_and); (focus ((conv => whnf) <;> first | rfl | (intro K hK; (conv => whnf); first | exact hK | (intro z hz; rw [wrapI (by omega)] at hz; subst hz; exact hK)))); (conv => whnf)) | ((with_reducible apply z_wrap); (focus omega); (conv => whnf)) | ((with_reducible first | apply mt_dec | apply mt_eq | apply mt_ne | apply mt_not | apply mt_any) <;> (intro _; conv => whnf)))
        refine (num24_ok 0).mono ?_
        rintro _ _ ⟨rfl, rfl⟩
        conv => whnf
        repeat' (first | ((with_reducible apply rd_intro); (focus (intro K hK; (conv => whnf); first | exact hK | (intro z hz; rw [wrapI (by omega)] at hz; subst hz; exact hK))); (conv => whnf)) | ((with_reducible apply gd_and); (focus ((conv => whnf) <;> first | rfl | (intro K hK; (conv => whnf); first | exact hK | (intro z hz; rw [wrapI (by omega)] at hz; subst hz; exact hK)))); (conv => whnf)) | ((with_reducible apply z_wrap); (focus omega); (conv => whnf)) | ((with_reducible first | apply mt_dec | apply mt_eq | apply mt_ne | apply mt_not | apply mt_any) <;> (intro _; conv => whnf)))
        refine ⟨by omega, [.sl 1 (u8s x)], rowsB_at hx, ?_⟩
        conv => whnf
        repeat' (first | ((with_reducible apply rd_intro); (focus (intro K hK; (conv => whnf); first | exact hK | (intro z hz; rw [wrapI (by omega)] at hz; subst hz; exact hK))); (conv => whnf)) | ((with_reducible apply gd_and); (focus ((conv => whnf) <;> first | rfl | (intro K hK; (conv => whnf); first | exact hK | (intro z hz; rw [wrapI (by omega)] at hz; subst hz; exact hK)))); (conv => whnf)) | ((with_reducible apply z_wrap); (focus omega); (conv => whnf)) | ((with_reducible first | apply mt_dec | apply mt_eq | apply mt_ne | apply mt_not | apply mt_any) <;> (intro _; conv => whnf)))
        refine heq.mono ?_
        rintro _ _ ⟨rfl, rfl⟩
        conv => whnf
        repeat' (first | ((with_reducible apply rd_intro); (focus (intro K hK; (conv => whnf); first | exact hK | (intro z hz; rw [wrapI (by omega)] at hz; subst hz; exact hK))); (conv => whnf)) | ((with_reducible apply gd_and); (focus ((conv => whnf) <;> first | rfl | (intro K hK; (conv => whnf); first | exact hK | (intro z hz; rw [wrapI (by omega)] at hz; subst hz; exact hK)))); (conv => whnf)) | ((with_reducible apply z_wrap); (focus omega); (conv => whnf)) | ((with_reducible first | apply mt_dec | apply mt_eq | apply mt_ne | apply mt_not | apply mt_any) <;> (intro _; conv => whnf)))
        refine ACalls.mono (post := fun av L => av = .d (.bool true) ∧ L = []) (lawMay_ok p h2) ?_
        rintro _ _ ⟨rfl, rfl⟩
        conv => whnf
        repeat' (first | ((with_reducible apply rd_intro); (focus (intro K hK; (conv => whnf); first | exact hK | (intro z hz; rw [wrapI (by omega)] at hz; subst hz; exact hK))); (conv => whnf)) | ((with_reducible apply gd_and); (focus ((conv => whnf) <;> first | rfl | (intro K hK; (conv => whnf); first | exact hK | (intro z hz; rw [wrapI (by omega)] at hz; subst hz; exact hK)))); (conv => whnf)) | ((with_reducible apply z_wrap); (focus omega); (conv => whnf)) | ((with_reducible first | apply mt_dec | apply mt_eq | apply mt_ne | apply mt_not | apply mt_any) <;> (intro _; conv => whnf)))
        exact ⟨j + 1, rfl, rfl, by omega, by omega⟩
      · conv => whnf
        repeat' (first | ((with_reducible apply rd_intro); (focus (intro K hK; (conv => whnf); first | exact hK | (intro z hz; rw [wrapI (by omega)] at hz; subst hz; exact hK))); (conv => whnf)) | ((with_reducible apply gd_and); (focus ((conv => whnf) <;> first | rfl | (intro K hK; (conv => whnf); first | exact hK | (intro z hz; rw [wrapI (by omega)] at hz; subst hz; exact hK)))); (conv => whnf)) | ((with_reducible apply z_wrap); (focus omega); (conv => whnf)) | ((with_reducible first | apply mt_dec | apply mt_eq | apply mt_ne | apply mt_not | apply mt_any) <;> (intro _; conv => whnf)))
        refine ⟨by omega, [.sl 1 (u8s x)], rowsB_at hx, ?_⟩
        conv => whnf
        repeat' (first | ((with_reducible apply rd_intro); (focus (intro K hK; (conv => whnf); first | exact hK | (intro z hz; rw [wrapI (by omega)] at hz; subst hz; exact hK))); (conv => whnf)) | ((with_reducible apply gd_and); (focus ((conv => whnf) <;> first | rfl | (intro K hK; (conv => whnf); first | exact hK | (intro z hz; rw [wrapI (by omega)] at hz; subst hz; exact hK)))); (conv => whnf)) | ((with_reducible apply z_wrap); (focus omega); (conv => whnf)) | ((with_reducible first | apply mt_dec | apply mt_eq | apply mt_ne | apply mt_not | apply mt_any) <;> (intro _; conv => whnf)))
        refine heq.mono ?_
        rintro _ _ ⟨rfl, rfl⟩
        conv => whnf
        repeat' (first | ((with_reducible apply rd_intro); (focus (intro K hK; (conv => whnf); first | exact hK | (intro z hz; rw [wrapI (by omega)] at hz; subst hz; exact hK))); (conv => whnf)) | ((with_reducible apply gd_and); (focus ((conv => whnf) <;> first | rfl | (intro K hK; (conv => whnf); first | exact hK | (intro z hz; rw [wrapI (by omega)] at hz; subst hz; exact hK)))); (conv => whnf)) | ((with_reducible apply z_wrap); (focus omega); (conv => whnf)) | ((with_reducible first | apply mt_dec | apply mt_eq | apply mt_ne | apply mt_not | apply mt_any) <;> (intro _; conv => whnf)))
        refine (num24_ok 1).mono ?_
        rintro _ _ ⟨rfl, rfl⟩
        conv => whnf
        repeat' (first | ((with_reducible apply rd_intro); (focus (intro K hK; (conv => whnf); first | exact hK | (intro z hz; rw [wrapI (by omega)] at hz; subst hz; exact hK))); (conv => whnf)) | ((with_reducible apply gd_and); (focus ((conv => whnf) <;> first | rfl | (intro K hK; (conv => whnf); first | exact hK | (intro z hz; rw [wrapI (by omega)] at hz; subst hz; exact hK)))); (conv => whnf)) | ((with_reducible apply z_wrap); (focus omega); (conv => whnf)) | ((with_reducible first | apply mt_dec | apply mt_eq | apply mt_ne | apply mt_not | apply mt_any) <;> (intro _; conv => whnf)))
        refine (num24_ok 1).mono ?_
        rintro _ _ ⟨rfl, rfl⟩
        conv => whnf
        repeat' (first | ((with_reducible apply rd_intro); (focus (intro K hK; (conv => whnf); first | exact hK | (intro z hz; rw [wrapI (by omega)] at hz; subst hz; exact hK))); (conv => whnf)) | ((with_reducible apply gd_and); (focus ((conv => whnf) <;> first | rfl | (intro K hK; (conv => whnf); first | exact hK | (intro z hz; rw [wrapI (by omega)] at hz; subst hz; exact hK)))); (conv => whnf)) | ((with_reducible apply z_wrap); (focus omega); (conv => whnf)) | ((with_reducible first | apply mt_dec | apply mt_eq | apply mt_ne | apply mt_not | apply mt_any) <;> (intro _; conv => whnf)))
        refine ACalls.mono (post := fun av L => av = .d (.bool true) ∧ L = []) eqPoint0 ?_
        rintro _ _ ⟨rfl, rfl⟩
        conv => whnf
        repeat' (first | ((with_reducible apply rd_intro); (focus (intro K hK; (conv => whnf); first | exact hK | (intro z hz; rw [wrapI (by omega)] at hz; subst hz; exact hK))); (conv => whnf)) | ((with_reducible apply gd_and); (focus ((conv => whnf) <;> first | rfl | (intro K hK; (conv => whnf); first | exact hK | (intro z hz; rw [wrapI (by omega)] at hz; subst hz; exact hK)))); (conv => whnf)) | ((with_reducible apply z_wrap); (focus omega); (conv => whnf)) | ((with_reducible first | apply mt_dec | apply mt_eq | apply mt_ne | apply mt_not | apply mt_any) <;> (intro _; conv => whnf)))
        refine (num24_ok 1).mono ?_
        rintro _ _ ⟨rfl, rfl⟩
        conv => whnf
        repeat' (first | ((with_reducible apply rd_intro); (focus (intro K hK; (conv => whnf); first | exact hK | (intro z hz; rw [wrapI (by omega)] at hz; subst hz; exact hK))); (conv => whnf)) | ((with_reducible apply gd_and); (focus ((conv => whnf) <;> first | rfl | (intro K hK; (conv => whnf); first | exact hK | (intro z hz; rw [wrapI (by omega)] at hz; subst hz; exact hK)))); (conv => whnf)) | ((with_reducible apply z_wrap); (focus omega); (conv => whnf)) | ((with_reducible first | apply mt_dec | apply mt_eq | apply mt_ne | apply mt_not | apply mt_any) <;> (intro _; conv => whnf)))
        exact ⟨j + 1, rfl, rfl, by omega, by omega⟩
    all_goals
      refine wakes24.mono ?_
      rintro _ _ ⟨rfl, rfl⟩
      conv => whnf
      exact ⟨rfl, rfl⟩
end Go.Proofs.Ytkaepgfmpljlmaa

/- ImageAny: for every list of byte slices the law returns true, and its argument reads behind the call as it read before. No condition of ours. -/
namespace Go.Proofs.Ytkaepgfmpljlmaa
open Go.Ab Go.RowKit Go.ChangeShapes Go.WideShapes Go.ChangeAt
theorem okWide_slice {P : Program} {W : World} {base : Nat} {t e : TypeId} {v : Value} (hu : P.underlying t = some (.slice e)) (hv : Value.okWide P W .any base t v) : v.oneCell' = true := by
  cases v <;> simp_all [Value.okWide, Cell.okWide, Cell.ok, Value.oneCell']
theorem rows_of {ds : List DV} (h : DTy tt 6 22 ds) : ∃ l : List (List UInt8), arg1 ds = .d (.sl 1 (rowsB l)) ∧ l.length ≤ 140737488355328 := by
  replace h : ∃ xs, ds = [.sl 1 xs] ∧ xs.length * 24 ≤ 140737488355328 ∧ ∀ x ∈ xs, DTy tt 5 23 x := h
  obtain ⟨xs, rfl, h1, h2⟩ := h
  obtain ⟨l, rfl, _⟩ := map_of (f := fun x : List UInt8 => [.sl 1 (u8s x)]) (ok := fun _ => True) (xs := xs) fun x hx => by
    have h3 : ∃ ys, x = [.sl 1 ys] ∧ ys.length * 1 ≤ 140737488355328 ∧ ∀ y ∈ ys, DTy tt 4 5 y := h2 x hx
    obtain ⟨ys, rfl, _, h4⟩ := h3
    obtain ⟨bs, rfl⟩ := u8_of h4
    exact ⟨bs, rfl, trivial⟩
  rw [List.length_map] at h1
  exact ⟨l, rfl, by omega⟩
theorem own : ownKnob Try.prog.godebug = none := by kernel_rfl
theorem laidOut : laidOutB Try.prog = true := by kernel_rfl
set_option maxRecDepth 100000 in
theorem imageAny_lifted (os : Os) (started : os.Started) (H : Type) (enc : TypeId × Value → H) :
    ReturnsInHanded {} Try.checked os 3 .any (Rows.imageAnySpec.pre6 enc Try.prog Try.f3 Rows.imageAnyRow.domain false) (Rows.imageAnySpec.post enc Try.prog Try.f3 false true false false) := by
  refine returnsInHanded_of_change_sized (C := Try.checked) own started (by kernel_rfl) Try.func3
    (ChangeSpec.witness6 (enc := enc) (C := Try.checked) false ⟨#[], #[.slice none 0 0], []⟩ 8 (by kernel_rfl) (by kernel_rfl) (by kernel_rfl) (by kernel_rfl)) ?_
  intro W base args ds gs before hval hW _ hsz _
  exact law_contract ttOk (f := Try.f3) (tb := 4) (t := 22) rfl rfl Try.underlying4 rfl (fun _ _ => rfl) laidOut (by kernel_rfl) (of_decide_eq_true (by kernel_rfl)) 6 (by kernel_rfl) arg1
    (fun W base v ds h1 h2 => arg1_ok (okWide_slice Try.underlying22 h1) h2)
    (fun ds hd => by
      obtain ⟨p, hp, hok⟩ := rows_of hd
      rw [hp]
      exact imageAny_ok p hok) hval hW hsz
theorem imageAny_holds : Rows.ImageAnySaid :=
  OpenClaim.holds_of_wide 3 Try.f3 rfl rfl rfl rfl rfl rfl rfl ⟨rfl, rfl, rfl, rfl, rfl⟩ rfl rfl rfl rfl rfl (by kernel_rfl) Try.func3 (by kernel_rfl)
    (of_decide_eq_true (by kernel_rfl)) (by unfold Func.isWrapper; first | (rw [if_pos (by decide +kernel)]; kernel_rfl) | (rw [if_neg (by decide +kernel)]; exact ⟨rfl, rfl⟩))
    (fun os started H enc _ => imageAny_lifted os started H enc)
#print axioms imageAny_holds
end Go.Proofs.Ytkaepgfmpljlmaa
