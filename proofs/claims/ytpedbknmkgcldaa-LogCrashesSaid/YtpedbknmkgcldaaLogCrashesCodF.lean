/- Part of the proof of LogCrashes: the contracts of the functions. -/
import Derived.Test.YtpedbknmkgcldaaLogCrashesCodE

set_option linter.unusedVariables false
set_option linter.unusedSimpArgs false
namespace Go.Proofs.Ytpedbknmkgcldaa
open Go.Ab Go.RowKit Go.MapKept
attribute [local irreducible] ACalls AW ADraw Into
set_option maxRecDepth 100000
def loopsC : Code → List Code
  | .seq a b => loopsC a ++ loopsC b
  | .cond _ a b => loopsC a ++ loopsC b
  | .block _ x => loopsC x
  | .scope x => loopsC x
  | .loop x => [x]
  | _ => []
def loopN (c : Code) (k : Nat) : Code := ((loopsC c)[k]?).getD .skip
theorem LS.pre_lu {l : Lg} {x : LS} {u : Int} (hx : x.ok) (hl : l.dat = x.lu u) : l.d.dat.fine ∧ (0 ≤ l.size ∧ l.size ≤ 524288) ∧ l.recs.length ≤ 100000 ∧ l.recs = x.recs := by
  have e1 : l.d.dat = (x.lu u).d := by rw [← hl]; rfl
  have e2 : l.size = wsum x.recs := by
    have : l.size = l.dat.size := rfl
    rw [this, hl]; rfl
  have e3 : l.recs = x.recs := by
    have : l.recs = l.dat.recs := rfl
    rw [this, hl]; rfl
  have h1 := wsum_nonneg x.recs
  have h2 := hx.sum
  have h3 := wsum_len x.recs
  rw [e1, e2, e3]
  exact ⟨LS.lu_fine hx u, ⟨h1, h2⟩, by omega, rfl⟩
theorem next_sum (r : List ByteArray) (a : Act10) (h : wsum r ≤ 524288) : wsum (nextL r a).1 ≤ 524288 := by
  unfold nextL
  split
  · split
    · exact h
    · split
      · exact h
      · show wsum a.l ≤ _
        omega
  · split
    · exact h
    · split
      · exact h
      · split
        · exact h
        · show wsum (r ++ [a.s]) ≤ _
          rw [wsum_app]; omega
theorem sync_dead (l : Lg) (hd : l.d.dat.fine) (h : l.dead = true) : ACalls Try.prog 52 [.ptr 0 0] l.L (fun av L => ∃ l' : Lg, av = .d (.int .i64 9) ∧ L = l'.L ∧ l'.dat = l.dat) := by
  refine (lsync_ok l hd).mono ?_
  rintro _ _ ⟨l', rfl, rfl, hl'⟩
  rw [show l.dat.sync = (9, l.dat) by simp [LD.sync, Lg.dat, h]] at hl' ⊢
  exact ⟨l', rfl, rfl, hl'⟩
theorem append_dead (l : Lg) (hd : l.d.dat.fine) (hz : 0 ≤ l.size ∧ l.size ≤ 524288) (hl : l.recs.length ≤ 100000) (h : l.dead = true) (s : ByteArray) (hs : s.size ≤ 100000000) : ACalls Try.prog 42 [.ptr 0 0, .d (.str s)] l.L (fun av L => ∃ l' : Lg, av = .d (.int .i64 9) ∧ L = l'.L ∧ l'.dat = l.dat) := by
  refine (lappend_ok l hd.ok hz hl s hs).mono ?_
  rintro _ _ ⟨l', rfl, rfl, hl'⟩
  rw [lapp_dead (l := l.dat) h] at hl' ⊢
  exact ⟨l', rfl, rfl, hl'⟩
abbrev CSt := Bool × Nat × Int × Lg × List ByteArray × List (List ByteArray)
def rws (can : List (List ByteArray)) : List (List DV) := can.map fun r => [.sl 1 (strs r)]
theorem rws_app (can : List (List ByteArray)) (r : List ByteArray) : rws can ++ [[.sl 1 (strs r)]] = rws (can ++ [r]) := by simp [rws]
def crashSt (p : Scr10) : CSt → AF × List AB
  | (true, k, e, l, r, can) => ([(1, .ptr 0 0), (3, .ptr 1 0), (4, .ptr 2 0), (6, .arr 3), (7, .arr 4), (8, .d (.int .i64 e)), (9, .d (.int .i64 k))], [.cells p.cells, .cells [.d (.int .i64 l.d.calls), .d (.bool l.d.off), .d (.int .i64 l.d.upto), .map 5], .cells (.ptr 1 0 :: .arr 6 :: l.tail), .row 9 1 [] (decide (e ≠ 0)), .row 46 1 (rws can) false, .map (l.d.fs.map Fl.ent), .row 9 1 (strs l.recs) l.sh])
  | (false, k, e, l, r, can) => ([(1, .ptr 0 0), (3, .ptr 1 0), (4, .ptr 2 0), (6, .d (.sl 1 (strs r))), (7, .arr 3), (8, .d (.int .i64 e)), (9, .d (.int .i64 k))], [.cells p.cells, .cells [.d (.int .i64 l.d.calls), .d (.bool l.d.off), .d (.int .i64 l.d.upto), .map 4], .cells (.ptr 1 0 :: .arr 5 :: l.tail), .row 46 1 (rws can) false, .map (l.d.fs.map Fl.ent), .row 9 1 (strs l.recs) l.sh])
def outSt (p : Scr10) : Dk × List (List ByteArray) → AF × List AB
  | (d, can) => ([(1, .ptr 0 0), (3, .ptr 1 0), (7, .arr 2)], [.cells p.cells, .cells [.d (.int .i64 d.calls), .d (.bool d.off), .d (.int .i64 d.upto), .map 3], .row 46 1 (rws can) false, .map (d.fs.map Fl.ent)])
def cinv (u : Int) (p : Scr10) : CSt → Prop
  | (b, k, e, l, r, can) => (k ≤ 20 ∧ k ≤ p.acts.length ∧ can.length ≤ k + 1) ∧ (∀ r ∈ can, wsum r ≤ 524288) ∧ (b = true → r = []) ∧ ((e = 0 ∧ ∃ x : LS, x.ok ∧ l.dat = x.lu u ∧ x.recs = r ∧ Cov x can) ∨ (e = 9 ∧ l.d.dat.good (· ∈ can)))
def oinv : Dk × List (List ByteArray) → Prop
  | (d, can) => d.dat.good (· ∈ can) ∧ ∀ r ∈ can, wsum r ≤ 524288
set_option maxHeartbeats 8000000 in
theorem crashes_loop1 (p : Scr10) (hlight : ∀ a ∈ p.acts, a.light) (u : Int) {Q : Exit → AF → List AB → Prop} {F : AF} {L : List AB}
    (start : normK 0 [1, 3, 4, 6, 7, 8, 9] F L fun F' L' => ∃ s, F' = (crashSt p s).1 ∧ L' = (crashSt p s).2 ∧ cinv u p s)
    (after : ∀ s, oinv s ∧ s.2.length ≤ 100 → Q (.exit 0) (outSt p s).1 (outSt p s).2) : AW Try.prog 220 0 (.loop (loopN (Try.f10.body.getD .skip) 0)) Q F L := by
  refine loop_out ttOk zOk foOk (σ := CSt) (τ := Dk × List (List ByteArray)) (crashSt p) (cinv u p) (fun q => p.acts.length - q.2.1) [1, 3, 4, 6, 7, 8, 9] 0 (outSt p) (fun s => oinv s ∧ s.2.length ≤ 100) [1, 3, 7] start after ?_
  rintro ⟨b, k, e, l, r, can⟩ ⟨⟨hk20, hk, hcl⟩, hcan, hfst, hinv⟩
  cases b with
  | true =>
    obtain rfl := hfst rfl
    rcases hinv with ⟨rfl, x, hx, hl, hr, hcov⟩ | ⟨rfl, hgood⟩
    · obtain ⟨p1, p2, p3, p4⟩ := LS.pre_lu hx hl
      conv => whnf
      repeat' (first | ((with_reducible apply z_wrap); (focus omega); (conv => whnf)) | ((with_reducible refine mt_dec (fun _ => ?_) (fun _ => ?_)) <;> (conv => whnf)) | ((with_reducible refine mt_eq (fun _ => ?_) (fun _ => ?_)) <;> (conv => whnf)) | ((with_reducible refine mt_ne (fun _ => ?_) (fun _ => ?_)) <;> (conv => whnf)) | ((with_reducible refine mt_not (fun _ => ?_) (fun _ => ?_)) <;> (conv => whnf)) | ((with_reducible refine mt_any (fun _ => ?_) (fun _ => ?_)) <;> (conv => whnf)))
      · rename_i h hk2
        simp only [List.length_map] at h
        obtain ⟨a, ha⟩ : ∃ a, p.acts[k]? = some a := ⟨_, List.getElem?_eq_getElem (by omega)⟩
        have hal := hlight a (List.mem_of_getElem? ha)
        ((with_reducible refine ix_map ha ?_ ?_); (focus (first | rfl | omega)); (conv => whnf))
        repeat' (first | ((with_reducible apply z_wrap); (focus omega); (conv => whnf)) | ((with_reducible refine mt_dec (fun _ => ?_) (fun _ => ?_)) <;> (conv => whnf)) | ((with_reducible refine mt_eq (fun _ => ?_) (fun _ => ?_)) <;> (conv => whnf)) | ((with_reducible refine mt_ne (fun _ => ?_) (fun _ => ?_)) <;> (conv => whnf)) | ((with_reducible refine mt_not (fun _ => ?_) (fun _ => ?_)) <;> (conv => whnf)) | ((with_reducible refine mt_any (fun _ => ?_) (fun _ => ?_)) <;> (conv => whnf)))
        (refine Or.inl ?_; (conv => whnf))
        refine (next_ok [] a hal (by decide)).mono ?_
        have hrs : wsum [] ≤ 524288 := by decide
        rintro _ _ ⟨rfl, rfl⟩
        have hsum := next_sum _ a hrs
        have hdo := does_lu hx u hal hcov
        rw [hr] at hdo
        obtain ⟨r', hr'⟩ : ∃ r', (nextL [] a).1 = r' := ⟨_, rfl⟩
        obtain ⟨wt, hwt⟩ : ∃ wt, (nextL [] a).2 = wt := ⟨_, rfl⟩
        rw [hr'] at hdo hsum ⊢
        rw [hwt] at hdo ⊢
        have hcan2 : ∀ q ∈ can ++ [r'], wsum q ≤ 524288 := by
          intro q hq
          rcases List.mem_append.1 hq with hq | hq
          · exact hcan q hq
          · rw [List.mem_singleton.1 hq]; exact hsum
        conv => whnf
        repeat' (first | ((with_reducible apply z_wrap); (focus omega); (conv => whnf)) | ((with_reducible refine mt_dec (fun _ => ?_) (fun _ => ?_)) <;> (conv => whnf)) | ((with_reducible refine mt_eq (fun _ => ?_) (fun _ => ?_)) <;> (conv => whnf)) | ((with_reducible refine mt_ne (fun _ => ?_) (fun _ => ?_)) <;> (conv => whnf)) | ((with_reducible refine mt_not (fun _ => ?_) (fun _ => ?_)) <;> (conv => whnf)) | ((with_reducible refine mt_any (fun _ => ?_) (fun _ => ?_)) <;> (conv => whnf)))
        refine (does_ok l a hal p1 p2 p3).mono ?_
        rintro _ _ ⟨l1, rfl, hL, hl1⟩
        rw [hl] at hl1 ⊢
        rcases hdo with ⟨y, hy, hdo, hyr, hcy⟩ | ⟨hfail, h9⟩
        · rw [hdo] at hl1 ⊢
          replace hl1 : l1.dat = y.lu u := hl1
          rcases hL with rfl | rfl | rfl
          · conv => whnf
            ((with_reducible refine mt_eq (fun _ => ?_) (fun _ => ?_)) <;> (conv => whnf))
            rotate_left
            · rename_i h; exact absurd rfl h
            repeat' (first | ((with_reducible apply z_wrap); (focus omega); (conv => whnf)) | ((with_reducible refine mt_dec (fun _ => ?_) (fun _ => ?_)) <;> (conv => whnf)) | ((with_reducible refine mt_eq (fun _ => ?_) (fun _ => ?_)) <;> (conv => whnf)) | ((with_reducible refine mt_ne (fun _ => ?_) (fun _ => ?_)) <;> (conv => whnf)) | ((with_reducible refine mt_not (fun _ => ?_) (fun _ => ?_)) <;> (conv => whnf)) | ((with_reducible refine mt_any (fun _ => ?_) (fun _ => ?_)) <;> (conv => whnf)))
            · rename_i h0
              refine (within_ok a.act 7 (by decide) (by decide) hal.ok.act).mono ?_
              rintro _ _ ⟨rfl, rfl⟩
              conv => whnf
              rw [show (a.act % 18446744073709551616) % 7 = a.w from rfl]
              repeat' (first | ((with_reducible apply z_wrap); (focus omega); (conv => whnf)) | ((with_reducible refine mt_dec (fun _ => ?_) (fun _ => ?_)) <;> (conv => whnf)) | ((with_reducible refine mt_eq (fun _ => ?_) (fun _ => ?_)) <;> (conv => whnf)) | ((with_reducible refine mt_ne (fun _ => ?_) (fun _ => ?_)) <;> (conv => whnf)) | ((with_reducible refine mt_not (fun _ => ?_) (fun _ => ?_)) <;> (conv => whnf)) | ((with_reducible refine mt_any (fun _ => ?_) (fun _ => ?_)) <;> (conv => whnf)))
              · rename_i h4
                refine ⟨(show 1 * 24 ≤ 140737488355328 by decide), ?_⟩
                conv => whnf
                repeat' (first | ((with_reducible apply z_wrap); (focus omega); (conv => whnf)) | ((with_reducible refine mt_dec (fun _ => ?_) (fun _ => ?_)) <;> (conv => whnf)) | ((with_reducible refine mt_eq (fun _ => ?_) (fun _ => ?_)) <;> (conv => whnf)) | ((with_reducible refine mt_ne (fun _ => ?_) (fun _ => ?_)) <;> (conv => whnf)) | ((with_reducible refine mt_not (fun _ => ?_) (fun _ => ?_)) <;> (conv => whnf)) | ((with_reducible refine mt_any (fun _ => ?_) (fun _ => ?_)) <;> (conv => whnf)))
                rw [canL, if_pos ⟨h0, h4⟩] at hcy
                exact ⟨(false, k + 1, 0, l1, r', [r']), rfl, rfl, ⟨⟨by show k + 1 ≤ 20; omega, by show k + 1 ≤ p.acts.length; omega, by rw [List.length_singleton]; omega⟩, (fun q hq => by rw [List.mem_singleton.1 hq]; exact hsum), (fun h => by cases h), .inl ⟨rfl, y, hy, hl1, hyr, hcy⟩⟩, by show p.acts.length - (k + 1) < p.acts.length - k; omega⟩
              · rename_i h4
                rw [canL, if_neg (fun h => h4 h.2)] at hcy
                refine ⟨by simp only [rws, List.length_map, List.length_cons, List.length_nil]; omega, ?_⟩
                conv => whnf
                repeat' (first | ((with_reducible apply z_wrap); (focus omega); (conv => whnf)) | ((with_reducible refine mt_dec (fun _ => ?_) (fun _ => ?_)) <;> (conv => whnf)) | ((with_reducible refine mt_eq (fun _ => ?_) (fun _ => ?_)) <;> (conv => whnf)) | ((with_reducible refine mt_ne (fun _ => ?_) (fun _ => ?_)) <;> (conv => whnf)) | ((with_reducible refine mt_not (fun _ => ?_) (fun _ => ?_)) <;> (conv => whnf)) | ((with_reducible refine mt_any (fun _ => ?_) (fun _ => ?_)) <;> (conv => whnf)))
                rw [rws_app]
                exact ⟨(false, k + 1, 0, l1, r', can ++ [r']), rfl, rfl, ⟨⟨by show k + 1 ≤ 20; omega, by show k + 1 ≤ p.acts.length; omega, by rw [List.length_append, List.length_singleton]; omega⟩, hcan2, (fun h => by cases h), .inl ⟨rfl, y, hy, hl1, hyr, hcy⟩⟩, by show p.acts.length - (k + 1) < p.acts.length - k; omega⟩
            · rename_i h0
              rw [canL, if_neg (fun h => h0 h.1)] at hcy
              refine ⟨by simp only [rws, List.length_map, List.length_cons, List.length_nil]; omega, ?_⟩
              conv => whnf
              repeat' (first | ((with_reducible apply z_wrap); (focus omega); (conv => whnf)) | ((with_reducible refine mt_dec (fun _ => ?_) (fun _ => ?_)) <;> (conv => whnf)) | ((with_reducible refine mt_eq (fun _ => ?_) (fun _ => ?_)) <;> (conv => whnf)) | ((with_reducible refine mt_ne (fun _ => ?_) (fun _ => ?_)) <;> (conv => whnf)) | ((with_reducible refine mt_not (fun _ => ?_) (fun _ => ?_)) <;> (conv => whnf)) | ((with_reducible refine mt_any (fun _ => ?_) (fun _ => ?_)) <;> (conv => whnf)))
              rw [rws_app]
              exact ⟨(false, k + 1, 0, l1, r', can ++ [r']), rfl, rfl, ⟨⟨by show k + 1 ≤ 20; omega, by show k + 1 ≤ p.acts.length; omega, by rw [List.length_append, List.length_singleton]; omega⟩, hcan2, (fun h => by cases h), .inl ⟨rfl, y, hy, hl1, hyr, hcy⟩⟩, by show p.acts.length - (k + 1) < p.acts.length - k; omega⟩
          · conv => whnf
            ((with_reducible refine mt_eq (fun _ => ?_) (fun _ => ?_)) <;> (conv => whnf))
            rotate_left
            · rename_i h; exact absurd rfl h
            repeat' (first | ((with_reducible apply z_wrap); (focus omega); (conv => whnf)) | ((with_reducible refine mt_dec (fun _ => ?_) (fun _ => ?_)) <;> (conv => whnf)) | ((with_reducible refine mt_eq (fun _ => ?_) (fun _ => ?_)) <;> (conv => whnf)) | ((with_reducible refine mt_ne (fun _ => ?_) (fun _ => ?_)) <;> (conv => whnf)) | ((with_reducible refine mt_not (fun _ => ?_) (fun _ => ?_)) <;> (conv => whnf)) | ((with_reducible refine mt_any (fun _ => ?_) (fun _ => ?_)) <;> (conv => whnf)))
            · rename_i h0
              refine (within_ok a.act 7 (by decide) (by decide) hal.ok.act).mono ?_
              rintro _ _ ⟨rfl, rfl⟩
              conv => whnf
              rw [show (a.act % 18446744073709551616) % 7 = a.w from rfl]
              repeat' (first | ((with_reducible apply z_wrap); (focus omega); (conv => whnf)) | ((with_reducible refine mt_dec (fun _ => ?_) (fun _ => ?_)) <;> (conv => whnf)) | ((with_reducible refine mt_eq (fun _ => ?_) (fun _ => ?_)) <;> (conv => whnf)) | ((with_reducible refine mt_ne (fun _ => ?_) (fun _ => ?_)) <;> (conv => whnf)) | ((with_reducible refine mt_not (fun _ => ?_) (fun _ => ?_)) <;> (conv => whnf)) | ((with_reducible refine mt_any (fun _ => ?_) (fun _ => ?_)) <;> (conv => whnf)))
              · rename_i h4
                refine ⟨(show 1 * 24 ≤ 140737488355328 by decide), ?_⟩
                conv => whnf
                repeat' (first | ((with_reducible apply z_wrap); (focus omega); (conv => whnf)) | ((with_reducible refine mt_dec (fun _ => ?_) (fun _ => ?_)) <;> (conv => whnf)) | ((with_reducible refine mt_eq (fun _ => ?_) (fun _ => ?_)) <;> (conv => whnf)) | ((with_reducible refine mt_ne (fun _ => ?_) (fun _ => ?_)) <;> (conv => whnf)) | ((with_reducible refine mt_not (fun _ => ?_) (fun _ => ?_)) <;> (conv => whnf)) | ((with_reducible refine mt_any (fun _ => ?_) (fun _ => ?_)) <;> (conv => whnf)))
                rw [canL, if_pos ⟨h0, h4⟩] at hcy
                exact ⟨(false, k + 1, 0, l1, r', [r']), rfl, rfl, ⟨⟨by show k + 1 ≤ 20; omega, by show k + 1 ≤ p.acts.length; omega, by rw [List.length_singleton]; omega⟩, (fun q hq => by rw [List.mem_singleton.1 hq]; exact hsum), (fun h => by cases h), .inl ⟨rfl, y, hy, hl1, hyr, hcy⟩⟩, by show p.acts.length - (k + 1) < p.acts.length - k; omega⟩
              · rename_i h4
                rw [canL, if_neg (fun h => h4 h.2)] at hcy
                refine ⟨by simp only [rws, List.length_map, List.length_cons, List.length_nil]; omega, ?_⟩
                conv => whnf
                repeat' (first | ((with_reducible apply z_wrap); (focus omega); (conv => whnf)) | ((with_reducible refine mt_dec (fun _ => ?_) (fun _ => ?_)) <;> (conv => whnf)) | ((with_reducible refine mt_eq (fun _ => ?_) (fun _ => ?_)) <;> (conv => whnf)) | ((with_reducible refine mt_ne (fun _ => ?_) (fun _ => ?_)) <;> (conv => whnf)) | ((with_reducible refine mt_not (fun _ => ?_) (fun _ => ?_)) <;> (conv => whnf)) | ((with_reducible refine mt_any (fun _ => ?_) (fun _ => ?_)) <;> (conv => whnf)))
                rw [rws_app]
                exact ⟨(false, k + 1, 0, l1, r', can ++ [r']), rfl, rfl, ⟨⟨by show k + 1 ≤ 20; omega, by show k + 1 ≤ p.acts.length; omega, by rw [List.length_append, List.length_singleton]; omega⟩, hcan2, (fun h => by cases h), .inl ⟨rfl, y, hy, hl1, hyr, hcy⟩⟩, by show p.acts.length - (k + 1) < p.acts.length - k; omega⟩
            · rename_i h0
              rw [canL, if_neg (fun h => h0 h.1)] at hcy
              refine ⟨by simp only [rws, List.length_map, List.length_cons, List.length_nil]; omega, ?_⟩
              conv => whnf
              repeat' (first | ((with_reducible apply z_wrap); (focus omega); (conv => whnf)) | ((with_reducible refine mt_dec (fun _ => ?_) (fun _ => ?_)) <;> (conv => whnf)) | ((with_reducible refine mt_eq (fun _ => ?_) (fun _ => ?_)) <;> (conv => whnf)) | ((with_reducible refine mt_ne (fun _ => ?_) (fun _ => ?_)) <;> (conv => whnf)) | ((with_reducible refine mt_not (fun _ => ?_) (fun _ => ?_)) <;> (conv => whnf)) | ((with_reducible refine mt_any (fun _ => ?_) (fun _ => ?_)) <;> (conv => whnf)))
              rw [rws_app]
              exact ⟨(false, k + 1, 0, l1, r', can ++ [r']), rfl, rfl, ⟨⟨by show k + 1 ≤ 20; omega, by show k + 1 ≤ p.acts.length; omega, by rw [List.length_append, List.length_singleton]; omega⟩, hcan2, (fun h => by cases h), .inl ⟨rfl, y, hy, hl1, hyr, hcy⟩⟩, by show p.acts.length - (k + 1) < p.acts.length - k; omega⟩
          · conv => whnf
            ((with_reducible refine mt_eq (fun _ => ?_) (fun _ => ?_)) <;> (conv => whnf))
            rotate_left
            · rename_i h; exact absurd rfl h
            repeat' (first | ((with_reducible apply z_wrap); (focus omega); (conv => whnf)) | ((with_reducible refine mt_dec (fun _ => ?_) (fun _ => ?_)) <;> (conv => whnf)) | ((with_reducible refine mt_eq (fun _ => ?_) (fun _ => ?_)) <;> (conv => whnf)) | ((with_reducible refine mt_ne (fun _ => ?_) (fun _ => ?_)) <;> (conv => whnf)) | ((with_reducible refine mt_not (fun _ => ?_) (fun _ => ?_)) <;> (conv => whnf)) | ((with_reducible refine mt_any (fun _ => ?_) (fun _ => ?_)) <;> (conv => whnf)))
            · rename_i h0
              refine (within_ok a.act 7 (by decide) (by decide) hal.ok.act).mono ?_
              rintro _ _ ⟨rfl, rfl⟩
              conv => whnf
              rw [show (a.act % 18446744073709551616) % 7 = a.w from rfl]
              repeat' (first | ((with_reducible apply z_wrap); (focus omega); (conv => whnf)) | ((with_reducible refine mt_dec (fun _ => ?_) (fun _ => ?_)) <;> (conv => whnf)) | ((with_reducible refine mt_eq (fun _ => ?_) (fun _ => ?_)) <;> (conv => whnf)) | ((with_reducible refine mt_ne (fun _ => ?_) (fun _ => ?_)) <;> (conv => whnf)) | ((with_reducible refine mt_not (fun _ => ?_) (fun _ => ?_)) <;> (conv => whnf)) | ((with_reducible refine mt_any (fun _ => ?_) (fun _ => ?_)) <;> (conv => whnf)))
              · rename_i h4
                refine ⟨(show 1 * 24 ≤ 140737488355328 by decide), ?_⟩
                conv => whnf
                repeat' (first | ((with_reducible apply z_wrap); (focus omega); (conv => whnf)) | ((with_reducible refine mt_dec (fun _ => ?_) (fun _ => ?_)) <;> (conv => whnf)) | ((with_reducible refine mt_eq (fun _ => ?_) (fun _ => ?_)) <;> (conv => whnf)) | ((with_reducible refine mt_ne (fun _ => ?_) (fun _ => ?_)) <;> (conv => whnf)) | ((with_reducible refine mt_not (fun _ => ?_) (fun _ => ?_)) <;> (conv => whnf)) | ((with_reducible refine mt_any (fun _ => ?_) (fun _ => ?_)) <;> (conv => whnf)))
                rw [canL, if_pos ⟨h0, h4⟩] at hcy
                exact ⟨(false, k + 1, 0, l1, r', [r']), rfl, rfl, ⟨⟨by show k + 1 ≤ 20; omega, by show k + 1 ≤ p.acts.length; omega, by rw [List.length_singleton]; omega⟩, (fun q hq => by rw [List.mem_singleton.1 hq]; exact hsum), (fun h => by cases h), .inl ⟨rfl, y, hy, hl1, hyr, hcy⟩⟩, by show p.acts.length - (k + 1) < p.acts.length - k; omega⟩
              · rename_i h4
                rw [canL, if_neg (fun h => h4 h.2)] at hcy
                refine ⟨by simp only [rws, List.length_map, List.length_cons, List.length_nil]; omega, ?_⟩
                conv => whnf
                repeat' (first | ((with_reducible apply z_wrap); (focus omega); (conv => whnf)) | ((with_reducible refine mt_dec (fun _ => ?_) (fun _ => ?_)) <;> (conv => whnf)) | ((with_reducible refine mt_eq (fun _ => ?_) (fun _ => ?_)) <;> (conv => whnf)) | ((with_reducible refine mt_ne (fun _ => ?_) (fun _ => ?_)) <;> (conv => whnf)) | ((with_reducible refine mt_not (fun _ => ?_) (fun _ => ?_)) <;> (conv => whnf)) | ((with_reducible refine mt_any (fun _ => ?_) (fun _ => ?_)) <;> (conv => whnf)))
                rw [rws_app]
                exact ⟨(false, k + 1, 0, l1, r', can ++ [r']), rfl, rfl, ⟨⟨by show k + 1 ≤ 20; omega, by show k + 1 ≤ p.acts.length; omega, by rw [List.length_append, List.length_singleton]; omega⟩, hcan2, (fun h => by cases h), .inl ⟨rfl, y, hy, hl1, hyr, hcy⟩⟩, by show p.acts.length - (k + 1) < p.acts.length - k; omega⟩
            · rename_i h0
              rw [canL, if_neg (fun h => h0 h.1)] at hcy
              refine ⟨by simp only [rws, List.length_map, List.length_cons, List.length_nil]; omega, ?_⟩
              conv => whnf
              repeat' (first | ((with_reducible apply z_wrap); (focus omega); (conv => whnf)) | ((with_reducible refine mt_dec (fun _ => ?_) (fun _ => ?_)) <;> (conv => whnf)) | ((with_reducible refine mt_eq (fun _ => ?_) (fun _ => ?_)) <;> (conv => whnf)) | ((with_reducible refine mt_ne (fun _ => ?_) (fun _ => ?_)) <;> (conv => whnf)) | ((with_reducible refine mt_not (fun _ => ?_) (fun _ => ?_)) <;> (conv => whnf)) | ((with_reducible refine mt_any (fun _ => ?_) (fun _ => ?_)) <;> (conv => whnf)))
              rw [rws_app]
              exact ⟨(false, k + 1, 0, l1, r', can ++ [r']), rfl, rfl, ⟨⟨by show k + 1 ≤ 20; omega, by show k + 1 ≤ p.acts.length; omega, by rw [List.length_append, List.length_singleton]; omega⟩, hcan2, (fun h => by cases h), .inl ⟨rfl, y, hy, hl1, hyr, hcy⟩⟩, by show p.acts.length - (k + 1) < p.acts.length - k; omega⟩
        · obtain ⟨z, hz⟩ : ∃ z, (x.lu u).does a = z := ⟨_, rfl⟩
          rw [hz] at hl1 hfail ⊢
          obtain ⟨z1, z2, z3, z4, z5, z6⟩ := hfail
          rw [z1]
          have q3 : l1.recs.length ≤ 100000 := by
            rw [show l1.recs = z.2.recs by rw [← hl1]; rfl, z3, ← p4]; exact p3
          have q1 : l1.d.dat.fine := by rw [show l1.d.dat = z.2.d by rw [← hl1]; rfl]; exact z4
          have hrec : l1.recs = [] := by rw [show l1.recs = z.2.recs by rw [← hl1]; rfl, z3, hr]
          rcases hL with rfl | rfl | rfl
          · conv => whnf
            ((with_reducible refine mt_eq (fun _ => ?_) (fun _ => ?_)) <;> (conv => whnf))
            · rename_i h; exact absurd h.symm h9
            repeat' (first | ((with_reducible apply z_wrap); (focus omega); (conv => whnf)) | ((with_reducible refine mt_dec (fun _ => ?_) (fun _ => ?_)) <;> (conv => whnf)) | ((with_reducible refine mt_eq (fun _ => ?_) (fun _ => ?_)) <;> (conv => whnf)) | ((with_reducible refine mt_ne (fun _ => ?_) (fun _ => ?_)) <;> (conv => whnf)) | ((with_reducible refine mt_not (fun _ => ?_) (fun _ => ?_)) <;> (conv => whnf)) | ((with_reducible refine mt_any (fun _ => ?_) (fun _ => ?_)) <;> (conv => whnf)))
            refine (all_ok l1 q3).mono ?_
            rintro _ _ ⟨rfl, rfl⟩
            conv => whnf
            repeat' (first | ((with_reducible apply z_wrap); (focus omega); (conv => whnf)) | ((with_reducible refine mt_dec (fun _ => ?_) (fun _ => ?_)) <;> (conv => whnf)) | ((with_reducible refine mt_eq (fun _ => ?_) (fun _ => ?_)) <;> (conv => whnf)) | ((with_reducible refine mt_ne (fun _ => ?_) (fun _ => ?_)) <;> (conv => whnf)) | ((with_reducible refine mt_not (fun _ => ?_) (fun _ => ?_)) <;> (conv => whnf)) | ((with_reducible refine mt_any (fun _ => ?_) (fun _ => ?_)) <;> (conv => whnf)))
            (refine Or.inl ?_; (conv => whnf))
            refine (eqStrings_ok l1.recs [] (by omega)).mono ?_
            rintro _ _ ⟨rfl, rfl⟩
            rw [decide_eq_true hrec]
            conv => whnf
            repeat' (first | ((with_reducible apply z_wrap); (focus omega); (conv => whnf)) | ((with_reducible refine mt_dec (fun _ => ?_) (fun _ => ?_)) <;> (conv => whnf)) | ((with_reducible refine mt_eq (fun _ => ?_) (fun _ => ?_)) <;> (conv => whnf)) | ((with_reducible refine mt_ne (fun _ => ?_) (fun _ => ?_)) <;> (conv => whnf)) | ((with_reducible refine mt_not (fun _ => ?_) (fun _ => ?_)) <;> (conv => whnf)) | ((with_reducible refine mt_any (fun _ => ?_) (fun _ => ?_)) <;> (conv => whnf)))
            refine (sync_dead l1 q1 (by rw [show l1.dead = z.2.dead by rw [← hl1]; rfl]; exact z2)).mono ?_
            rintro _ _ ⟨l2, rfl, rfl, hl2⟩
            rw [hl1] at hl2
            have q2 : l2.recs.length ≤ 100000 := by rw [show l2.recs = z.2.recs by rw [← hl2]; rfl, z3, ← p4]; exact p3
            have q5 : l2.d.dat.fine := by rw [show l2.d.dat = z.2.d by rw [← hl2]; rfl]; exact z4
            have q6 : 0 ≤ l2.size ∧ l2.size ≤ 524288 := by rw [show l2.size = z.2.size by rw [← hl2]; rfl]; exact z6
            conv => whnf
            repeat' (first | ((with_reducible apply z_wrap); (focus omega); (conv => whnf)) | ((with_reducible refine mt_dec (fun _ => ?_) (fun _ => ?_)) <;> (conv => whnf)) | ((with_reducible refine mt_eq (fun _ => ?_) (fun _ => ?_)) <;> (conv => whnf)) | ((with_reducible refine mt_ne (fun _ => ?_) (fun _ => ?_)) <;> (conv => whnf)) | ((with_reducible refine mt_not (fun _ => ?_) (fun _ => ?_)) <;> (conv => whnf)) | ((with_reducible refine mt_any (fun _ => ?_) (fun _ => ?_)) <;> (conv => whnf)))
            ((with_reducible refine (num10_ok 9).mono ?_); rintro _ _ ⟨rfl, rfl⟩; (conv => whnf))
            repeat' (first | ((with_reducible apply z_wrap); (focus omega); (conv => whnf)) | ((with_reducible refine mt_dec (fun _ => ?_) (fun _ => ?_)) <;> (conv => whnf)) | ((with_reducible refine mt_eq (fun _ => ?_) (fun _ => ?_)) <;> (conv => whnf)) | ((with_reducible refine mt_ne (fun _ => ?_) (fun _ => ?_)) <;> (conv => whnf)) | ((with_reducible refine mt_not (fun _ => ?_) (fun _ => ?_)) <;> (conv => whnf)) | ((with_reducible refine mt_any (fun _ => ?_) (fun _ => ?_)) <;> (conv => whnf)))
            refine (append_dead l2 q5 q6 q2 (by rw [show l2.dead = z.2.dead by rw [← hl2]; rfl]; exact z2) _ (by decide)).mono ?_
            rintro _ _ ⟨l3, rfl, rfl, hl3⟩
            rw [hl2] at hl3
            conv => whnf
            repeat' (first | ((with_reducible apply z_wrap); (focus omega); (conv => whnf)) | ((with_reducible refine mt_dec (fun _ => ?_) (fun _ => ?_)) <;> (conv => whnf)) | ((with_reducible refine mt_eq (fun _ => ?_) (fun _ => ?_)) <;> (conv => whnf)) | ((with_reducible refine mt_ne (fun _ => ?_) (fun _ => ?_)) <;> (conv => whnf)) | ((with_reducible refine mt_not (fun _ => ?_) (fun _ => ?_)) <;> (conv => whnf)) | ((with_reducible refine mt_any (fun _ => ?_) (fun _ => ?_)) <;> (conv => whnf)))
            ((with_reducible refine (num10_ok 9).mono ?_); rintro _ _ ⟨rfl, rfl⟩; (conv => whnf))
            repeat' (first | ((with_reducible apply z_wrap); (focus omega); (conv => whnf)) | ((with_reducible refine mt_dec (fun _ => ?_) (fun _ => ?_)) <;> (conv => whnf)) | ((with_reducible refine mt_eq (fun _ => ?_) (fun _ => ?_)) <;> (conv => whnf)) | ((with_reducible refine mt_ne (fun _ => ?_) (fun _ => ?_)) <;> (conv => whnf)) | ((with_reducible refine mt_not (fun _ => ?_) (fun _ => ?_)) <;> (conv => whnf)) | ((with_reducible refine mt_any (fun _ => ?_) (fun _ => ?_)) <;> (conv => whnf)))
            refine ⟨by simp only [rws, List.length_map, List.length_cons, List.length_nil]; omega, ?_⟩
            conv => whnf
            repeat' (first | ((with_reducible apply z_wrap); (focus omega); (conv => whnf)) | ((with_reducible refine mt_dec (fun _ => ?_) (fun _ => ?_)) <;> (conv => whnf)) | ((with_reducible refine mt_eq (fun _ => ?_) (fun _ => ?_)) <;> (conv => whnf)) | ((with_reducible refine mt_ne (fun _ => ?_) (fun _ => ?_)) <;> (conv => whnf)) | ((with_reducible refine mt_not (fun _ => ?_) (fun _ => ?_)) <;> (conv => whnf)) | ((with_reducible refine mt_any (fun _ => ?_) (fun _ => ?_)) <;> (conv => whnf)))
            rw [rws_app]
            refine ⟨(true, k + 1, 9, l3, [], can ++ [r']), rfl, rfl, ⟨⟨by show k + 1 ≤ 20; omega, by show k + 1 ≤ p.acts.length; omega, by rw [List.length_append, List.length_singleton]; omega⟩, hcan2, (fun _ => rfl), .inr ⟨rfl, ?_⟩⟩, by show p.acts.length - (k + 1) < p.acts.length - k; omega⟩
            rw [show l3.d.dat = z.2.d by rw [← hl3]; rfl]
            exact (cov_good hx hcov z4 z5).mono fun q hq => List.mem_append_left _ hq
          · conv => whnf
            ((with_reducible refine mt_eq (fun _ => ?_) (fun _ => ?_)) <;> (conv => whnf))
            · rename_i h; exact absurd h.symm h9
            repeat' (first | ((with_reducible apply z_wrap); (focus omega); (conv => whnf)) | ((with_reducible refine mt_dec (fun _ => ?_) (fun _ => ?_)) <;> (conv => whnf)) | ((with_reducible refine mt_eq (fun _ => ?_) (fun _ => ?_)) <;> (conv => whnf)) | ((with_reducible refine mt_ne (fun _ => ?_) (fun _ => ?_)) <;> (conv => whnf)) | ((with_reducible refine mt_not (fun _ => ?_) (fun _ => ?_)) <;> (conv => whnf)) | ((with_reducible refine mt_any (fun _ => ?_) (fun _ => ?_)) <;> (conv => whnf)))
            refine (all_ok l1 q3).mono ?_
            rintro _ _ ⟨rfl, rfl⟩
            conv => whnf
            repeat' (first | ((with_reducible apply z_wrap); (focus omega); (conv => whnf)) | ((with_reducible refine mt_dec (fun _ => ?_) (fun _ => ?_)) <;> (conv => whnf)) | ((with_reducible refine mt_eq (fun _ => ?_) (fun _ => ?_)) <;> (conv => whnf)) | ((with_reducible refine mt_ne (fun _ => ?_) (fun _ => ?_)) <;> (conv => whnf)) | ((with_reducible refine mt_not (fun _ => ?_) (fun _ => ?_)) <;> (conv => whnf)) | ((with_reducible refine mt_any (fun _ => ?_) (fun _ => ?_)) <;> (conv => whnf)))
            (refine Or.inl ?_; (conv => whnf))
            refine (eqStrings_ok l1.recs [] (by omega)).mono ?_
            rintro _ _ ⟨rfl, rfl⟩
            rw [decide_eq_true hrec]
            conv => whnf
            repeat' (first | ((with_reducible apply z_wrap); (focus omega); (conv => whnf)) | ((with_reducible refine mt_dec (fun _ => ?_) (fun _ => ?_)) <;> (conv => whnf)) | ((with_reducible refine mt_eq (fun _ => ?_) (fun _ => ?_)) <;> (conv => whnf)) | ((with_reducible refine mt_ne (fun _ => ?_) (fun _ => ?_)) <;> (conv => whnf)) | ((with_reducible refine mt_not (fun _ => ?_) (fun _ => ?_)) <;> (conv => whnf)) | ((with_reducible refine mt_any (fun _ => ?_) (fun _ => ?_)) <;> (conv => whnf)))
            refine (sync_dead l1 q1 (by rw [show l1.dead = z.2.dead by rw [← hl1]; rfl]; exact z2)).mono ?_
            rintro _ _ ⟨l2, rfl, rfl, hl2⟩
            rw [hl1] at hl2
            have q2 : l2.recs.length ≤ 100000 := by rw [show l2.recs = z.2.recs by rw [← hl2]; rfl, z3, ← p4]; exact p3
            have q5 : l2.d.dat.fine := by rw [show l2.d.dat = z.2.d by rw [← hl2]; rfl]; exact z4
            have q6 : 0 ≤ l2.size ∧ l2.size ≤ 524288 := by rw [show l2.size = z.2.size by rw [← hl2]; rfl]; exact z6
            conv => whnf
            repeat' (first | ((with_reducible apply z_wrap); (focus omega); (conv => whnf)) | ((with_reducible refine mt_dec (fun _ => ?_) (fun _ => ?_)) <;> (conv => whnf)) | ((with_reducible refine mt_eq (fun _ => ?_) (fun _ => ?_)) <;> (conv => whnf)) | ((with_reducible refine mt_ne (fun _ => ?_) (fun _ => ?_)) <;> (conv => whnf)) | ((with_reducible refine mt_not (fun _ => ?_) (fun _ => ?_)) <;> (conv => whnf)) | ((with_reducible refine mt_any (fun _ => ?_) (fun _ => ?_)) <;> (conv => whnf)))
            ((with_reducible refine (num10_ok 9).mono ?_); rintro _ _ ⟨rfl, rfl⟩; (conv => whnf))
            repeat' (first | ((with_reducible apply z_wrap); (focus omega); (conv => whnf)) | ((with_reducible refine mt_dec (fun _ => ?_) (fun _ => ?_)) <;> (conv => whnf)) | ((with_reducible refine mt_eq (fun _ => ?_) (fun _ => ?_)) <;> (conv => whnf)) | ((with_reducible refine mt_ne (fun _ => ?_) (fun _ => ?_)) <;> (conv => whnf)) | ((with_reducible refine mt_not (fun _ => ?_) (fun _ => ?_)) <;> (conv => whnf)) | ((with_reducible refine mt_any (fun _ => ?_) (fun _ => ?_)) <;> (conv => whnf)))
            refine (append_dead l2 q5 q6 q2 (by rw [show l2.dead = z.2.dead by rw [← hl2]; rfl]; exact z2) _ (by decide)).mono ?_
            rintro _ _ ⟨l3, rfl, rfl, hl3⟩
            rw [hl2] at hl3
            conv => whnf
            repeat' (first | ((with_reducible apply z_wrap); (focus omega); (conv => whnf)) | ((with_reducible refine mt_dec (fun _ => ?_) (fun _ => ?_)) <;> (conv => whnf)) | ((with_reducible refine mt_eq (fun _ => ?_) (fun _ => ?_)) <;> (conv => whnf)) | ((with_reducible refine mt_ne (fun _ => ?_) (fun _ => ?_)) <;> (conv => whnf)) | ((with_reducible refine mt_not (fun _ => ?_) (fun _ => ?_)) <;> (conv => whnf)) | ((with_reducible refine mt_any (fun _ => ?_) (fun _ => ?_)) <;> (conv => whnf)))
            ((with_reducible refine (num10_ok 9).mono ?_); rintro _ _ ⟨rfl, rfl⟩; (conv => whnf))
            repeat' (first | ((with_reducible apply z_wrap); (focus omega); (conv => whnf)) | ((with_reducible refine mt_dec (fun _ => ?_) (fun _ => ?_)) <;> (conv => whnf)) | ((with_reducible refine mt_eq (fun _ => ?_) (fun _ => ?_)) <;> (conv => whnf)) | ((with_reducible refine mt_ne (fun _ => ?_) (fun _ => ?_)) <;> (conv => whnf)) | ((with_reducible refine mt_not (fun _ => ?_) (fun _ => ?_)) <;> (conv => whnf)) | ((with_reducible refine mt_any (fun _ => ?_) (fun _ => ?_)) <;> (conv => whnf)))
            refine ⟨by simp only [rws, List.length_map, List.length_cons, List.length_nil]; omega, ?_⟩
            conv => whnf
            repeat' (first | ((with_reducible apply z_wrap); (focus omega); (conv => whnf)) | ((with_reducible refine mt_dec (fun _ => ?_) (fun _ => ?_)) <;> (conv => whnf)) | ((with_reducible refine mt_eq (fun _ => ?_) (fun _ => ?_)) <;> (conv => whnf)) | ((with_reducible refine mt_ne (fun _ => ?_) (fun _ => ?_)) <;> (conv => whnf)) | ((with_reducible refine mt_not (fun _ => ?_) (fun _ => ?_)) <;> (conv => whnf)) | ((with_reducible refine mt_any (fun _ => ?_) (fun _ => ?_)) <;> (conv => whnf)))
            rw [rws_app]
            refine ⟨(true, k + 1, 9, l3, [], can ++ [r']), rfl, rfl, ⟨⟨by show k + 1 ≤ 20; omega, by show k + 1 ≤ p.acts.length; omega, by rw [List.length_append, List.length_singleton]; omega⟩, hcan2, (fun _ => rfl), .inr ⟨rfl, ?_⟩⟩, by show p.acts.length - (k + 1) < p.acts.length - k; omega⟩
            rw [show l3.d.dat = z.2.d by rw [← hl3]; rfl]
            exact (cov_good hx hcov z4 z5).mono fun q hq => List.mem_append_left _ hq
          · conv => whnf
            ((with_reducible refine mt_eq (fun _ => ?_) (fun _ => ?_)) <;> (conv => whnf))
            · rename_i h; exact absurd h.symm h9
            repeat' (first | ((with_reducible apply z_wrap); (focus omega); (conv => whnf)) | ((with_reducible refine mt_dec (fun _ => ?_) (fun _ => ?_)) <;> (conv => whnf)) | ((with_reducible refine mt_eq (fun _ => ?_) (fun _ => ?_)) <;> (conv => whnf)) | ((with_reducible refine mt_ne (fun _ => ?_) (fun _ => ?_)) <;> (conv => whnf)) | ((with_reducible refine mt_not (fun _ => ?_) (fun _ => ?_)) <;> (conv => whnf)) | ((with_reducible refine mt_any (fun _ => ?_) (fun _ => ?_)) <;> (conv => whnf)))
            refine (all_ok l1 q3).mono ?_
            rintro _ _ ⟨rfl, rfl⟩
            conv => whnf
            repeat' (first | ((with_reducible apply z_wrap); (focus omega); (conv => whnf)) | ((with_reducible refine mt_dec (fun _ => ?_) (fun _ => ?_)) <;> (conv => whnf)) | ((with_reducible refine mt_eq (fun _ => ?_) (fun _ => ?_)) <;> (conv => whnf)) | ((with_reducible refine mt_ne (fun _ => ?_) (fun _ => ?_)) <;> (conv => whnf)) | ((with_reducible refine mt_not (fun _ => ?_) (fun _ => ?_)) <;> (conv => whnf)) | ((with_reducible refine mt_any (fun _ => ?_) (fun _ => ?_)) <;> (conv => whnf)))
            (refine Or.inl ?_; (conv => whnf))
            refine (eqStrings_ok l1.recs [] (by omega)).mono ?_
            rintro _ _ ⟨rfl, rfl⟩
            rw [decide_eq_true hrec]
            conv => whnf
            repeat' (first | ((with_reducible apply z_wrap); (focus omega); (conv => whnf)) | ((with_reducible refine mt_dec (fun _ => ?_) (fun _ => ?_)) <;> (conv => whnf)) | ((with_reducible refine mt_eq (fun _ => ?_) (fun _ => ?_)) <;> (conv => whnf)) | ((with_reducible refine mt_ne (fun _ => ?_) (fun _ => ?_)) <;> (conv => whnf)) | ((with_reducible refine mt_not (fun _ => ?_) (fun _ => ?_)) <;> (conv => whnf)) | ((with_reducible refine mt_any (fun _ => ?_) (fun _ => ?_)) <;> (conv => whnf)))
            refine (sync_dead l1 q1 (by rw [show l1.dead = z.2.dead by rw [← hl1]; rfl]; exact z2)).mono ?_
            rintro _ _ ⟨l2, rfl, rfl, hl2⟩
            rw [hl1] at hl2
            have q2 : l2.recs.length ≤ 100000 := by rw [show l2.recs = z.2.recs by rw [← hl2]; rfl, z3, ← p4]; exact p3
            have q5 : l2.d.dat.fine := by rw [show l2.d.dat = z.2.d by rw [← hl2]; rfl]; exact z4
            have q6 : 0 ≤ l2.size ∧ l2.size ≤ 524288 := by rw [show l2.size = z.2.size by rw [← hl2]; rfl]; exact z6
            conv => whnf
            repeat' (first | ((with_reducible apply z_wrap); (focus omega); (conv => whnf)) | ((with_reducible refine mt_dec (fun _ => ?_) (fun _ => ?_)) <;> (conv => whnf)) | ((with_reducible refine mt_eq (fun _ => ?_) (fun _ => ?_)) <;> (conv => whnf)) | ((with_reducible refine mt_ne (fun _ => ?_) (fun _ => ?_)) <;> (conv => whnf)) | ((with_reducible refine mt_not (fun _ => ?_) (fun _ => ?_)) <;> (conv => whnf)) | ((with_reducible refine mt_any (fun _ => ?_) (fun _ => ?_)) <;> (conv => whnf)))
            ((with_reducible refine (num10_ok 9).mono ?_); rintro _ _ ⟨rfl, rfl⟩; (conv => whnf))
            repeat' (first | ((with_reducible apply z_wrap); (focus omega); (conv => whnf)) | ((with_reducible refine mt_dec (fun _ => ?_) (fun _ => ?_)) <;> (conv => whnf)) | ((with_reducible refine mt_eq (fun _ => ?_) (fun _ => ?_)) <;> (conv => whnf)) | ((with_reducible refine mt_ne (fun _ => ?_) (fun _ => ?_)) <;> (conv => whnf)) | ((with_reducible refine mt_not (fun _ => ?_) (fun _ => ?_)) <;> (conv => whnf)) | ((with_reducible refine mt_any (fun _ => ?_) (fun _ => ?_)) <;> (conv => whnf)))
            refine (append_dead l2 q5 q6 q2 (by rw [show l2.dead = z.2.dead by rw [← hl2]; rfl]; exact z2) _ (by decide)).mono ?_
            rintro _ _ ⟨l3, rfl, rfl, hl3⟩
            rw [hl2] at hl3
            conv => whnf
            repeat' (first | ((with_reducible apply z_wrap); (focus omega); (conv => whnf)) | ((with_reducible refine mt_dec (fun _ => ?_) (fun _ => ?_)) <;> (conv => whnf)) | ((with_reducible refine mt_eq (fun _ => ?_) (fun _ => ?_)) <;> (conv => whnf)) | ((with_reducible refine mt_ne (fun _ => ?_) (fun _ => ?_)) <;> (conv => whnf)) | ((with_reducible refine mt_not (fun _ => ?_) (fun _ => ?_)) <;> (conv => whnf)) | ((with_reducible refine mt_any (fun _ => ?_) (fun _ => ?_)) <;> (conv => whnf)))
            ((with_reducible refine (num10_ok 9).mono ?_); rintro _ _ ⟨rfl, rfl⟩; (conv => whnf))
            repeat' (first | ((with_reducible apply z_wrap); (focus omega); (conv => whnf)) | ((with_reducible refine mt_dec (fun _ => ?_) (fun _ => ?_)) <;> (conv => whnf)) | ((with_reducible refine mt_eq (fun _ => ?_) (fun _ => ?_)) <;> (conv => whnf)) | ((with_reducible refine mt_ne (fun _ => ?_) (fun _ => ?_)) <;> (conv => whnf)) | ((with_reducible refine mt_not (fun _ => ?_) (fun _ => ?_)) <;> (conv => whnf)) | ((with_reducible refine mt_any (fun _ => ?_) (fun _ => ?_)) <;> (conv => whnf)))
            refine ⟨by simp only [rws, List.length_map, List.length_cons, List.length_nil]; omega, ?_⟩
            conv => whnf
            repeat' (first | ((with_reducible apply z_wrap); (focus omega); (conv => whnf)) | ((with_reducible refine mt_dec (fun _ => ?_) (fun _ => ?_)) <;> (conv => whnf)) | ((with_reducible refine mt_eq (fun _ => ?_) (fun _ => ?_)) <;> (conv => whnf)) | ((with_reducible refine mt_ne (fun _ => ?_) (fun _ => ?_)) <;> (conv => whnf)) | ((with_reducible refine mt_not (fun _ => ?_) (fun _ => ?_)) <;> (conv => whnf)) | ((with_reducible refine mt_any (fun _ => ?_) (fun _ => ?_)) <;> (conv => whnf)))
            rw [rws_app]
            refine ⟨(true, k + 1, 9, l3, [], can ++ [r']), rfl, rfl, ⟨⟨by show k + 1 ≤ 20; omega, by show k + 1 ≤ p.acts.length; omega, by rw [List.length_append, List.length_singleton]; omega⟩, hcan2, (fun _ => rfl), .inr ⟨rfl, ?_⟩⟩, by show p.acts.length - (k + 1) < p.acts.length - k; omega⟩
            rw [show l3.d.dat = z.2.d by rw [← hl3]; rfl]
            exact (cov_good hx hcov z4 z5).mono fun q hq => List.mem_append_left _ hq
      · exact ⟨(l.d, can), rfl, rfl, ⟨cov_good hx hcov p1 (by rw [show l.d.dat = (x.lu u).d by rw [← hl]; rfl]; rfl), hcan⟩, by show can.length ≤ 100; omega⟩
      · exact ⟨(l.d, can), rfl, rfl, ⟨cov_good hx hcov p1 (by rw [show l.d.dat = (x.lu u).d by rw [← hl]; rfl]; rfl), hcan⟩, by show can.length ≤ 100; omega⟩
    · conv => whnf
      repeat' (first | ((with_reducible apply z_wrap); (focus omega); (conv => whnf)) | ((with_reducible refine mt_dec (fun _ => ?_) (fun _ => ?_)) <;> (conv => whnf)) | ((with_reducible refine mt_eq (fun _ => ?_) (fun _ => ?_)) <;> (conv => whnf)) | ((with_reducible refine mt_ne (fun _ => ?_) (fun _ => ?_)) <;> (conv => whnf)) | ((with_reducible refine mt_not (fun _ => ?_) (fun _ => ?_)) <;> (conv => whnf)) | ((with_reducible refine mt_any (fun _ => ?_) (fun _ => ?_)) <;> (conv => whnf)))
      all_goals exact ⟨(l.d, can), rfl, rfl, ⟨hgood, hcan⟩, by show can.length ≤ 100; omega⟩
  | false =>
    rcases hinv with ⟨rfl, x, hx, hl, hr, hcov⟩ | ⟨rfl, hgood⟩
    · obtain ⟨p1, p2, p3, p4⟩ := LS.pre_lu hx hl
      have hrs : wsum r ≤ 524288 := by rw [← hr]; exact hx.sum
      conv => whnf
      repeat' (first | ((with_reducible apply z_wrap); (focus omega); (conv => whnf)) | ((with_reducible refine mt_dec (fun _ => ?_) (fun _ => ?_)) <;> (conv => whnf)) | ((with_reducible refine mt_eq (fun _ => ?_) (fun _ => ?_)) <;> (conv => whnf)) | ((with_reducible refine mt_ne (fun _ => ?_) (fun _ => ?_)) <;> (conv => whnf)) | ((with_reducible refine mt_not (fun _ => ?_) (fun _ => ?_)) <;> (conv => whnf)) | ((with_reducible refine mt_any (fun _ => ?_) (fun _ => ?_)) <;> (conv => whnf)))
      · rename_i h hk2
        simp only [List.length_map] at h
        obtain ⟨a, ha⟩ : ∃ a, p.acts[k]? = some a := ⟨_, List.getElem?_eq_getElem (by omega)⟩
        have hal := hlight a (List.mem_of_getElem? ha)
        ((with_reducible refine ix_map ha ?_ ?_); (focus (first | rfl | omega)); (conv => whnf))
        repeat' (first | ((with_reducible apply z_wrap); (focus omega); (conv => whnf)) | ((with_reducible refine mt_dec (fun _ => ?_) (fun _ => ?_)) <;> (conv => whnf)) | ((with_reducible refine mt_eq (fun _ => ?_) (fun _ => ?_)) <;> (conv => whnf)) | ((with_reducible refine mt_ne (fun _ => ?_) (fun _ => ?_)) <;> (conv => whnf)) | ((with_reducible refine mt_not (fun _ => ?_) (fun _ => ?_)) <;> (conv => whnf)) | ((with_reducible refine mt_any (fun _ => ?_) (fun _ => ?_)) <;> (conv => whnf)))
        refine (next_ok r a hal hrs).mono ?_
        rintro _ _ ⟨rfl, rfl⟩
        have hsum := next_sum _ a hrs
        have hdo := does_lu hx u hal hcov
        rw [hr] at hdo
        obtain ⟨r', hr'⟩ : ∃ r', (nextL r a).1 = r' := ⟨_, rfl⟩
        obtain ⟨wt, hwt⟩ : ∃ wt, (nextL r a).2 = wt := ⟨_, rfl⟩
        rw [hr'] at hdo hsum ⊢
        rw [hwt] at hdo ⊢
        have hcan2 : ∀ q ∈ can ++ [r'], wsum q ≤ 524288 := by
          intro q hq
          rcases List.mem_append.1 hq with hq | hq
          · exact hcan q hq
          · rw [List.mem_singleton.1 hq]; exact hsum
        conv => whnf
        repeat' (first | ((with_reducible apply z_wrap); (focus omega); (conv => whnf)) | ((with_reducible refine mt_dec (fun _ => ?_) (fun _ => ?_)) <;> (conv => whnf)) | ((with_reducible refine mt_eq (fun _ => ?_) (fun _ => ?_)) <;> (conv => whnf)) | ((with_reducible refine mt_ne (fun _ => ?_) (fun _ => ?_)) <;> (conv => whnf)) | ((with_reducible refine mt_not (fun _ => ?_) (fun _ => ?_)) <;> (conv => whnf)) | ((with_reducible refine mt_any (fun _ => ?_) (fun _ => ?_)) <;> (conv => whnf)))
        refine (does_ok l a hal p1 p2 p3).mono ?_
        rintro _ _ ⟨l1, rfl, hL, hl1⟩
        rw [hl] at hl1 ⊢
        rcases hdo with ⟨y, hy, hdo, hyr, hcy⟩ | ⟨hfail, h9⟩
        · rw [hdo] at hl1 ⊢
          replace hl1 : l1.dat = y.lu u := hl1
          rcases hL with rfl | rfl | rfl
          · conv => whnf
            ((with_reducible refine mt_eq (fun _ => ?_) (fun _ => ?_)) <;> (conv => whnf))
            rotate_left
            · rename_i h; exact absurd rfl h
            repeat' (first | ((with_reducible apply z_wrap); (focus omega); (conv => whnf)) | ((with_reducible refine mt_dec (fun _ => ?_) (fun _ => ?_)) <;> (conv => whnf)) | ((with_reducible refine mt_eq (fun _ => ?_) (fun _ => ?_)) <;> (conv => whnf)) | ((with_reducible refine mt_ne (fun _ => ?_) (fun _ => ?_)) <;> (conv => whnf)) | ((with_reducible refine mt_not (fun _ => ?_) (fun _ => ?_)) <;> (conv => whnf)) | ((with_reducible refine mt_any (fun _ => ?_) (fun _ => ?_)) <;> (conv => whnf)))
            · rename_i h0
              refine (within_ok a.act 7 (by decide) (by decide) hal.ok.act).mono ?_
              rintro _ _ ⟨rfl, rfl⟩
              conv => whnf
              rw [show (a.act % 18446744073709551616) % 7 = a.w from rfl]
              repeat' (first | ((with_reducible apply z_wrap); (focus omega); (conv => whnf)) | ((with_reducible refine mt_dec (fun _ => ?_) (fun _ => ?_)) <;> (conv => whnf)) | ((with_reducible refine mt_eq (fun _ => ?_) (fun _ => ?_)) <;> (conv => whnf)) | ((with_reducible refine mt_ne (fun _ => ?_) (fun _ => ?_)) <;> (conv => whnf)) | ((with_reducible refine mt_not (fun _ => ?_) (fun _ => ?_)) <;> (conv => whnf)) | ((with_reducible refine mt_any (fun _ => ?_) (fun _ => ?_)) <;> (conv => whnf)))
              · rename_i h4
                refine ⟨(show 1 * 24 ≤ 140737488355328 by decide), ?_⟩
                conv => whnf
                repeat' (first | ((with_reducible apply z_wrap); (focus omega); (conv => whnf)) | ((with_reducible refine mt_dec (fun _ => ?_) (fun _ => ?_)) <;> (conv => whnf)) | ((with_reducible refine mt_eq (fun _ => ?_) (fun _ => ?_)) <;> (conv => whnf)) | ((with_reducible refine mt_ne (fun _ => ?_) (fun _ => ?_)) <;> (conv => whnf)) | ((with_reducible refine mt_not (fun _ => ?_) (fun _ => ?_)) <;> (conv => whnf)) | ((with_reducible refine mt_any (fun _ => ?_) (fun _ => ?_)) <;> (conv => whnf)))
                rw [canL, if_pos ⟨h0, h4⟩] at hcy
                exact ⟨(false, k + 1, 0, l1, r', [r']), rfl, rfl, ⟨⟨by show k + 1 ≤ 20; omega, by show k + 1 ≤ p.acts.length; omega, by rw [List.length_singleton]; omega⟩, (fun q hq => by rw [List.mem_singleton.1 hq]; exact hsum), (fun h => by cases h), .inl ⟨rfl, y, hy, hl1, hyr, hcy⟩⟩, by show p.acts.length - (k + 1) < p.acts.length - k; omega⟩
              · rename_i h4
                rw [canL, if_neg (fun h => h4 h.2)] at hcy
                refine ⟨by simp only [rws, List.length_map, List.length_cons, List.length_nil]; omega, ?_⟩
                conv => whnf
                repeat' (first | ((with_reducible apply z_wrap); (focus omega); (conv => whnf)) | ((with_reducible refine mt_dec (fun _ => ?_) (fun _ => ?_)) <;> (conv => whnf)) | ((with_reducible refine mt_eq (fun _ => ?_) (fun _ => ?_)) <;> (conv => whnf)) | ((with_reducible refine mt_ne (fun _ => ?_) (fun _ => ?_)) <;> (conv => whnf)) | ((with_reducible refine mt_not (fun _ => ?_) (fun _ => ?_)) <;> (conv => whnf)) | ((with_reducible refine mt_any (fun _ => ?_) (fun _ => ?_)) <;> (conv => whnf)))
                rw [rws_app]
                exact ⟨(false, k + 1, 0, l1, r', can ++ [r']), rfl, rfl, ⟨⟨by show k + 1 ≤ 20; omega, by show k + 1 ≤ p.acts.length; omega, by rw [List.length_append, List.length_singleton]; omega⟩, hcan2, (fun h => by cases h), .inl ⟨rfl, y, hy, hl1, hyr, hcy⟩⟩, by show p.acts.length - (k + 1) < p.acts.length - k; omega⟩
            · rename_i h0
              rw [canL, if_neg (fun h => h0 h.1)] at hcy
              refine ⟨by simp only [rws, List.length_map, List.length_cons, List.length_nil]; omega, ?_⟩
              conv => whnf
              repeat' (first | ((with_reducible apply z_wrap); (focus omega); (conv => whnf)) | ((with_reducible refine mt_dec (fun _ => ?_) (fun _ => ?_)) <;> (conv => whnf)) | ((with_reducible refine mt_eq (fun _ => ?_) (fun _ => ?_)) <;> (conv => whnf)) | ((with_reducible refine mt_ne (fun _ => ?_) (fun _ => ?_)) <;> (conv => whnf)) | ((with_reducible refine mt_not (fun _ => ?_) (fun _ => ?_)) <;> (conv => whnf)) | ((with_reducible refine mt_any (fun _ => ?_) (fun _ => ?_)) <;> (conv => whnf)))
              rw [rws_app]
              exact ⟨(false, k + 1, 0, l1, r', can ++ [r']), rfl, rfl, ⟨⟨by show k + 1 ≤ 20; omega, by show k + 1 ≤ p.acts.length; omega, by rw [List.length_append, List.length_singleton]; omega⟩, hcan2, (fun h => by cases h), .inl ⟨rfl, y, hy, hl1, hyr, hcy⟩⟩, by show p.acts.length - (k + 1) < p.acts.length - k; omega⟩
          · conv => whnf
            ((with_reducible refine mt_eq (fun _ => ?_) (fun _ => ?_)) <;> (conv => whnf))
            rotate_left
            · rename_i h; exact absurd rfl h
            repeat' (first | ((with_reducible apply z_wrap); (focus omega); (conv => whnf)) | ((with_reducible refine mt_dec (fun _ => ?_) (fun _ => ?_)) <;> (conv => whnf)) | ((with_reducible refine mt_eq (fun _ => ?_) (fun _ => ?_)) <;> (conv => whnf)) | ((with_reducible refine mt_ne (fun _ => ?_) (fun _ => ?_)) <;> (conv => whnf)) | ((with_reducible refine mt_not (fun _ => ?_) (fun _ => ?_)) <;> (conv => whnf)) | ((with_reducible refine mt_any (fun _ => ?_) (fun _ => ?_)) <;> (conv => whnf)))
            · rename_i h0
              refine (within_ok a.act 7 (by decide) (by decide) hal.ok.act).mono ?_
              rintro _ _ ⟨rfl, rfl⟩
              conv => whnf
              rw [show (a.act % 18446744073709551616) % 7 = a.w from rfl]
              repeat' (first | ((with_reducible apply z_wrap); (focus omega); (conv => whnf)) | ((with_reducible refine mt_dec (fun _ => ?_) (fun _ => ?_)) <;> (conv => whnf)) | ((with_reducible refine mt_eq (fun _ => ?_) (fun _ => ?_)) <;> (conv => whnf)) | ((with_reducible refine mt_ne (fun _ => ?_) (fun _ => ?_)) <;> (conv => whnf)) | ((with_reducible refine mt_not (fun _ => ?_) (fun _ => ?_)) <;> (conv => whnf)) | ((with_reducible refine mt_any (fun _ => ?_) (fun _ => ?_)) <;> (conv => whnf)))
              · rename_i h4
                refine ⟨(show 1 * 24 ≤ 140737488355328 by decide), ?_⟩
                conv => whnf
                repeat' (first | ((with_reducible apply z_wrap); (focus omega); (conv => whnf)) | ((with_reducible refine mt_dec (fun _ => ?_) (fun _ => ?_)) <;> (conv => whnf)) | ((with_reducible refine mt_eq (fun _ => ?_) (fun _ => ?_)) <;> (conv => whnf)) | ((with_reducible refine mt_ne (fun _ => ?_) (fun _ => ?_)) <;> (conv => whnf)) | ((with_reducible refine mt_not (fun _ => ?_) (fun _ => ?_)) <;> (conv => whnf)) | ((with_reducible refine mt_any (fun _ => ?_) (fun _ => ?_)) <;> (conv => whnf)))
                rw [canL, if_pos ⟨h0, h4⟩] at hcy
                exact ⟨(false, k + 1, 0, l1, r', [r']), rfl, rfl, ⟨⟨by show k + 1 ≤ 20; omega, by show k + 1 ≤ p.acts.length; omega, by rw [List.length_singleton]; omega⟩, (fun q hq => by rw [List.mem_singleton.1 hq]; exact hsum), (fun h => by cases h), .inl ⟨rfl, y, hy, hl1, hyr, hcy⟩⟩, by show p.acts.length - (k + 1) < p.acts.length - k; omega⟩
              · rename_i h4
                rw [canL, if_neg (fun h => h4 h.2)] at hcy
                refine ⟨by simp only [rws, List.length_map, List.length_cons, List.length_nil]; omega, ?_⟩
                conv => whnf
                repeat' (first | ((with_reducible apply z_wrap); (focus omega); (conv => whnf)) | ((with_reducible refine mt_dec (fun _ => ?_) (fun _ => ?_)) <;> (conv => whnf)) | ((with_reducible refine mt_eq (fun _ => ?_) (fun _ => ?_)) <;> (conv => whnf)) | ((with_reducible refine mt_ne (fun _ => ?_) (fun _ => ?_)) <;> (conv => whnf)) | ((with_reducible refine mt_not (fun _ => ?_) (fun _ => ?_)) <;> (conv => whnf)) | ((with_reducible refine mt_any (fun _ => ?_) (fun _ => ?_)) <;> (conv => whnf)))
                rw [rws_app]
                exact ⟨(false, k + 1, 0, l1, r', can ++ [r']), rfl, rfl, ⟨⟨by show k + 1 ≤ 20; omega, by show k + 1 ≤ p.acts.length; omega, by rw [List.length_append, List.length_singleton]; omega⟩, hcan2, (fun h => by cases h), .inl ⟨rfl, y, hy, hl1, hyr, hcy⟩⟩, by show p.acts.length - (k + 1) < p.acts.length - k; omega⟩
            · rename_i h0
              rw [canL, if_neg (fun h => h0 h.1)] at hcy
              refine ⟨by simp only [rws, List.length_map, List.length_cons, List.length_nil]; omega, ?_⟩
              conv => whnf
              repeat' (first | ((with_reducible apply z_wrap); (focus omega); (conv => whnf)) | ((with_reducible refine mt_dec (fun _ => ?_) (fun _ => ?_)) <;> (conv => whnf)) | ((with_reducible refine mt_eq (fun _ => ?_) (fun _ => ?_)) <;> (conv => whnf)) | ((with_reducible refine mt_ne (fun _ => ?_) (fun _ => ?_)) <;> (conv => whnf)) | ((with_reducible refine mt_not (fun _ => ?_) (fun _ => ?_)) <;> (conv => whnf)) | ((with_reducible refine mt_any (fun _ => ?_) (fun _ => ?_)) <;> (conv => whnf)))
              rw [rws_app]
              exact ⟨(false, k + 1, 0, l1, r', can ++ [r']), rfl, rfl, ⟨⟨by show k + 1 ≤ 20; omega, by show k + 1 ≤ p.acts.length; omega, by rw [List.length_append, List.length_singleton]; omega⟩, hcan2, (fun h => by cases h), .inl ⟨rfl, y, hy, hl1, hyr, hcy⟩⟩, by show p.acts.length - (k + 1) < p.acts.length - k; omega⟩
          · conv => whnf
            ((with_reducible refine mt_eq (fun _ => ?_) (fun _ => ?_)) <;> (conv => whnf))
            rotate_left
            · rename_i h; exact absurd rfl h
            repeat' (first | ((with_reducible apply z_wrap); (focus omega); (conv => whnf)) | ((with_reducible refine mt_dec (fun _ => ?_) (fun _ => ?_)) <;> (conv => whnf)) | ((with_reducible refine mt_eq (fun _ => ?_) (fun _ => ?_)) <;> (conv => whnf)) | ((with_reducible refine mt_ne (fun _ => ?_) (fun _ => ?_)) <;> (conv => whnf)) | ((with_reducible refine mt_not (fun _ => ?_) (fun _ => ?_)) <;> (conv => whnf)) | ((with_reducible refine mt_any (fun _ => ?_) (fun _ => ?_)) <;> (conv => whnf)))
            · rename_i h0
              refine (within_ok a.act 7 (by decide) (by decide) hal.ok.act).mono ?_
              rintro _ _ ⟨rfl, rfl⟩
              conv => whnf
              rw [show (a.act % 18446744073709551616) % 7 = a.w from rfl]
              repeat' (first | ((with_reducible apply z_wrap); (focus omega); (conv => whnf)) | ((with_reducible refine mt_dec (fun _ => ?_) (fun _ => ?_)) <;> (conv => whnf)) | ((with_reducible refine mt_eq (fun _ => ?_) (fun _ => ?_)) <;> (conv => whnf)) | ((with_reducible refine mt_ne (fun _ => ?_) (fun _ => ?_)) <;> (conv => whnf)) | ((with_reducible refine mt_not (fun _ => ?_) (fun _ => ?_)) <;> (conv => whnf)) | ((with_reducible refine mt_any (fun _ => ?_) (fun _ => ?_)) <;> (conv => whnf)))
              · rename_i h4
                refine ⟨(show 1 * 24 ≤ 140737488355328 by decide), ?_⟩
                conv => whnf
                repeat' (first | ((with_reducible apply z_wrap); (focus omega); (conv => whnf)) | ((with_reducible refine mt_dec (fun _ => ?_) (fun _ => ?_)) <;> (conv => whnf)) | ((with_reducible refine mt_eq (fun _ => ?_) (fun _ => ?_)) <;> (conv => whnf)) | ((with_reducible refine mt_ne (fun _ => ?_) (fun _ => ?_)) <;> (conv => whnf)) | ((with_reducible refine mt_not (fun _ => ?_) (fun _ => ?_)) <;> (conv => whnf)) | ((with_reducible refine mt_any (fun _ => ?_) (fun _ => ?_)) <;> (conv => whnf)))
                rw [canL, if_pos ⟨h0, h4⟩] at hcy
                exact ⟨(false, k + 1, 0, l1, r', [r']), rfl, rfl, ⟨⟨by show k + 1 ≤ 20; omega, by show k + 1 ≤ p.acts.length; omega, by rw [List.length_singleton]; omega⟩, (fun q hq => by rw [List.mem_singleton.1 hq]; exact hsum), (fun h => by cases h), .inl ⟨rfl, y, hy, hl1, hyr, hcy⟩⟩, by show p.acts.length - (k + 1) < p.acts.length - k; omega⟩
              · rename_i h4
                rw [canL, if_neg (fun h => h4 h.2)] at hcy
                refine ⟨by simp only [rws, List.length_map, List.length_cons, List.length_nil]; omega, ?_⟩
                conv => whnf
                repeat' (first | ((with_reducible apply z_wrap); (focus omega); (conv => whnf)) | ((with_reducible refine mt_dec (fun _ => ?_) (fun _ => ?_)) <;> (conv => whnf)) | ((with_reducible refine mt_eq (fun _ => ?_) (fun _ => ?_)) <;> (conv => whnf)) | ((with_reducible refine mt_ne (fun _ => ?_) (fun _ => ?_)) <;> (conv => whnf)) | ((with_reducible refine mt_not (fun _ => ?_) (fun _ => ?_)) <;> (conv => whnf)) | ((with_reducible refine mt_any (fun _ => ?_) (fun _ => ?_)) <;> (conv => whnf)))
                rw [rws_app]
                exact ⟨(false, k + 1, 0, l1, r', can ++ [r']), rfl, rfl, ⟨⟨by show k + 1 ≤ 20; omega, by show k + 1 ≤ p.acts.length; omega, by rw [List.length_append, List.length_singleton]; omega⟩, hcan2, (fun h => by cases h), .inl ⟨rfl, y, hy, hl1, hyr, hcy⟩⟩, by show p.acts.length - (k + 1) < p.acts.length - k; omega⟩
            · rename_i h0
              rw [canL, if_neg (fun h => h0 h.1)] at hcy
              refine ⟨by simp only [rws, List.length_map, List.length_cons, List.length_nil]; omega, ?_⟩
              conv => whnf
              repeat' (first | ((with_reducible apply z_wrap); (focus omega); (conv => whnf)) | ((with_reducible refine mt_dec (fun _ => ?_) (fun _ => ?_)) <;> (conv => whnf)) | ((with_reducible refine mt_eq (fun _ => ?_) (fun _ => ?_)) <;> (conv => whnf)) | ((with_reducible refine mt_ne (fun _ => ?_) (fun _ => ?_)) <;> (conv => whnf)) | ((with_reducible refine mt_not (fun _ => ?_) (fun _ => ?_)) <;> (conv => whnf)) | ((with_reducible refine mt_any (fun _ => ?_) (fun _ => ?_)) <;> (conv => whnf)))
              rw [rws_app]
              exact ⟨(false, k + 1, 0, l1, r', can ++ [r']), rfl, rfl, ⟨⟨by show k + 1 ≤ 20; omega, by show k + 1 ≤ p.acts.length; omega, by rw [List.length_append, List.length_singleton]; omega⟩, hcan2, (fun h => by cases h), .inl ⟨rfl, y, hy, hl1, hyr, hcy⟩⟩, by show p.acts.length - (k + 1) < p.acts.length - k; omega⟩
        · obtain ⟨z, hz⟩ : ∃ z, (x.lu u).does a = z := ⟨_, rfl⟩
          rw [hz] at hl1 hfail ⊢
          obtain ⟨z1, z2, z3, z4, z5, z6⟩ := hfail
          rw [z1]
          have q3 : l1.recs.length ≤ 100000 := by
            rw [show l1.recs = z.2.recs by rw [← hl1]; rfl, z3, ← p4]; exact p3
          have q1 : l1.d.dat.fine := by rw [show l1.d.dat = z.2.d by rw [← hl1]; rfl]; exact z4
          have hrec : l1.recs = r := by rw [show l1.recs = z.2.recs by rw [← hl1]; rfl, z3, hr]
          rcases hL with rfl | rfl | rfl
          · conv => whnf
            ((with_reducible refine mt_eq (fun _ => ?_) (fun _ => ?_)) <;> (conv => whnf))
            · rename_i h; exact absurd h.symm h9
            repeat' (first | ((with_reducible apply z_wrap); (focus omega); (conv => whnf)) | ((with_reducible refine mt_dec (fun _ => ?_) (fun _ => ?_)) <;> (conv => whnf)) | ((with_reducible refine mt_eq (fun _ => ?_) (fun _ => ?_)) <;> (conv => whnf)) | ((with_reducible refine mt_ne (fun _ => ?_) (fun _ => ?_)) <;> (conv => whnf)) | ((with_reducible refine mt_not (fun _ => ?_) (fun _ => ?_)) <;> (conv => whnf)) | ((with_reducible refine mt_any (fun _ => ?_) (fun _ => ?_)) <;> (conv => whnf)))
            refine (all_ok l1 q3).mono ?_
            rintro _ _ ⟨rfl, rfl⟩
            conv => whnf
            repeat' (first | ((with_reducible apply z_wrap); (focus omega); (conv => whnf)) | ((with_reducible refine mt_dec (fun _ => ?_) (fun _ => ?_)) <;> (conv => whnf)) | ((with_reducible refine mt_eq (fun _ => ?_) (fun _ => ?_)) <;> (conv => whnf)) | ((with_reducible refine mt_ne (fun _ => ?_) (fun _ => ?_)) <;> (conv => whnf)) | ((with_reducible refine mt_not (fun _ => ?_) (fun _ => ?_)) <;> (conv => whnf)) | ((with_reducible refine mt_any (fun _ => ?_) (fun _ => ?_)) <;> (conv => whnf)))
            (refine Or.inr ?_; (conv => whnf))
            refine (eqStrings_row l1.recs r false (by omega)).mono ?_
            rintro _ _ ⟨rfl, rfl⟩
            rw [decide_eq_true hrec]
            conv => whnf
            repeat' (first | ((with_reducible apply z_wrap); (focus omega); (conv => whnf)) | ((with_reducible refine mt_dec (fun _ => ?_) (fun _ => ?_)) <;> (conv => whnf)) | ((with_reducible refine mt_eq (fun _ => ?_) (fun _ => ?_)) <;> (conv => whnf)) | ((with_reducible refine mt_ne (fun _ => ?_) (fun _ => ?_)) <;> (conv => whnf)) | ((with_reducible refine mt_not (fun _ => ?_) (fun _ => ?_)) <;> (conv => whnf)) | ((with_reducible refine mt_any (fun _ => ?_) (fun _ => ?_)) <;> (conv => whnf)))
            refine (sync_dead l1 q1 (by rw [show l1.dead = z.2.dead by rw [← hl1]; rfl]; exact z2)).mono ?_
            rintro _ _ ⟨l2, rfl, rfl, hl2⟩
            rw [hl1] at hl2
            have q2 : l2.recs.length ≤ 100000 := by rw [show l2.recs = z.2.recs by rw [← hl2]; rfl, z3, ← p4]; exact p3
            have q5 : l2.d.dat.fine := by rw [show l2.d.dat = z.2.d by rw [← hl2]; rfl]; exact z4
            have q6 : 0 ≤ l2.size ∧ l2.size ≤ 524288 := by rw [show l2.size = z.2.size by rw [← hl2]; rfl]; exact z6
            conv => whnf
            repeat' (first | ((with_reducible apply z_wrap); (focus omega); (conv => whnf)) | ((with_reducible refine mt_dec (fun _ => ?_) (fun _ => ?_)) <;> (conv => whnf)) | ((with_reducible refine mt_eq (fun _ => ?_) (fun _ => ?_)) <;> (conv => whnf)) | ((with_reducible refine mt_ne (fun _ => ?_) (fun _ => ?_)) <;> (conv => whnf)) | ((with_reducible refine mt_not (fun _ => ?_) (fun _ => ?_)) <;> (conv => whnf)) | ((with_reducible refine mt_any (fun _ => ?_) (fun _ => ?_)) <;> (conv => whnf)))
            ((with_reducible refine (num10_ok 9).mono ?_); rintro _ _ ⟨rfl, rfl⟩; (conv => whnf))
            repeat' (first | ((with_reducible apply z_wrap); (focus omega); (conv => whnf)) | ((with_reducible refine mt_dec (fun _ => ?_) (fun _ => ?_)) <;> (conv => whnf)) | ((with_reducible refine mt_eq (fun _ => ?_) (fun _ => ?_)) <;> (conv => whnf)) | ((with_reducible refine mt_ne (fun _ => ?_) (fun _ => ?_)) <;> (conv => whnf)) | ((with_reducible refine mt_not (fun _ => ?_) (fun _ => ?_)) <;> (conv => whnf)) | ((with_reducible refine mt_any (fun _ => ?_) (fun _ => ?_)) <;> (conv => whnf)))
            refine (append_dead l2 q5 q6 q2 (by rw [show l2.dead = z.2.dead by rw [← hl2]; rfl]; exact z2) _ (by decide)).mono ?_
            rintro _ _ ⟨l3, rfl, rfl, hl3⟩
            rw [hl2] at hl3
            conv => whnf
            repeat' (first | ((with_reducible apply z_wrap); (focus omega); (conv => whnf)) | ((with_reducible refine mt_dec (fun _ => ?_) (fun _ => ?_)) <;> (conv => whnf)) | ((with_reducible refine mt_eq (fun _ => ?_) (fun _ => ?_)) <;> (conv => whnf)) | ((with_reducible refine mt_ne (fun _ => ?_) (fun _ => ?_)) <;> (conv => whnf)) | ((with_reducible refine mt_not (fun _ => ?_) (fun _ => ?_)) <;> (conv => whnf)) | ((with_reducible refine mt_any (fun _ => ?_) (fun _ => ?_)) <;> (conv => whnf)))
            ((with_reducible refine (num10_ok 9).mono ?_); rintro _ _ ⟨rfl, rfl⟩; (conv => whnf))
            repeat' (first | ((with_reducible apply z_wrap); (focus omega); (conv => whnf)) | ((with_reducible refine mt_dec (fun _ => ?_) (fun _ => ?_)) <;> (conv => whnf)) | ((with_reducible refine mt_eq (fun _ => ?_) (fun _ => ?_)) <;> (conv => whnf)) | ((with_reducible refine mt_ne (fun _ => ?_) (fun _ => ?_)) <;> (conv => whnf)) | ((with_reducible refine mt_not (fun _ => ?_) (fun _ => ?_)) <;> (conv => whnf)) | ((with_reducible refine mt_any (fun _ => ?_) (fun _ => ?_)) <;> (conv => whnf)))
            refine ⟨by simp only [rws, List.length_map, List.length_cons, List.length_nil]; omega, ?_⟩
            conv => whnf
            repeat' (first | ((with_reducible apply z_wrap); (focus omega); (conv => whnf)) | ((with_reducible refine mt_dec (fun _ => ?_) (fun _ => ?_)) <;> (conv => whnf)) | ((with_reducible refine mt_eq (fun _ => ?_) (fun _ => ?_)) <;> (conv => whnf)) | ((with_reducible refine mt_ne (fun _ => ?_) (fun _ => ?_)) <;> (conv => whnf)) | ((with_reducible refine mt_not (fun _ => ?_) (fun _ => ?_)) <;> (conv => whnf)) | ((with_reducible refine mt_any (fun _ => ?_) (fun _ => ?_)) <;> (conv => whnf)))
            rw [rws_app]
            refine ⟨(false, k + 1, 9, l3, r, can ++ [r']), rfl, rfl, ⟨⟨by show k + 1 ≤ 20; omega, by show k + 1 ≤ p.acts.length; omega, by rw [List.length_append, List.length_singleton]; omega⟩, hcan2, (fun h => by cases h), .inr ⟨rfl, ?_⟩⟩, by show p.acts.length - (k + 1) < p.acts.length - k; omega⟩
            rw [show l3.d.dat = z.2.d by rw [← hl3]; rfl]
            exact (cov_good hx hcov z4 z5).mono fun q hq => List.mem_append_left _ hq
          · conv => whnf
            ((with_reducible refine mt_eq (fun _ => ?_) (fun _ => ?_)) <;> (conv => whnf))
            · rename_i h; exact absurd h.symm h9
            repeat' (first | ((with_reducible apply z_wrap); (focus omega); (conv => whnf)) | ((with_reducible refine mt_dec (fun _ => ?_) (fun _ => ?_)) <;> (conv => whnf)) | ((with_reducible refine mt_eq (fun _ => ?_) (fun _ => ?_)) <;> (conv => whnf)) | ((with_reducible refine mt_ne (fun _ => ?_) (fun _ => ?_)) <;> (conv => whnf)) | ((with_reducible refine mt_not (fun _ => ?_) (fun _ => ?_)) <;> (conv => whnf)) | ((with_reducible refine mt_any (fun _ => ?_) (fun _ => ?_)) <;> (conv => whnf)))
            refine (all_ok l1 q3).mono ?_
            rintro _ _ ⟨rfl, rfl⟩
            conv => whnf
            repeat' (first | ((with_reducible apply z_wrap); (focus omega); (conv => whnf)) | ((with_reducible refine mt_dec (fun _ => ?_) (fun _ => ?_)) <;> (conv => whnf)) | ((with_reducible refine mt_eq (fun _ => ?_) (fun _ => ?_)) <;> (conv => whnf)) | ((with_reducible refine mt_ne (fun _ => ?_) (fun _ => ?_)) <;> (conv => whnf)) | ((with_reducible refine mt_not (fun _ => ?_) (fun _ => ?_)) <;> (conv => whnf)) | ((with_reducible refine mt_any (fun _ => ?_) (fun _ => ?_)) <;> (conv => whnf)))
            (refine Or.inr ?_; (conv => whnf))
            refine (eqStrings_row l1.recs r false (by omega)).mono ?_
            rintro _ _ ⟨rfl, rfl⟩
            rw [decide_eq_true hrec]
            conv => whnf
            repeat' (first | ((with_reducible apply z_wrap); (focus omega); (conv => whnf)) | ((with_reducible refine mt_dec (fun _ => ?_) (fun _ => ?_)) <;> (conv => whnf)) | ((with_reducible refine mt_eq (fun _ => ?_) (fun _ => ?_)) <;> (conv => whnf)) | ((with_reducible refine mt_ne (fun _ => ?_) (fun _ => ?_)) <;> (conv => whnf)) | ((with_reducible refine mt_not (fun _ => ?_) (fun _ => ?_)) <;> (conv => whnf)) | ((with_reducible refine mt_any (fun _ => ?_) (fun _ => ?_)) <;> (conv => whnf)))
            refine (sync_dead l1 q1 (by rw [show l1.dead = z.2.dead by rw [← hl1]; rfl]; exact z2)).mono ?_
            rintro _ _ ⟨l2, rfl, rfl, hl2⟩
            rw [hl1] at hl2
            have q2 : l2.recs.length ≤ 100000 := by rw [show l2.recs = z.2.recs by rw [← hl2]; rfl, z3, ← p4]; exact p3
            have q5 : l2.d.dat.fine := by rw [show l2.d.dat = z.2.d by rw [← hl2]; rfl]; exact z4
            have q6 : 0 ≤ l2.size ∧ l2.size ≤ 524288 := by rw [show l2.size = z.2.size by rw [← hl2]; rfl]; exact z6
            conv => whnf
            repeat' (first | ((with_reducible apply z_wrap); (focus omega); (conv => whnf)) | ((with_reducible refine mt_dec (fun _ => ?_) (fun _ => ?_)) <;> (conv => whnf)) | ((with_reducible refine mt_eq (fun _ => ?_) (fun _ => ?_)) <;> (conv => whnf)) | ((with_reducible refine mt_ne (fun _ => ?_) (fun _ => ?_)) <;> (conv => whnf)) | ((with_reducible refine mt_not (fun _ => ?_) (fun _ => ?_)) <;> (conv => whnf)) | ((with_reducible refine mt_any (fun _ => ?_) (fun _ => ?_)) <;> (conv => whnf)))
            ((with_reducible refine (num10_ok 9).mono ?_); rintro _ _ ⟨rfl, rfl⟩; (conv => whnf))
            repeat' (first | ((with_reducible apply z_wrap); (focus omega); (conv => whnf)) | ((with_reducible refine mt_dec (fun _ => ?_) (fun _ => ?_)) <;> (conv => whnf)) | ((with_reducible refine mt_eq (fun _ => ?_) (fun _ => ?_)) <;> (conv => whnf)) | ((with_reducible refine mt_ne (fun _ => ?_) (fun _ => ?_)) <;> (conv => whnf)) | ((with_reducible refine mt_not (fun _ => ?_) (fun _ => ?_)) <;> (conv => whnf)) | ((with_reducible refine mt_any (fun _ => ?_) (fun _ => ?_)) <;> (conv => whnf)))
            refine (append_dead l2 q5 q6 q2 (by rw [show l2.dead = z.2.dead by rw [← hl2]; rfl]; exact z2) _ (by decide)).mono ?_
            rintro _ _ ⟨l3, rfl, rfl, hl3⟩
            rw [hl2] at hl3
            conv => whnf
            repeat' (first | ((with_reducible apply z_wrap); (focus omega); (conv => whnf)) | ((with_reducible refine mt_dec (fun _ => ?_) (fun _ => ?_)) <;> (conv => whnf)) | ((with_reducible refine mt_eq (fun _ => ?_) (fun _ => ?_)) <;> (conv => whnf)) | ((with_reducible refine mt_ne (fun _ => ?_) (fun _ => ?_)) <;> (conv => whnf)) | ((with_reducible refine mt_not (fun _ => ?_) (fun _ => ?_)) <;> (conv => whnf)) | ((with_reducible refine mt_any (fun _ => ?_) (fun _ => ?_)) <;> (conv => whnf)))
            ((with_reducible refine (num10_ok 9).mono ?_); rintro _ _ ⟨rfl, rfl⟩; (conv => whnf))
            repeat' (first | ((with_reducible apply z_wrap); (focus omega); (conv => whnf)) | ((with_reducible refine mt_dec (fun _ => ?_) (fun _ => ?_)) <;> (conv => whnf)) | ((with_reducible refine mt_eq (fun _ => ?_) (fun _ => ?_)) <;> (conv => whnf)) | ((with_reducible refine mt_ne (fun _ => ?_) (fun _ => ?_)) <;> (conv => whnf)) | ((with_reducible refine mt_not (fun _ => ?_) (fun _ => ?_)) <;> (conv => whnf)) | ((with_reducible refine mt_any (fun _ => ?_) (fun _ => ?_)) <;> (conv => whnf)))
            refine ⟨by simp only [rws, List.length_map, List.length_cons, List.length_nil]; omega, ?_⟩
            conv => whnf
            repeat' (first | ((with_reducible apply z_wrap); (focus omega); (conv => whnf)) | ((with_reducible refine mt_dec (fun _ => ?_) (fun _ => ?_)) <;> (conv => whnf)) | ((with_reducible refine mt_eq (fun _ => ?_) (fun _ => ?_)) <;> (conv => whnf)) | ((with_reducible refine mt_ne (fun _ => ?_) (fun _ => ?_)) <;> (conv => whnf)) | ((with_reducible refine mt_not (fun _ => ?_) (fun _ => ?_)) <;> (conv => whnf)) | ((with_reducible refine mt_any (fun _ => ?_) (fun _ => ?_)) <;> (conv => whnf)))
            rw [rws_app]
            refine ⟨(false, k + 1, 9, l3, r, can ++ [r']), rfl, rfl, ⟨⟨by show k + 1 ≤ 20; omega, by show k + 1 ≤ p.acts.length; omega, by rw [List.length_append, List.length_singleton]; omega⟩, hcan2, (fun h => by cases h), .inr ⟨rfl, ?_⟩⟩, by show p.acts.length - (k + 1) < p.acts.length - k; omega⟩
            rw [show l3.d.dat = z.2.d by rw [← hl3]; rfl]
            exact (cov_good hx hcov z4 z5).mono fun q hq => List.mem_append_left _ hq
          · conv => whnf
            ((with_reducible refine mt_eq (fun _ => ?_) (fun _ => ?_)) <;> (conv => whnf))
            · rename_i h; exact absurd h.symm h9
            repeat' (first | ((with_reducible apply z_wrap); (focus omega); (conv => whnf)) | ((with_reducible refine mt_dec (fun _ => ?_) (fun _ => ?_)) <;> (conv => whnf)) | ((with_reducible refine mt_eq (fun _ => ?_) (fun _ => ?_)) <;> (conv => whnf)) | ((with_reducible refine mt_ne (fun _ => ?_) (fun _ => ?_)) <;> (conv => whnf)) | ((with_reducible refine mt_not (fun _ => ?_) (fun _ => ?_)) <;> (conv => whnf)) | ((with_reducible refine mt_any (fun _ => ?_) (fun _ => ?_)) <;> (conv => whnf)))
            refine (all_ok l1 q3).mono ?_
            rintro _ _ ⟨rfl, rfl⟩
            conv => whnf
            repeat' (first | ((with_reducible apply z_wrap); (focus omega); (conv => whnf)) | ((with_reducible refine mt_dec (fun _ => ?_) (fun _ => ?_)) <;> (conv => whnf)) | ((with_reducible refine mt_eq (fun _ => ?_) (fun _ => ?_)) <;> (conv => whnf)) | ((with_reducible refine mt_ne (fun _ => ?_) (fun _ => ?_)) <;> (conv => whnf)) | ((with_reducible refine mt_not (fun _ => ?_) (fun _ => ?_)) <;> (conv => whnf)) | ((with_reducible refine mt_any (fun _ => ?_) (fun _ => ?_)) <;> (conv => whnf)))
            (refine Or.inr ?_; (conv => whnf))
            refine (eqStrings_row l1.recs r false (by omega)).mono ?_
            rintro _ _ ⟨rfl, rfl⟩
            rw [decide_eq_true hrec]
            conv => whnf
            repeat' (first | ((with_reducible apply z_wrap); (focus omega); (conv => whnf)) | ((with_reducible refine mt_dec (fun _ => ?_) (fun _ => ?_)) <;> (conv => whnf)) | ((with_reducible refine mt_eq (fun _ => ?_) (fun _ => ?_)) <;> (conv => whnf)) | ((with_reducible refine mt_ne (fun _ => ?_) (fun _ => ?_)) <;> (conv => whnf)) | ((with_reducible refine mt_not (fun _ => ?_) (fun _ => ?_)) <;> (conv => whnf)) | ((with_reducible refine mt_any (fun _ => ?_) (fun _ => ?_)) <;> (conv => whnf)))
            refine (sync_dead l1 q1 (by rw [show l1.dead = z.2.dead by rw [← hl1]; rfl]; exact z2)).mono ?_
            rintro _ _ ⟨l2, rfl, rfl, hl2⟩
            rw [hl1] at hl2
            have q2 : l2.recs.length ≤ 100000 := by rw [show l2.recs = z.2.recs by rw [← hl2]; rfl, z3, ← p4]; exact p3
            have q5 : l2.d.dat.fine := by rw [show l2.d.dat = z.2.d by rw [← hl2]; rfl]; exact z4
            have q6 : 0 ≤ l2.size ∧ l2.size ≤ 524288 := by rw [show l2.size = z.2.size by rw [← hl2]; rfl]; exact z6
            conv => whnf
            repeat' (first | ((with_reducible apply z_wrap); (focus omega); (conv => whnf)) | ((with_reducible refine mt_dec (fun _ => ?_) (fun _ => ?_)) <;> (conv => whnf)) | ((with_reducible refine mt_eq (fun _ => ?_) (fun _ => ?_)) <;> (conv => whnf)) | ((with_reducible refine mt_ne (fun _ => ?_) (fun _ => ?_)) <;> (conv => whnf)) | ((with_reducible refine mt_not (fun _ => ?_) (fun _ => ?_)) <;> (conv => whnf)) | ((with_reducible refine mt_any (fun _ => ?_) (fun _ => ?_)) <;> (conv => whnf)))
            ((with_reducible refine (num10_ok 9).mono ?_); rintro _ _ ⟨rfl, rfl⟩; (conv => whnf))
            repeat' (first | ((with_reducible apply z_wrap); (focus omega); (conv => whnf)) | ((with_reducible refine mt_dec (fun _ => ?_) (fun _ => ?_)) <;> (conv => whnf)) | ((with_reducible refine mt_eq (fun _ => ?_) (fun _ => ?_)) <;> (conv => whnf)) | ((with_reducible refine mt_ne (fun _ => ?_) (fun _ => ?_)) <;> (conv => whnf)) | ((with_reducible refine mt_not (fun _ => ?_) (fun _ => ?_)) <;> (conv => whnf)) | ((with_reducible refine mt_any (fun _ => ?_) (fun _ => ?_)) <;> (conv => whnf)))
            refine (append_dead l2 q5 q6 q2 (by rw [show l2.dead = z.2.dead by rw [← hl2]; rfl]; exact z2) _ (by decide)).mono ?_
            rintro _ _ ⟨l3, rfl, rfl, hl3⟩
            rw [hl2] at hl3
            conv => whnf
            repeat' (first | ((with_reducible apply z_wrap); (focus omega); (conv => whnf)) | ((with_reducible refine mt_dec (fun _ => ?_) (fun _ => ?_)) <;> (conv => whnf)) | ((with_reducible refine mt_eq (fun _ => ?_) (fun _ => ?_)) <;> (conv => whnf)) | ((with_reducible refine mt_ne (fun _ => ?_) (fun _ => ?_)) <;> (conv => whnf)) | ((with_reducible refine mt_not (fun _ => ?_) (fun _ => ?_)) <;> (conv => whnf)) | ((with_reducible refine mt_any (fun _ => ?_) (fun _ => ?_)) <;> (conv => whnf)))
            ((with_reducible refine (num10_ok 9).mono ?_); rintro _ _ ⟨rfl, rfl⟩; (conv => whnf))
            repeat' (first | ((with_reducible apply z_wrap); (focus omega); (conv => whnf)) | ((with_reducible refine mt_dec (fun _ => ?_) (fun _ => ?_)) <;> (conv => whnf)) | ((with_reducible refine mt_eq (fun _ => ?_) (fun _ => ?_)) <;> (conv => whnf)) | ((with_reducible refine mt_ne (fun _ => ?_) (fun _ => ?_)) <;> (conv => whnf)) | ((with_reducible refine mt_not (fun _ => ?_) (fun _ => ?_)) <;> (conv => whnf)) | ((with_reducible refine mt_any (fun _ => ?_) (fun _ => ?_)) <;> (conv => whnf)))
            refine ⟨by simp only [rws, List.length_map, List.length_cons, List.length_nil]; omega, ?_⟩
            conv => whnf
            repeat' (first | ((with_reducible apply z_wrap); (focus omega); (conv => whnf)) | ((with_reducible refine mt_dec (fun _ => ?_) (fun _ => ?_)) <;> (conv => whnf)) | ((with_reducible refine mt_eq (fun _ => ?_) (fun _ => ?_)) <;> (conv => whnf)) | ((with_reducible refine mt_ne (fun _ => ?_) (fun _ => ?_)) <;> (conv => whnf)) | ((with_reducible refine mt_not (fun _ => ?_) (fun _ => ?_)) <;> (conv => whnf)) | ((with_reducible refine mt_any (fun _ => ?_) (fun _ => ?_)) <;> (conv => whnf)))
            rw [rws_app]
            refine ⟨(false, k + 1, 9, l3, r, can ++ [r']), rfl, rfl, ⟨⟨by show k + 1 ≤ 20; omega, by show k + 1 ≤ p.acts.length; omega, by rw [List.length_append, List.length_singleton]; omega⟩, hcan2, (fun h => by cases h), .inr ⟨rfl, ?_⟩⟩, by show p.acts.length - (k + 1) < p.acts.length - k; omega⟩
            rw [show l3.d.dat = z.2.d by rw [← hl3]; rfl]
            exact (cov_good hx hcov z4 z5).mono fun q hq => List.mem_append_left _ hq
      · exact ⟨(l.d, can), rfl, rfl, ⟨cov_good hx hcov p1 (by rw [show l.d.dat = (x.lu u).d by rw [← hl]; rfl]; rfl), hcan⟩, by show can.length ≤ 100; omega⟩
      · exact ⟨(l.d, can), rfl, rfl, ⟨cov_good hx hcov p1 (by rw [show l.d.dat = (x.lu u).d by rw [← hl]; rfl]; rfl), hcan⟩, by show can.length ≤ 100; omega⟩
    · conv => whnf
      repeat' (first | ((with_reducible apply z_wrap); (focus omega); (conv => whnf)) | ((with_reducible refine mt_dec (fun _ => ?_) (fun _ => ?_)) <;> (conv => whnf)) | ((with_reducible refine mt_eq (fun _ => ?_) (fun _ => ?_)) <;> (conv => whnf)) | ((with_reducible refine mt_ne (fun _ => ?_) (fun _ => ?_)) <;> (conv => whnf)) | ((with_reducible refine mt_not (fun _ => ?_) (fun _ => ?_)) <;> (conv => whnf)) | ((with_reducible refine mt_any (fun _ => ?_) (fun _ => ?_)) <;> (conv => whnf)))
      all_goals exact ⟨(l.d, can), rfl, rfl, ⟨hgood, hcan⟩, by show can.length ≤ 100; omega⟩
end Go.Proofs.Ytpedbknmkgcldaa
