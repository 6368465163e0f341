/- Part of the proof of AuditShuffles: the contracts of the functions. -/
import Derived.Test.YtoeppembokpjkaaGreatAuditShufflesCodG

set_option linter.unusedVariables false
set_option linter.unusedSimpArgs false
namespace Go.Proofs.YtoeppembokpjkaaGreat
open Go.Ab Go.RowKit Go.MapKept
attribute [local irreducible] ACalls AW ADraw Into fltB fnear
set_option maxRecDepth 100000
end Go.Proofs.YtoeppembokpjkaaGreat

namespace Go.Proofs.YtoeppembokpjkaaGreat
open Go.Ab Go.RowKit Go.MapKept
attribute [local irreducible] ACalls AW ADraw Into fltB fnear
set_option maxRecDepth 100000
/-! ## the page's Dag -/
inductive Lft (d : Dag) : List Cert → List Cert → Prop where
  | nil : Lft d [] []
  | keep (c : Cert) {l left : List Cert} : Lft d l left → Lft d (c :: l) (c :: left)
  | skip (c : Cert) {l left : List Cert} : c ∈ d.certs → Lft d l left → Lft d (c :: l) left
theorem Lft.all (d : Dag) : ∀ l : List Cert, Lft d l l
  | [] => .nil
  | c :: l => .keep c (Lft.all d l)
theorem Lft.mono {d d' : Dag} (h : ∀ c ∈ d.certs, c ∈ d'.certs) {l left : List Cert} (k : Lft d l left) : Lft d' l left := by
  induction k with
  | nil => exact .nil
  | keep c _ ih => exact .keep c ih
  | skip c hc _ ih => exact .skip c (h c hc) ih
theorem mem_putE {d : Dag} {c : Cert} (h : c ∈ d.certs) : putE d c ≠ 0 := fun e => (putE_ok e).2.2.1 c h rfl
theorem Lft.none {d : Dag} {l left : List Cert} (k : Lft d l left) (h : ∀ c ∈ l, putE d c ≠ 0) : ∀ c ∈ left, putE d c ≠ 0 := by
  induction k with
  | nil => simp
  | keep c _ ih =>
    intro x hx
    rcases List.mem_cons.1 hx with rfl | hx
    · exact h _ (List.mem_cons_self ..)
    · exact ih (fun y hy => h y (List.mem_cons_of_mem _ hy)) x hx
  | skip c hc _ ih => exact ih (fun y hy => h y (List.mem_cons_of_mem _ hy))
theorem Lft.first {d : Dag} {l left : List Cert} (k : Lft d l left) : ∀ {i : Nat} {c : Cert}, l[i]? = some c → putE d c = 0 → (∀ (j : Nat) y, j < i → l[j]? = some y → putE d y ≠ 0) →
    ∃ m, left[m]? = some c ∧ (∀ (j : Nat) y, j < m → left[j]? = some y → putE d y ≠ 0) ∧ Lft (insC d c) l (left.take m ++ left.drop (m + 1)) := by
  have hup : ∀ (c : Cert), ∀ y ∈ d.certs, y ∈ (insC d c).certs := fun c y hy => mem_insC.2 (.inr hy)
  induction k with
  | nil => intro i c h; simp at h
  | keep x k ih =>
    intro i c h hp hno
    cases i with
    | zero =>
      simp at h
      subst h
      exact ⟨0, by simp, fun j y hj => absurd hj (by omega), by simpa using Lft.skip x (mem_insC.2 (.inl rfl)) (k.mono (hup x))⟩
    | succ i =>
      obtain ⟨m, h1, h2, h3⟩ := ih (by simpa using h) hp (fun j y hj hy => hno (j + 1) y (by omega) (by simpa using hy))
      refine ⟨m + 1, by simpa using h1, fun j y hj hy => ?_, by simpa using Lft.keep x h3⟩
      cases j with
      | zero => exact hno 0 y (by omega) (by simpa using hy)
      | succ j => exact h2 j y (by omega) (by simpa using hy)
  | skip x hx k ih =>
    intro i c h hp hno
    cases i with
    | zero =>
      simp at h
      subst h
      exact absurd hp (mem_putE hx)
    | succ i =>
      obtain ⟨m, h1, h2, h3⟩ := ih (by simpa using h) hp (fun j y hj hy => hno (j + 1) y (by omega) (by simpa using hy))
      exact ⟨m, h1, h2, .skip x (hup c x hx) h3⟩
end Go.Proofs.YtoeppembokpjkaaGreat

namespace Go.Proofs.YtoeppembokpjkaaGreat
open Go.Ab Go.RowKit Go.MapKept
attribute [local irreducible] ACalls AW ADraw Into fltB fnear
set_option maxRecDepth 100000
/-! ## weights -/
def Cert.light (c : Cert) : Prop := c.bats.length ≤ 3000 ∧ c.pars.length ≤ 3000 ∧ c.sigs.length ≤ 3000
theorem certsW3_ok (l : List Cert) (hl : few l) (h : ∀ c ∈ l, c.ok) : ACalls Tryz.prog 58 [.d (.sl 6 (certsD l))] [] (fun av L => (∃ n : Int, av = .d (.int .i64 n) ∧ (n ≤ 3000 → ∀ c ∈ l, c.light)) ∧ L = []) := by
  have hcl := certsD_length l
  unfold few at hl
  refine acalls_go ttOk zOk foOk Tryz.func58 rfl Tryz.ntmps58 rfl false rfl ?_
  conv => whnf
  refine loop_go2 ttOk zOk foOk (σ := Int) (ρ := Nat) (fun w j => ([(0, .d (.sl 6 (certsD l))), (3, .d (.int .i64 w)), (4, .d (.int .i64 j))], [])) (fun w j => j ≤ l.length ∧ (0 ≤ w ∧ w ≤ 1000000000000000) ∧ (w ≤ 3000 → ∀ c ∈ l.take j, c.light)) (fun _ j => l.length - j) [0, 3, 4] ?_ ?_
  · conv => whnf
    exact ⟨l.length, 0, by rw [hcl]; rfl, rfl, by omega, ⟨by omega, by omega⟩, by simp⟩
  · rintro w j ⟨hj, ⟨hw0, hw1⟩, hall⟩
    conv => whnf
    rw [hcl]
    repeat' (first | ((with_reducible apply z_wrap); (focus omega); (conv => whnf)) | ((with_reducible first | apply mt_dec | apply mt_eq | apply mt_ne | apply mt_not | apply mt_any) <;> (intro _; conv => whnf)))
    · rename_i hjl hwl
      refine Exists.elim (⟨_, List.getElem?_eq_getElem (by omega)⟩ : ∃ c, l[j]? = some c) fun c hc => ?_
      have hk := h c (List.mem_of_getElem? hc)
      have h1 := hk.bats.1
      have h2 := hk.pars.1
      have h3 := hk.sigs.1
      unfold few at h1 h2 h3
      refine ⟨by omega, c.cs, certsD_at hc, ?_⟩
      conv => whnf
      refine (certW_ok c hk).mono ?_
      rintro _ _ ⟨rfl, rfl⟩
      conv => whnf
      repeat' (first | ((with_reducible apply z_wrap); (focus omega); (conv => whnf)) | ((with_reducible first | apply mt_dec | apply mt_eq | apply mt_ne | apply mt_not | apply mt_any) <;> (intro _; conv => whnf)))
      refine ⟨_, j + 1, rfl, rfl, ⟨by omega, ⟨by omega, by omega⟩, fun hw y hy => ?_⟩, by omega⟩
      rw [take_snoc' hc] at hy
      rcases List.mem_append.1 hy with hy | hy
      · exact hall (by omega) y hy
      · simp at hy; rw [hy]; exact ⟨by omega, by omega, by omega⟩
    · exact ⟨⟨_, rfl, fun hw => by omega⟩, rfl⟩
    · rw [List.take_of_length_le (by omega)] at hall
      exact ⟨⟨_, rfl, hall⟩, rfl⟩
end Go.Proofs.YtoeppembokpjkaaGreat

namespace Go.Proofs.YtoeppembokpjkaaGreat
open Go.Ab Go.RowKit Go.MapKept
attribute [local irreducible] ACalls AW ADraw Into fltB fnear
set_option maxRecDepth 100000
/-! ## the page's May, Order, Follows -/
theorem rMay25_ok (n : Int) (l : List Cert) (hl : l.length ≤ 60000) (hf : ∀ c ∈ l, fewL c) : ACalls Tryz.prog 35 [.d (.int .i64 n), .d (.sl 6 (certsD l))] [] (fun av L => av = .d (.bool (okAll n l)) ∧ L = []) := by
  have hcl := certsD_length l
  refine acalls_go ttOk zOk foOk Tryz.func35 rfl Tryz.ntmps35 rfl false rfl ?_
  conv => whnf
  refine (rMay_ok n).mono ?_
  rintro _ _ ⟨rfl, rfl⟩
  cases hn : isN n with
  | false =>
    conv => whnf
    repeat' (first | ((with_reducible apply z_wrap); (focus omega); (conv => whnf)) | ((with_reducible first | apply mt_dec | apply mt_eq | apply mt_ne | apply mt_not | apply mt_any) <;> (intro _; conv => whnf)))
    exact ⟨by rw [okAll, hn]; rfl, rfl⟩
  | true =>
    conv => whnf
    repeat' (first | ((with_reducible apply z_wrap); (focus omega); (conv => whnf)) | ((with_reducible first | apply mt_dec | apply mt_eq | apply mt_ne | apply mt_not | apply mt_any) <;> (intro _; conv => whnf)))
    refine loop_go ttOk zOk foOk (σ := Nat) (fun i => ([(0, .d (.int .i64 n)), (1, .d (.sl 6 (certsD l))), (5, .d (.int .i64 i))], [])) (fun i => i ≤ l.length ∧ ∀ c ∈ l.take i, okC n c = true) (fun i => l.length - i) [0, 1, 5] ?_ ?_
    · conv => whnf
      exact ⟨0, rfl, rfl, Nat.zero_le _, by simp⟩
    · rintro i ⟨hi, hall⟩
      conv => whnf
      rw [hcl]
      repeat' (first | ((with_reducible apply z_wrap); (focus omega); (conv => whnf)) | ((with_reducible first | apply mt_dec | apply mt_eq | apply mt_ne | apply mt_not | apply mt_any) <;> (intro _; conv => whnf)))
      · rename_i hil
        refine Exists.elim (⟨_, List.getElem?_eq_getElem (by omega)⟩ : ∃ c, l[i]? = some c) fun c hc => ?_
        refine ⟨by omega, c.cs, certsD_at hc, ?_⟩
        conv => whnf
        repeat' (first | ((with_reducible apply z_wrap); (focus omega); (conv => whnf)) | ((with_reducible first | apply mt_dec | apply mt_eq | apply mt_ne | apply mt_not | apply mt_any) <;> (intro _; conv => whnf)))
        refine (rCert_ok c (hf c (List.mem_of_getElem? hc)) n).mono ?_
        rintro _ _ ⟨rfl, rfl⟩
        rw [show (@decide (okCert n c) (Classical.propDecidable _)) = okC n c from rfl]
        cases hb : okC n c with
        | true =>
          conv => whnf
          repeat' (first | ((with_reducible apply z_wrap); (focus omega); (conv => whnf)) | ((with_reducible first | apply mt_dec | apply mt_eq | apply mt_ne | apply mt_not | apply mt_any) <;> (intro _; conv => whnf)))
          refine ⟨i + 1, rfl, rfl, ⟨by omega, fun y hy => ?_⟩, by omega⟩
          rw [List.take_add_one, hc] at hy
          rcases List.mem_append.1 hy with h | h
          · exact hall y h
          · simp at h; rw [h]; exact hb
        | false =>
          conv => whnf
          repeat' (first | ((with_reducible apply z_wrap); (focus omega); (conv => whnf)) | ((with_reducible first | apply mt_dec | apply mt_eq | apply mt_ne | apply mt_not | apply mt_any) <;> (intro _; conv => whnf)))
          refine ⟨?_, rfl⟩
          have : okAll n l = false := by
            rw [okAll, hn]
            simp only [Bool.true_and, List.all_eq_false]
            exact ⟨c, List.mem_of_getElem? hc, by simp [hb]⟩
          rw [this]; rfl
      · rename_i hil
        have : okAll n l = true := by
          rw [okAll, hn, List.take_of_length_le (by omega)] at *
          simp only [Bool.true_and, List.all_eq_true]
          exact hall
        rw [this]
        exact ⟨rfl, rfl⟩
/-! ## what is asked -/
structure AskA where
  n : Int
  l : List Cert
  outs : List Int
def AskA.cells (p : AskA) : List AV := [.d (.int .i64 p.n), .d (.sl 6 (certsD p.l)), .d (.sl 1 (nums p.outs))]
def AskA.av (p : AskA) : AV := .agg p.cells
structure AskA.ok (p : AskA) : Prop where
  n : i64 p.n
  l : few p.l ∧ ∀ c ∈ p.l, c.ok
  outs : few p.outs ∧ ∀ x ∈ p.outs, i64 x
structure AskA.light (p : AskA) : Prop where
  len : p.l.length ≤ 60
  light : ∀ c ∈ p.l, c.light
  outs : p.outs.length ≤ 200
theorem heavy25_ok (p : AskA) (h : p.ok) : ACalls Tryz.prog 22 [p.av] [] (fun av L => (∃ b, av = .d (.bool b) ∧ (b = false → p.light)) ∧ L = []) := by
  have hcl := certsD_length p.l
  have hol := nums_length p.outs
  refine acalls_go ttOk zOk foOk Tryz.func22 rfl Tryz.ntmps22 rfl false rfl ?_
  conv => whnf
  rw [hcl]
  repeat' (first | ((with_reducible apply z_wrap); (focus omega); (conv => whnf)) | ((with_reducible first | apply mt_dec | apply mt_eq | apply mt_ne | apply mt_not | apply mt_any) <;> (intro _; conv => whnf)))
  · exact ⟨⟨_, rfl, fun e => by cases e⟩, rfl⟩
  · rename_i h1
    refine (certsW3_ok p.l h.l.1 h.l.2).mono ?_
    rintro _ _ ⟨⟨w, rfl, hw⟩, rfl⟩
    conv => whnf
    repeat' (first | ((with_reducible apply z_wrap); (focus omega); (conv => whnf)) | ((with_reducible first | apply mt_dec | apply mt_eq | apply mt_ne | apply mt_not | apply mt_any) <;> (intro _; conv => whnf)))
    · exact ⟨⟨_, rfl, fun e => by cases e⟩, rfl⟩
    · rename_i h2
      refine ⟨⟨_, rfl, fun e => ⟨by omega, hw (by omega), ?_⟩⟩, rfl⟩
      have := of_decide_eq_false e
      omega
theorem Cert.light.all {c : Cert} (h : c.light) : fewL c ∧ c.tiny := by
  obtain ⟨h1, h2, h3⟩ := h
  exact ⟨⟨by unfold few; omega, by unfold few; omega, by unfold few; omega⟩, ⟨by show c.bats.length ≤ _; omega, by show c.pars.length ≤ _; omega, by show c.sigs.length ≤ _; omega⟩⟩
theorem AskA.light.all {p : AskA} (h : p.light) : ∀ c ∈ p.l, fewL c ∧ c.tiny := fun c hc => (h.light c hc).all
theorem num25_ok (n : Int) : ACalls Tryz.prog 27 [.d (.int .i64 n)] [] (fun av L => av = .d (.int .i64 n) ∧ L = []) := by
  refine acalls_go ttOk zOk foOk Tryz.func27 rfl Tryz.ntmps27 rfl false rfl ?_
  conv => whnf
  exact ⟨rfl, rfl⟩
/-! ## audit.Dag, as data -/
theorem ownCerts_row (l : List Cert) (hl : tiny l) (h : ∀ c ∈ l, c.tiny) : ACalls Tryz.prog 90 [.d (.sl 6 (certsD l))] [] (fun av L => av = .arr 0 ∧ L = [.row 68 6 (certsD l) false]) := by
  have hx := certsD_length l
  unfold tiny at hl
  refine acalls_go ttOk zOk foOk Tryz.func90 rfl Tryz.ntmps90 rfl true rfl ?_
  conv => whnf
  refine loop_go ttOk zOk foOk (σ := Nat) (fun k => ([(5, .d (.sl 6 (certsD l))), (6, .d (.int .i64 l.length)), (7, .d (.int .i64 k)), (2, .arr 0)], [.row 68 6 (certsD (l.take k)) false])) (fun k => k ≤ l.length) (fun k => l.length - k) [5, 6, 7, 2] ?_ ?_
  · conv => whnf
    exact ⟨0, by rw [hx]; rfl, rfl, by omega⟩
  · intro k hk
    conv => whnf
    repeat' (first | ((with_reducible apply z_wrap); (focus omega); (conv => whnf)) | ((with_reducible first | apply mt_dec | apply mt_eq | apply mt_ne | apply mt_not | apply mt_any) <;> (intro _; conv => whnf)))
    · rename_i h2
      refine Exists.elim (⟨_, List.getElem?_eq_getElem (by omega)⟩ : ∃ a, l[k]? = some a) fun a ha => ?_
      have hkn := certsD_length (l.take k)
      refine ⟨by omega, a.cs, certsD_at ha, ?_⟩
      conv => whnf
      repeat' (first | ((with_reducible apply z_wrap); (focus omega); (conv => whnf)) | ((with_reducible first | apply mt_dec | apply mt_eq | apply mt_ne | apply mt_not | apply mt_any) <;> (intro _; conv => whnf)))
      refine (ownCert_ok a (h a (List.mem_of_getElem? ha))).mono ?_
      rintro _ _ ⟨rfl, rfl⟩
      conv => whnf
      repeat' (first | ((with_reducible apply z_wrap); (focus omega); (conv => whnf)) | ((with_reducible first | apply mt_dec | apply mt_eq | apply mt_ne | apply mt_not | apply mt_any) <;> (intro _; conv => whnf)))
      refine ⟨by simp [hkn]; omega, ?_⟩
      conv => whnf
      repeat' (first | ((with_reducible apply z_wrap); (focus omega); (conv => whnf)) | ((with_reducible first | apply mt_dec | apply mt_eq | apply mt_ne | apply mt_not | apply mt_any) <;> (intro _; conv => whnf)))
      refine ⟨k + 1, rfl, ?_, by omega, by omega⟩
      rw [List.take_add_one, ha]
      simp [certsD, Cert.cs]
    · rename_i h2
      rw [List.take_of_length_le (by omega)]
      exact ⟨rfl, rfl⟩
theorem dagOwn_row (d : Dag) (hl : tiny d.certs) (h : ∀ c ∈ d.certs, c.tiny) : ACalls Tryz.prog 62 [d.av] [] (fun av L => av = .agg [.d (.int .i64 d.nodes), .d (.int .i64 d.low), .arr 0] ∧ L = [.row 68 6 (certsD d.certs) false]) := by
  have h1 := ownCerts_row d.certs hl h
  refine acalls_go ttOk zOk foOk Tryz.func62 rfl Tryz.ntmps62 rfl true rfl ?_
  conv => whnf
  refine h1.mono ?_
  rintro _ _ ⟨rfl, rfl⟩
  conv => whnf
  repeat' (first | ((with_reducible apply z_wrap); (focus omega); (conv => whnf)) | ((with_reducible first | apply mt_dec | apply mt_eq | apply mt_ne | apply mt_not | apply mt_any) <;> (intro _; conv => whnf)))
  exact ⟨rfl, rfl⟩
theorem dagOwn_ok (d : Dag) (hl : tiny d.certs) (h : ∀ c ∈ d.certs, c.tiny) : ACalls Tryz.prog 62 [d.av] [] (fun av L => av = d.av ∧ L = []) := by
  refine acalls_data (dagOwn_row d hl h) ?_
  rintro _ _ ⟨rfl, rfl⟩
  conv => whnf
  exact ⟨rfl, rfl⟩
noncomputable def adagAV (n : Int) (l : List Cert) : AV := if okAll n l = true then .tup [(buildD n l).av, .d (.int .i64 0)] else .tup [.agg [.d (.int .i64 0), .d (.int .i64 0), .d .nils], .d (.int .i64 1)]
theorem auditDag_ok (n : Int) (l : List Cert) (hl : l.length ≤ 60000) (hf : ∀ c ∈ l, fewL c ∧ c.tiny) : ACalls Tryz.prog 26 [.d (.int .i64 n), .d (.sl 6 (certsD l))] [] (fun av L => av = adagAV n l ∧ L = []) := by
  have hmay := auditMay_ok n l (by unfold few; omega) (fun c hc => (hf c hc).1)
  rw [show (isN n && l.all fun c => okC n c) = okAll n l from rfl] at hmay
  refine acalls_go ttOk zOk foOk Tryz.func26 rfl Tryz.ntmps26 rfl false rfl ?_
  conv => whnf
  refine hmay.mono ?_
  rintro _ _ ⟨rfl, rfl⟩
  rw [adagAV]
  cases hb : okAll n l with
  | false =>
    conv => whnf
    repeat' (first | ((with_reducible apply z_wrap); (focus omega); (conv => whnf)) | ((with_reducible first | apply mt_dec | apply mt_eq | apply mt_ne | apply mt_not | apply mt_any) <;> (intro _; conv => whnf)))
    exact ⟨rfl, rfl⟩
  | true =>
    obtain ⟨h1, h2⟩ := okAll_iff.1 hb
    have hval := (buildD_valid h1 hl h2).1
    have hto := dagOwn_ok (buildD n l) hval.tiny.1 hval.tiny.2
    conv => whnf
    repeat' (first | ((with_reducible apply z_wrap); (focus omega); (conv => whnf)) | ((with_reducible first | apply mt_dec | apply mt_eq | apply mt_ne | apply mt_not | apply mt_any) <;> (intro _; conv => whnf)))
    refine (build_ok n h1 l hl fun c hc => ⟨h2 c hc, (hf c hc).2⟩).mono ?_
    rintro _ _ ⟨rfl, rfl⟩
    obtain ⟨d, hd⟩ : ∃ d, buildD n l = d := ⟨_, rfl⟩
    rw [hd] at hto ⊢
    conv => whnf
    refine hto.mono ?_
    rintro _ _ ⟨rfl, rfl⟩
    conv => whnf
    repeat' (first | ((with_reducible apply z_wrap); (focus omega); (conv => whnf)) | ((with_reducible first | apply mt_dec | apply mt_eq | apply mt_ne | apply mt_not | apply mt_any) <;> (intro _; conv => whnf)))
    exact ⟨rfl, rfl⟩
/-! ## wakes -/
def cw : Cert := ⟨1, 1, [], [], 3, [1]⟩
theorem cw_ok : okCert 1 cw := by
  refine ⟨⟨by decide, by decide, by decide, ⟨by decide, List.Pairwise.nil, by simp [cw]⟩, ⟨by decide, List.Pairwise.nil, by simp [cw]⟩, fun _ => rfl, fun h => absurd rfl h⟩, by decide, ⟨List.pairwise_singleton _ _, by simp [cw]⟩, by decide⟩
theorem cw_all : okAll 1 [cw] = true := okAll_iff.2 ⟨by decide, fun c hc => by rw [List.mem_singleton.1 hc]; exact cw_ok⟩
theorem cw_build : buildD 1 [cw] = ⟨1, 0, [cw]⟩ := by rfl
theorem few_nil {α : Type} : few ([] : List α) := Nat.zero_le _
theorem cw_few : fewL cw ∧ cw.tiny := ⟨⟨few_nil, few_nil, by show 1 ≤ _; decide⟩, ⟨Nat.zero_le _, Nat.zero_le _, by show 1 ≤ _; decide⟩⟩
theorem wakes25_ok : ACalls Tryz.prog 30 [] [] (fun av L => av = .d (.bool true) ∧ L = []) := by
  have h1 := follows_audit 4 [] (by decide) (by simp) [] few_nil
  rw [show folB 4 [] [] = true by simp [folB, okAll, begins, isN], show ordE 4 [] = 0 by simp [ordE, okAll, isN]] at h1
  have h2 := auditDag_ok 1 [cw] (by decide) (fun c hc => by rw [List.mem_singleton.1 hc]; exact cw_few)
  rw [adagAV, if_pos cw_all, cw_build] at h2
  refine acalls_go ttOk zOk foOk Tryz.func30 rfl Tryz.ntmps30 rfl false rfl ?_
  conv => whnf
  refine h1.mono ?_
  rintro _ _ ⟨rfl, rfl⟩
  conv => whnf
  repeat' (first | ((with_reducible apply z_wrap); (focus omega); (conv => whnf)) | ((with_reducible first | apply mt_dec | apply mt_eq | apply mt_ne | apply mt_not | apply mt_any) <;> (intro _; conv => whnf)))
  (refine Or.inl ?_; (conv => whnf))
  refine h2.mono ?_
  rintro _ _ ⟨rfl, rfl⟩
  conv => whnf
  repeat' (first | ((with_reducible apply z_wrap); (focus omega); (conv => whnf)) | ((with_reducible first | apply mt_dec | apply mt_eq | apply mt_ne | apply mt_not | apply mt_any) <;> (intro _; conv => whnf)))
  refine (num25_ok 0).mono ?_
  rintro _ _ ⟨rfl, rfl⟩
  conv => whnf
  repeat' (first | ((with_reducible apply z_wrap); (focus omega); (conv => whnf)) | ((with_reducible first | apply mt_dec | apply mt_eq | apply mt_ne | apply mt_not | apply mt_any) <;> (intro _; conv => whnf)))
  refine (num25_ok 0).mono ?_
  rintro _ _ ⟨rfl, rfl⟩
  conv => whnf
  repeat' (first | ((with_reducible apply z_wrap); (focus omega); (conv => whnf)) | ((with_reducible first | apply mt_dec | apply mt_eq | apply mt_ne | apply mt_not | apply mt_any) <;> (intro _; conv => whnf)))
  exact ⟨rfl, rfl⟩
end Go.Proofs.YtoeppembokpjkaaGreat

namespace Go.Proofs.YtoeppembokpjkaaGreat
open Go.Ab Go.RowKit
theorem askA_nums {xs : List (List DV)} (h : ∀ x ∈ xs, ∃ n, x = [DV.int .i64 n] ∧ (Lit.int .i64 n).wf = true) : ∃ l : List Int, xs = nums l ∧ ∀ n ∈ l, i64 n :=
  map_of (f := fun n : Int => [.int .i64 n]) fun x hx => by
    obtain ⟨n, h1, h2⟩ := h x hx
    have hb : -9223372036854775808 ≤ n ∧ n ≤ 9223372036854775807 := by simpa [Lit.wf, IntKind.min, IntKind.max, IntKind.signed, IntKind.bits] using h2
    exact ⟨n, h1, hb.1, by omega⟩
theorem askA_i64 {n : Int} (h2 : (Lit.int .i64 n).wf = true) : i64 n := by
  have hb : -9223372036854775808 ≤ n ∧ n ≤ 9223372036854775807 := by simpa [Lit.wf, IntKind.min, IntKind.max, IntKind.signed, IntKind.bits] using h2
  exact ⟨hb.1, by omega⟩
theorem askA_row {a : List DV} (h : ∃ xs, a = [DV.sl 1 xs] ∧ xs.length * 8 ≤ 140737488355328 ∧ ∀ x ∈ xs, ∃ n, x = [DV.int .i64 n] ∧ (Lit.int .i64 n).wf = true) : ∃ l : List Int, a = [.sl 1 (nums l)] ∧ few l ∧ ∀ n ∈ l, i64 n := by
  obtain ⟨xs, rfl, h1, h2⟩ := h
  obtain ⟨l, rfl, hl⟩ := askA_nums h2
  rw [nums_length] at h1
  exact ⟨l, rfl, by unfold few; omega, hl⟩
theorem askA_cert {ds : List DV} (h : DTy tt 4 68 ds) : ∃ c : Cert, ds = c.cs ∧ c.ok := by
  replace h : DTyF (DTy tt 3) [66, 3, 26] ds := h
  obtain ⟨a1, b1, rfl, h1, a2, b2, rfl, h2, a3, b3, rfl, h3, rfl⟩ := h
  replace h1 : DTyF (DTy tt 2) [3, 3, 26, 26] a1 := h1
  obtain ⟨a4, b4, rfl, h4, a5, b5, rfl, h5, a6, b6, rfl, h6, a7, b7, rfl, h7, rfl⟩ := h1
  replace h4 : ∃ x, a4 = [.int .i64 x] ∧ (Lit.int .i64 x).wf = true := h4
  replace h5 : ∃ x, a5 = [.int .i64 x] ∧ (Lit.int .i64 x).wf = true := h5
  replace h2 : ∃ x, a2 = [.int .i64 x] ∧ (Lit.int .i64 x).wf = true := h2
  obtain ⟨l6, rfl, f6, e6⟩ := askA_row h6
  obtain ⟨l7, rfl, f7, e7⟩ := askA_row h7
  obtain ⟨l3, rfl, f3, e3⟩ := askA_row h3
  obtain ⟨x4, rfl, w4⟩ := h4
  obtain ⟨x5, rfl, w5⟩ := h5
  obtain ⟨x2, rfl, w2⟩ := h2
  exact ⟨⟨x4, x5, l6, l7, x2, l3⟩, rfl, askA_i64 w4, askA_i64 w5, ⟨f6, e6⟩, ⟨f7, e7⟩, askA_i64 w2, ⟨f3, e3⟩⟩
theorem askA_of {ds : List DV} (h : DTy tt 6 49 ds) : ∃ p : AskA, argS ds = p.av ∧ p.ok := by
  replace h : DTyF (DTy tt 5) [3, 22, 26] ds := h
  obtain ⟨a1, b1, rfl, h1, a2, b2, rfl, h2, a3, b3, rfl, h3, rfl⟩ := h
  replace h1 : ∃ x, a1 = [.int .i64 x] ∧ (Lit.int .i64 x).wf = true := h1
  replace h2 : ∃ xs, a2 = [.sl 6 xs] ∧ xs.length * 96 ≤ 140737488355328 ∧ ∀ x ∈ xs, DTy tt 4 68 x := h2
  obtain ⟨x1, rfl, w1⟩ := h1
  obtain ⟨x2, rfl, w2, e2⟩ := h2
  obtain ⟨l, rfl, hl⟩ := map_of (f := Cert.cs) fun x hx => askA_cert (e2 x hx)
  obtain ⟨l3, rfl, f3, e3⟩ := askA_row h3
  simp only [List.length_map] at w2
  exact ⟨⟨x1, l, l3⟩, rfl, askA_i64 w1, ⟨by show l.length ≤ _; omega, hl⟩, ⟨f3, e3⟩⟩
end Go.Proofs.YtoeppembokpjkaaGreat

namespace Go.Proofs.YtoeppembokpjkaaGreat
open Go.Ab Go.RowKit Go.MapKept
attribute [local irreducible] ACalls AW ADraw Into fltB fnear
set_option maxRecDepth 100000
/-! ## AuditShuffles: the plain law -/
def clear2 (l : List Cert) : Prop := l.Pairwise fun a b => a.digest ≠ b.digest ∧ ¬ (a.round = b.round ∧ a.author = b.author)
theorem clear_eq {l : List Cert} (h : clear2 l) {a b : Cert} (ha : a ∈ l) (hb : b ∈ l) (he : a.digest = b.digest ∨ a.round = b.round ∧ a.author = b.author) : a = b := by
  induction l with
  | nil => cases ha
  | cons x r ih =>
    obtain ⟨h1, h2⟩ := List.pairwise_cons.1 h
    rcases List.mem_cons.1 ha with ha2 | ha2 <;> rcases List.mem_cons.1 hb with hb2 | hb2
    · rw [ha2, hb2]
    · subst ha2
      have := h1 b hb2
      rcases he with e | e
      · exact absurd e this.1
      · exact absurd e this.2
    · subst hb2
      have := h1 a ha2
      rcases he with e | ⟨e1, e2⟩
      · exact absurd e.symm this.1
      · exact absurd ⟨e1.symm, e2.symm⟩ this.2
    · exact ih h2 ha2 hb2
/-- nothing more can be added -/
def full (d : Dag) (l : List Cert) : Prop := ∀ c ∈ l, putE d c ≠ 0
theorem putE_new {d : Dag} (hd : d.low = 0) {c : Cert} (hr : 1 ≤ c.round) (h1 : ∀ y ∈ d.certs, y.digest ≠ c.digest ∧ ¬ (y.round = c.round ∧ y.author = c.author)) (h2 : lackI d c = []) : putE d c = 0 := by
  have ha : atC d.certs c.round c.author = none := by
    unfold atC
    rw [List.find?_eq_none]
    intro y hy
    simpa using (h1 y hy).2
  have hb : (d.certs.any fun y => y.digest == c.digest) = false := by
    rw [List.any_eq_false]
    intro y hy
    simpa using (h1 y hy).1
  rw [putE, if_neg (by omega), ha]
  simp [hb, h2]
theorem part_mem {l : List Cert} (hl : clear2 l) (hr1 : ∀ c ∈ l, 1 ≤ c.round) {d e : Dag} (hd : Valid d) (hd0 : d.low = 0) (he0 : e.low = 0) (hds : ∀ c ∈ d.certs, c ∈ l) (hes : ∀ c ∈ e.certs, c ∈ l) (hf : full e l) :
    ∀ (n : Nat) (c : Cert), c ∈ d.certs → c.round ≤ n → c ∈ e.certs
  | 0, c, hc, hn => by have := hr1 c (hds c hc); omega
  | n + 1, c, hc, hn => by
    refine Classical.byContradiction fun hne => hf c (hds c hc) (putE_new he0 (hr1 c (hds c hc)) (fun y hy => ?_) ?_)
    · constructor
      · intro h
        have := clear_eq hl (hes y hy) (hds c hc) (.inl h)
        exact hne (this ▸ hy)
      · intro h
        have := clear_eq hl (hes y hy) (hds c hc) (.inr h)
        exact hne (this ▸ hy)
    · unfold lackI
      by_cases hlow : c.round ≤ e.low + 1
      · rw [if_pos hlow]
      · rw [if_neg hlow, List.filter_eq_nil_iff]
        intro x hx
        obtain ⟨y, hy, hyx, hyr⟩ := hd.here c hc (by omega) x hx
        have hye := part_mem hl hr1 hd hd0 he0 hds hes hf n y hy (by omega)
        have : ((ofR e.certs (c.round - 1)).any fun y => y.digest == x) = true := by
          rw [List.any_eq_true]
          exact ⟨y, List.mem_filter.2 ⟨hye, by simpa using hyr⟩, by simpa using hyx⟩
        simp [this]
theorem sorted_sub : ∀ {m l : List Cert}, sortedC m → sortedC l → (∀ c ∈ l, c ∈ m) → l.Sublist m
  | [], l, _, _, h => by
    cases l with
    | nil => exact List.Sublist.refl _
    | cons x r => exact absurd (h x (List.mem_cons_self ..)) (by simp)
  | y :: m, l, hm, hl, h => by
    obtain ⟨hm1, hm2⟩ := List.pairwise_cons.1 hm
    cases l with
    | nil => exact List.nil_sublist _
    | cons x r =>
      obtain ⟨hl1, hl2⟩ := List.pairwise_cons.1 hl
      rcases List.mem_cons.1 (h x (List.mem_cons_self ..)) with rfl | hx
      · refine List.Sublist.cons_cons _ (sorted_sub hm2 hl2 fun c hc => ?_)
        rcases List.mem_cons.1 (h c (List.mem_cons_of_mem _ hc)) with rfl | hc2
        · have := before_iff.1 (hl1 c hc); omega
        · exact hc2
      · refine List.Sublist.cons _ (sorted_sub hm2 hl fun c hc => ?_)
        rcases List.mem_cons.1 (h c hc) with rfl | hc2
        · have h1 := before_iff.1 (hm1 x hx)
          rcases List.mem_cons.1 hc with rfl | hc3
          · omega
          · have h2 := before_iff.1 (hl1 c hc3); omega
        · exact hc2
theorem buildF_mono : ∀ (m : Nat) (d : Dag) (left : List Cert), ∀ c ∈ d.certs, c ∈ (buildF m d left).certs
  | 0, d, left, c, hc => hc
  | m + 1, d, left, c, hc => by
    unfold buildF
    split
    · split
      · exact buildF_mono m _ _ c (mem_insC.2 (.inr hc))
      · exact hc
    · exact hc
theorem buildF_full : ∀ (m : Nat) (d : Dag) (left : List Cert), left.length ≤ m → full (buildF m d left) left
  | 0, d, left, hm => by
    have : left = [] := List.eq_nil_of_length_eq_zero (by omega)
    subst this
    intro c hc
    cases hc
  | m + 1, d, left, hm => by
    intro c hc
    unfold buildF
    split
    · rename_i i hi
      obtain ⟨h5, h6, h7⟩ := List.findIdx?_eq_some_iff_getElem.1 hi
      split
      · rename_i x hx
        obtain ⟨j, hj⟩ := List.getElem?_of_mem hc
        have hjl := (List.getElem?_eq_some_iff.1 hj).1
        by_cases hji : j = i
        · subst hji
          rw [hx] at hj
          cases hj
          exact mem_putE (buildF_mono m _ _ _ (mem_insC.2 (.inl rfl)))
        · refine buildF_full m _ _ (by simp; omega) c ?_
          rcases Nat.lt_or_ge j i with h | h
          · exact List.mem_append_left _ (List.mem_of_getElem? (i := j) (by rw [List.getElem?_take, if_pos h]; exact hj))
          · exact List.mem_append_right _ (List.mem_of_getElem? (i := j - (i + 1)) (by rw [List.getElem?_drop, show i + 1 + (j - (i + 1)) = j by omega]; exact hj))
      · rename_i hx
        rw [List.getElem?_eq_getElem h5] at hx
        cases hx
    · rename_i hi
      rw [List.findIdx?_eq_none_iff] at hi
      simpa using hi c hc
theorem buildD_full (n : Int) (l : List Cert) : full (buildD n l) l := buildF_full _ _ _ (Nat.le_refl _)
structure shuf (n : Int) (l m : List Cert) : Prop where
  isn : isN n = true
  ok : ∀ c ∈ l, okCert n c
  clear : clear2 l
  len : l.length ≤ 60000
  sub : ∀ c ∈ m, c ∈ l
  mlen : m.length ≤ 60000
theorem shuf.sub2 {n : Int} {l m : List Cert} (h : shuf n l m) : Sub (buildD n m) (buildD n l) := by
  obtain ⟨k1, k2, k3, k4, k5⟩ := buildD_valid h.isn h.len h.ok
  obtain ⟨j1, j2, j3, j4, j5⟩ := buildD_valid h.isn h.mlen (fun c hc => h.ok c (h.sub c hc))
  refine ⟨j1, k1, j3, k3, by rw [j2, k2], sorted_sub k1.sorted j1.sorted fun c hc => ?_⟩
  exact part_mem h.clear (fun c hc => (h.ok c hc).head.round.1) j1 j3 k3 (fun c hc => h.sub c (j5 c hc)) k5 (buildD_full n l) c.round.toNat c hc (by omega)
theorem clear_perm {l m : List Cert} (h : clear2 l) (hp : l.Perm m) : clear2 m :=
  (List.Perm.pairwise_iff (R := fun a b : Cert => a.digest ≠ b.digest ∧ ¬ (a.round = b.round ∧ a.author = b.author)) (fun {a b} (h : a.digest ≠ b.digest ∧ ¬ (a.round = b.round ∧ a.author = b.author)) => ⟨Ne.symm h.1, fun e => h.2 ⟨e.1.symm, e.2.symm⟩⟩) hp).1 h
theorem shuf_same {n : Int} {l m : List Cert} (h : shuf n l m) (hp : l.Perm m) : buildD n m = buildD n l := by
  have h1 := h.sub2
  have h2 : Sub (buildD n l) (buildD n m) := shuf.sub2 ⟨h.isn, fun c hc => h.ok c (hp.mem_iff.2 hc), clear_perm h.clear hp, h.mlen, fun c hc => hp.mem_iff.1 hc, h.len⟩
  have h3 := h1.sub.eq_of_length_le h2.sub.length_le
  have h4 := h1.nodes

  obtain ⟨_, _, j3, _⟩ := buildD_valid h.isn h.len h.ok
  obtain ⟨_, _, k3, _⟩ := buildD_valid h.isn h.mlen (fun c hc => h.ok c (h.sub c hc))
  cases hb : buildD n m
  cases hc : buildD n l
  rw [hb, hc] at h3 h4
  rw [hb] at k3
  rw [hc] at j3
  simp only at h3 h4 j3 k3
  subst h3; subst h4; rw [j3, k3]
theorem shuf_outs {n : Int} {l m : List Cert} (h : shuf n l m) : outsD (buildD n m) <+: outsD (buildD n l) := by
  have hs := h.sub2
  have hc : inDag (buildD n m) ⟨cz, []⟩ := by intro x hx; simp [cz] at hx
  obtain ⟨h1, _⟩ := sub_fin hs hc (show (0 : Int) ≤ 0 by decide) (show (0 : Int) % 2 = 0 by decide)
  unfold outsD
  rw [← h1]
  exact goF_outs _ _ _
end Go.Proofs.YtoeppembokpjkaaGreat

namespace Go.Proofs.YtoeppembokpjkaaGreat
open Go.Ab Go.RowKit Go.MapKept
attribute [local irreducible] ACalls AW ADraw Into fltB fnear
set_option maxRecDepth 100000
/-! ## AuditOrders -/
theorem few_outs {d : Dag} (h : Valid d) : (outsD d).length ≤ 4294967296 := fin_len h
end Go.Proofs.YtoeppembokpjkaaGreat

namespace Go.Ab
open Go.RowKit
end Go.Ab
