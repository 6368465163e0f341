/- Part of the proof of CursorExact: the contracts of the functions. -/
import Derived.Test.YtoeppembokpjkaaGreatCursorExactCodA
import Derived.Ground.SlgmProg
import Derived.Shelf.SortM.Plain
import Derived.Shelf.SortM.SortNone
import Derived.Test.YtoeppembokpjkaaGreatProg

set_option linter.unusedVariables false
set_option linter.unusedSimpArgs false
namespace Go.Proofs.YtoeppembokpjkaaGreat
open Go.Ab Go.RowKit Go.MapKept
attribute [local irreducible] ACalls AW ADraw Into fltB fnear
set_option maxRecDepth 100000
theorem take_pos {r a : Int} : ∀ {l : List Cert}, sortedC l → l.take (pos l r a) = l.filter (fun c => c.before r a) ∧ l.drop (pos l r a) = l.filter (fun c => !c.before r a)
  | [], _ => ⟨rfl, rfl⟩
  | x :: t, hs => by
    have hs' := List.pairwise_cons.1 hs
    obtain ⟨i1, i2⟩ := take_pos (r := r) (a := a) hs'.2
    cases hx : x.before r a with
    | true =>
      have hp : pos (x :: t) r a = pos t r a + 1 := by simp [pos, hx]
      rw [hp, List.take_succ_cons, List.drop_succ_cons, i1, i2]
      simp [hx]
    | false =>
      have hall : ∀ y ∈ t, y.before r a = false := by
        intro y hy
        cases hb : y.before r a with
        | false => rfl
        | true =>
          have h1 := before_iff.1 (hs'.1 y hy)
          have h2 := before_iff.1 hb
          have : x.before r a = true := before_iff.2 (by omega)
          rw [hx] at this; cases this
      have hf : t.filter (fun c => c.before r a) = [] := List.filter_eq_nil_iff.2 fun y hy => by simp [hall y hy]
      have hg : t.filter (fun c => !c.before r a) = t := List.filter_eq_self.2 fun y hy => by simp [hall y hy]
      have hp : pos (x :: t) r a = 0 := by simp [pos, hx, hf]
      rw [hp]
      simp [hx, hf, hg]
/-- the certificates of a round -/
def ofR (l : List Cert) (r : Int) : List Cert := l.filter fun c => decide (c.round = r)
def auth (l : List Cert) : Prop := ∀ c ∈ l, 1 ≤ c.author ∧ c.author ≤ 16
theorem sortedC.filter {l : List Cert} (h : sortedC l) (p : Cert → Bool) : sortedC (l.filter p) := List.Pairwise.sublist List.filter_sublist h
theorem of_slice {l : List Cert} {r : Int} (hs : sortedC l) (ha : auth l) : pos l r 0 ≤ pos l r 17 ∧ (l.take (pos l r 17)).drop (pos l r 0) = ofR l r := by
  have h17 := (take_pos (r := r) (a := 17) hs).1
  have hle : pos l r 0 ≤ pos l r 17 := by
    unfold pos
    rw [← List.countP_eq_length_filter, ← List.countP_eq_length_filter]
    exact List.countP_mono_left fun c hc h => before_iff.2 (by have := before_iff.1 h; omega)
  refine ⟨hle, ?_⟩
  rw [h17]
  have hp : pos (l.filter fun c => c.before r 17) r 0 = pos l r 0 := by
    unfold pos
    rw [List.filter_filter]
    congr 1
    refine List.filter_congr fun c hc => ?_
    cases h : c.before r 0 with
    | false => rfl
    | true =>
      have : c.before r 17 = true := before_iff.2 (by have := before_iff.1 h; omega)
      rw [this]; rfl
  rw [← hp, (take_pos (r := r) (a := 0) (hs.filter _)).2, List.filter_filter]
  refine List.filter_congr fun c hc => ?_
  have := ha c hc
  by_cases h : c.round = r
  · have h1 : c.before r 17 = true := before_iff.2 (by omega)
    have h2 : c.before r 0 = false := by
      cases hb : c.before r 0 with
      | false => rfl
      | true => have := before_iff.1 hb; omega
    simp [h, h1, h2]
  · rcases Int.lt_or_gt_of_ne h with h1 | h1
    · have : c.before r 0 = true := before_iff.2 (.inl h1)
      simp [h, this]
    · have : c.before r 17 = false := by
        cases hb : c.before r 17 with
        | false => rfl
        | true => have := before_iff.1 hb; omega
      simp [h, this]
def topR (l : List Cert) : Int := (l.getLast?).elim 0 (·.round)
theorem high_ok (d : Dag) (hd : few d.certs) : ACalls Tryz.prog 106 [d.av] [] (fun av L => av = .d (.int .i64 (topR d.certs)) ∧ L = []) := by
  have hcl := certsD_length d.certs
  unfold few at hd
  refine acalls_go ttOk zOk foOk Tryz.func106 rfl Tryz.ntmps106 rfl false rfl ?_
  conv => whnf
  repeat' (first | ((with_reducible apply rd_intro); (focus (intro K hK; (conv => whnf); first | exact hK | (intro z hz; rw [wrapI (by omega)] at hz; subst hz; exact hK))); (conv => whnf)) | ((with_reducible apply gd_and); (focus ((conv => whnf) <;> first | rfl | (intro K hK; (conv => whnf); first | exact hK | (intro z hz; rw [wrapI (by omega)] at hz; subst hz; exact hK)))); (conv => whnf)) | ((with_reducible apply z_wrap); (focus omega); (conv => whnf)) | ((with_reducible first | apply mt_dec | apply mt_eq | apply mt_ne | apply mt_not | apply mt_any) <;> (intro _; conv => whnf)))
  · rename_i h
    obtain ⟨c, hc⟩ : ∃ c, d.certs[d.certs.length - 1]? = some c := ⟨_, List.getElem?_eq_getElem (by omega)⟩
    have hl : d.certs.getLast? = some c := by rw [List.getLast?_eq_getElem?]; exact hc
    refine ⟨by omega, c.cs, by rw [show ((certsD d.certs).length - 1 : Int).toNat = d.certs.length - 1 by omega]; exact certsD_at hc, ?_⟩
    conv => whnf
    exact ⟨by rw [topR, hl]; rfl, rfl⟩
  · rename_i h
    have : d.certs = [] := List.eq_nil_of_length_eq_zero (by omega)
    exact ⟨by rw [topR, this]; rfl, rfl⟩
theorem isF_of {n : Int} (h : 0 ≤ n) (h2 : n ≤ 1099511627777) : isF n := ⟨h, by omega⟩
structure Dag.fit (d : Dag) : Prop where
  few : few d.certs
  sorted : sortedC d.certs
  fit : fitC d.certs
  auth : auth d.certs
theorem find0_ok (l : List Cert) (r : Int) (hl : few l) (hs : sortedC l) (hf : fitC l) (hr : isF r) : ACalls Tryz.prog 116 [.d (.sl 6 (certsD l)), .d (.cplx .f64 (fnear .f64 r) 0)] [] (fun av L => av = .tup [.d (.int .i64 (pos l r 0)), .d (.bool (atC l r 0).isSome)] ∧ L = []) := by
  have := find_ok l r 0 hl hs hf hr ⟨by decide, by decide⟩
  rw [plb, fnear_0] at this
  exact this
theorem find17_ok (l : List Cert) (r : Int) (hl : few l) (hs : sortedC l) (hf : fitC l) (hr : isF r) : ACalls Tryz.prog 116 [.d (.sl 6 (certsD l)), .d (.cplx .f64 (fnear .f64 r) 4625478292286210048)] [] (fun av L => av = .tup [.d (.int .i64 (pos l r 17)), .d (.bool (atC l r 17).isSome)] ∧ L = []) := by
  have := find_ok l r 17 hl hs hf hr ⟨by decide, by decide⟩
  rw [plb, fnear_17] at this
  exact this
theorem dagOf_ok (d : Dag) (hd : d.fit) (r : Int) (hr : isF r) : ACalls Tryz.prog 138 [d.av, .d (.int .i64 r)] [] (fun av L => av = .d (.sl 6 (certsD (ofR d.certs r))) ∧ L = []) := by
  have hcl := certsD_length d.certs
  obtain ⟨h1, h2⟩ := of_slice (r := r) hd.sorted hd.auth
  have h3 := pos_le d.certs r 17
  have h4 := hd.few
  unfold few at h4
  refine acalls_go ttOk zOk foOk Tryz.func138 rfl Tryz.ntmps138 rfl false rfl ?_
  conv => whnf
  refine (find0_ok d.certs r hd.few hd.sorted hd.fit hr).mono ?_
  rintro _ _ ⟨rfl, rfl⟩
  conv => whnf
  refine (find17_ok d.certs r hd.few hd.sorted hd.fit hr).mono ?_
  rintro _ _ ⟨rfl, rfl⟩
  conv => whnf
  repeat' (first | ((with_reducible apply rd_intro); (focus (intro K hK; (conv => whnf); first | exact hK | (intro z hz; rw [wrapI (by omega)] at hz; subst hz; exact hK))); (conv => whnf)) | ((with_reducible apply gd_and); (focus ((conv => whnf) <;> first | rfl | (intro K hK; (conv => whnf); first | exact hK | (intro z hz; rw [wrapI (by omega)] at hz; subst hz; exact hK)))); (conv => whnf)) | ((with_reducible apply z_wrap); (focus omega); (conv => whnf)) | ((with_reducible first | apply mt_dec | apply mt_eq | apply mt_ne | apply mt_not | apply mt_any) <;> (intro _; conv => whnf)))
  refine ⟨by omega, by omega, by omega, ?_⟩
  conv => whnf
  rw [show (certsD (ofR d.certs r)) = ((certsD d.certs).take (pos d.certs r 17)).drop (pos d.certs r 0) by rw [← h2]; simp [certsD, List.map_drop, List.map_take]]
  exact ⟨rfl, rfl⟩
def zCert : AV := .agg [.d (.int .i64 0), .d (.int .i64 0), .d .nils, .d .nils, .d (.int .i64 0), .d .nils]
theorem there_ok (d : Dag) (hd : d.fit) (r a : Int) (hr : isF r) (ha : isF a) : ACalls Tryz.prog 123 [d.av, .d (plb r a)] [] (fun av L => ((∃ c, atC d.certs r a = some c ∧ av = .tup [c.av, .d (.bool true)]) ∨ (atC d.certs r a = none ∧ av = .tup [zCert, .d (.bool false)])) ∧ L = []) := by
  refine acalls_go ttOk zOk foOk Tryz.func123 rfl Tryz.ntmps123 rfl false rfl ?_
  conv => whnf
  refine (find_ok d.certs r a hd.few hd.sorted hd.fit hr ha).mono ?_
  rintro _ _ ⟨rfl, rfl⟩
  obtain ⟨b, hb⟩ : ∃ b, (atC d.certs r a).isSome = b := ⟨_, rfl⟩
  rw [hb]
  conv => whnf
  repeat' (first | ((with_reducible apply rd_intro); (focus (intro K hK; (conv => whnf); first | exact hK | (intro z hz; rw [wrapI (by omega)] at hz; subst hz; exact hK))); (conv => whnf)) | ((with_reducible apply gd_and); (focus ((conv => whnf) <;> first | rfl | (intro K hK; (conv => whnf); first | exact hK | (intro z hz; rw [wrapI (by omega)] at hz; subst hz; exact hK)))); (conv => whnf)) | ((with_reducible apply z_wrap); (focus omega); (conv => whnf)) | ((with_reducible first | apply mt_dec | apply mt_eq | apply mt_ne | apply mt_not | apply mt_any) <;> (intro _; conv => whnf)))
  · rename_i h
    subst h
    exact ⟨.inr ⟨by simpa using hb, rfl⟩, rfl⟩
  · rename_i h
    subst h
    rw [atC_pos hd.sorted] at hb
    obtain ⟨c, hc⟩ : ∃ c, d.certs[pos d.certs r a]? = some c := by
      cases hg : d.certs[pos d.certs r a]? with
      | none => rw [hg] at hb; cases hb
      | some c => exact ⟨c, rfl⟩
    have he : atC d.certs r a = some c := by
      rw [atC_pos hd.sorted, hc]
      rw [hc] at hb
      revert hb
      by_cases h : c.round = r ∧ c.author = a <;> simp [Option.filter, h]
    refine ⟨by omega, c.cs, certsD_at hc, ?_⟩
    conv => whnf
    exact ⟨.inl ⟨c, he, rfl⟩, rfl⟩
theorem there_some (d : Dag) (hd : d.fit) (r a : Int) (hr : isF r) (ha : isF a) {c : Cert} (h : atC d.certs r a = some c) : ACalls Tryz.prog 123 [d.av, .d (plb r a)] [] (fun av L => av = .tup [c.av, .d (.bool true)] ∧ L = []) := by
  refine (there_ok d hd r a hr ha).mono ?_
  rintro _ _ ⟨⟨c', hc, rfl⟩ | ⟨hc, _⟩, rfl⟩
  · rw [h] at hc; cases hc; exact ⟨rfl, rfl⟩
  · rw [h] at hc; cases hc
theorem there_none (d : Dag) (hd : d.fit) (r a : Int) (hr : isF r) (ha : isF a) (h : atC d.certs r a = none) : ACalls Tryz.prog 123 [d.av, .d (plb r a)] [] (fun av L => av = .tup [zCert, .d (.bool false)] ∧ L = []) := by
  refine (there_ok d hd r a hr ha).mono ?_
  rintro _ _ ⟨⟨c', hc, _⟩ | ⟨_, rfl⟩, rfl⟩
  · rw [h] at hc; cases hc
  · exact ⟨rfl, rfl⟩
/-! ## anchors -/
def leadI (n r : Int) : Int := (r / 2 - 1) % n + 1
theorem leads_ok (n r : Int) (hn : 0 < n ∧ n ≤ 16) (hr : 2 ≤ r ∧ r ≤ 1099511627777) : ACalls Tryz.prog 124 [.d (.int .i64 n), .d (.int .i64 r)] [] (fun av L => av = .d (.int .i64 (leadI n r)) ∧ L = []) := by
  have h1 := Int.emod_nonneg (r / 2 - 1) (show n ≠ 0 by omega)
  have h2 := Int.emod_lt_of_pos (r / 2 - 1) hn.1
  refine acalls_go ttOk zOk foOk Tryz.func124 rfl Tryz.ntmps124 rfl false rfl ?_
  conv => whnf
  refine ⟨by decide, ?_⟩
  intro z hz
  have : z = r / 2 := by rw [hz, Int.tdiv_eq_ediv_of_nonneg (by omega), wrapI (by omega)]
  clear hz
  subst this
  conv => whnf
  ((with_reducible apply z_wrap); (focus omega); (conv => whnf))
  refine ⟨by omega, ?_⟩
  intro z hz
  have : z = (r / 2 - 1) % n := by rw [hz, Int.tmod_eq_emod_of_nonneg (by omega)]
  clear hz
  subst this
  conv => whnf
  ((with_reducible apply z_wrap); (focus omega); (conv => whnf))
  exact ⟨rfl, rfl⟩
theorem lead_range {n r : Int} (hn : 0 < n ∧ n ≤ 16) : 1 ≤ leadI n r ∧ leadI n r ≤ 16 := by
  have h1 := Int.emod_nonneg (r / 2 - 1) (show n ≠ 0 by omega)
  have h2 := Int.emod_lt_of_pos (r / 2 - 1) hn.1
  unfold leadI
  omega
/-- a round's anchor; 0: there is none -/
def anchorI (d : Dag) (r : Int) : Int := (atC d.certs r (leadI d.nodes r)).elim 0 (·.digest)
theorem anchorOf_ok (d : Dag) (hd : d.fit) (hn : 0 < d.nodes ∧ d.nodes ≤ 16) (r : Int) (hr : 2 ≤ r ∧ r ≤ 1099511627777) : ACalls Tryz.prog 108 [d.av, .d (.int .i64 r)] [] (fun av L => av = .d (.int .i64 (anchorI d r)) ∧ L = []) := by
  have h1 := lead_range (r := r) hn
  refine acalls_go ttOk zOk foOk Tryz.func108 rfl Tryz.ntmps108 rfl false rfl ?_
  conv => whnf
  obtain ⟨a, hla⟩ : ∃ a, leadI d.nodes r = a := ⟨_, rfl⟩
  rw [hla] at h1
  have hle := leads_ok d.nodes r hn hr
  rw [hla] at hle
  have hfr : isF r := ⟨by omega, by omega⟩
  have hfa : isF a := ⟨by omega, by omega⟩
  rw [anchorI, hla]
  cases hc : atC d.certs r a with
  | none =>
    have hth := there_none d hd r a hfr hfa hc
    ((with_reducible refine draw_pl ttOk zOk foOk mixedOk pl108x1 ?_ ?_); (focus kernel_rfl); (conv => whnf))
    repeat' (first | ((with_reducible apply rd_intro); (focus (intro K hK; (conv => whnf); first | exact hK | (intro z hz; rw [wrapI (by omega)] at hz; subst hz; exact hK))); (conv => whnf)) | ((with_reducible apply gd_and); (focus ((conv => whnf) <;> first | rfl | (intro K hK; (conv => whnf); first | exact hK | (intro z hz; rw [wrapI (by omega)] at hz; subst hz; exact hK)))); (conv => whnf)) | ((with_reducible apply z_wrap); (focus omega); (conv => whnf)) | ((with_reducible first | apply mt_dec | apply mt_eq | apply mt_ne | apply mt_not | apply mt_any) <;> (intro _; conv => whnf)))
    ((with_reducible apply rd_intro); (focus (intro K hK; (conv => whnf); refine (hle).mono ?_; rintro _ _ ⟨rfl, rfl⟩; (conv => whnf); exact hK)); (conv => whnf))
    repeat' (first | ((with_reducible apply rd_intro); (focus (intro K hK; (conv => whnf); first | exact hK | (intro z hz; rw [wrapI (by omega)] at hz; subst hz; exact hK))); (conv => whnf)) | ((with_reducible apply gd_and); (focus ((conv => whnf) <;> first | rfl | (intro K hK; (conv => whnf); first | exact hK | (intro z hz; rw [wrapI (by omega)] at hz; subst hz; exact hK)))); (conv => whnf)) | ((with_reducible apply z_wrap); (focus omega); (conv => whnf)) | ((with_reducible first | apply mt_dec | apply mt_eq | apply mt_ne | apply mt_not | apply mt_any) <;> (intro _; conv => whnf)))
    ((with_reducible apply rd_intro); (focus (intro K hK; (conv => whnf); refine (placeOf_ok r a).mono ?_; rintro _ _ ⟨rfl, rfl⟩; (conv => whnf); exact hK)); (conv => whnf))
    repeat' (first | ((with_reducible apply rd_intro); (focus (intro K hK; (conv => whnf); first | exact hK | (intro z hz; rw [wrapI (by omega)] at hz; subst hz; exact hK))); (conv => whnf)) | ((with_reducible apply gd_and); (focus ((conv => whnf) <;> first | rfl | (intro K hK; (conv => whnf); first | exact hK | (intro z hz; rw [wrapI (by omega)] at hz; subst hz; exact hK)))); (conv => whnf)) | ((with_reducible apply z_wrap); (focus omega); (conv => whnf)) | ((with_reducible first | apply mt_dec | apply mt_eq | apply mt_ne | apply mt_not | apply mt_any) <;> (intro _; conv => whnf)))
    ((with_reducible apply rd_intro); (focus (intro K hK; (conv => whnf); refine (hth).mono ?_; rintro _ _ ⟨rfl, rfl⟩; (conv => whnf); exact hK)); (conv => whnf))
    repeat' (first | ((with_reducible apply rd_intro); (focus (intro K hK; (conv => whnf); first | exact hK | (intro z hz; rw [wrapI (by omega)] at hz; subst hz; exact hK))); (conv => whnf)) | ((with_reducible apply gd_and); (focus ((conv => whnf) <;> first | rfl | (intro K hK; (conv => whnf); first | exact hK | (intro z hz; rw [wrapI (by omega)] at hz; subst hz; exact hK)))); (conv => whnf)) | ((with_reducible apply z_wrap); (focus omega); (conv => whnf)) | ((with_reducible first | apply mt_dec | apply mt_eq | apply mt_ne | apply mt_not | apply mt_any) <;> (intro _; conv => whnf)))
    ((with_reducible apply gd_and); (focus ((conv => whnf); intro K hK; (conv => whnf); refine (hth).mono ?_; rintro _ _ ⟨rfl, rfl⟩; (conv => whnf); exact hK)); (conv => whnf))
    repeat' (first | ((with_reducible apply rd_intro); (focus (intro K hK; (conv => whnf); first | exact hK | (intro z hz; rw [wrapI (by omega)] at hz; subst hz; exact hK))); (conv => whnf)) | ((with_reducible apply gd_and); (focus ((conv => whnf) <;> first | rfl | (intro K hK; (conv => whnf); first | exact hK | (intro z hz; rw [wrapI (by omega)] at hz; subst hz; exact hK)))); (conv => whnf)) | ((with_reducible apply z_wrap); (focus omega); (conv => whnf)) | ((with_reducible first | apply mt_dec | apply mt_eq | apply mt_ne | apply mt_not | apply mt_any) <;> (intro _; conv => whnf)))
    ((with_reducible apply gd_and); (focus ((conv => whnf); intro K hK; (conv => whnf); refine (placeOf_ok r a).mono ?_; rintro _ _ ⟨rfl, rfl⟩; (conv => whnf); exact hK)); (conv => whnf))
    repeat' (first | ((with_reducible apply rd_intro); (focus (intro K hK; (conv => whnf); first | exact hK | (intro z hz; rw [wrapI (by omega)] at hz; subst hz; exact hK))); (conv => whnf)) | ((with_reducible apply gd_and); (focus ((conv => whnf) <;> first | rfl | (intro K hK; (conv => whnf); first | exact hK | (intro z hz; rw [wrapI (by omega)] at hz; subst hz; exact hK)))); (conv => whnf)) | ((with_reducible apply z_wrap); (focus omega); (conv => whnf)) | ((with_reducible first | apply mt_dec | apply mt_eq | apply mt_ne | apply mt_not | apply mt_any) <;> (intro _; conv => whnf)))
    ((with_reducible apply gd_and); (focus ((conv => whnf); intro K hK; (conv => whnf); refine (hle).mono ?_; rintro _ _ ⟨rfl, rfl⟩; (conv => whnf); exact hK)); (conv => whnf))
    repeat' (first | ((with_reducible apply rd_intro); (focus (intro K hK; (conv => whnf); first | exact hK | (intro z hz; rw [wrapI (by omega)] at hz; subst hz; exact hK))); (conv => whnf)) | ((with_reducible apply gd_and); (focus ((conv => whnf) <;> first | rfl | (intro K hK; (conv => whnf); first | exact hK | (intro z hz; rw [wrapI (by omega)] at hz; subst hz; exact hK)))); (conv => whnf)) | ((with_reducible apply z_wrap); (focus omega); (conv => whnf)) | ((with_reducible first | apply mt_dec | apply mt_eq | apply mt_ne | apply mt_not | apply mt_any) <;> (intro _; conv => whnf)))
    exact ⟨rfl, rfl⟩
  | some c =>
    have hth := there_some d hd r a hfr hfa hc
    ((with_reducible refine draw_pl ttOk zOk foOk mixedOk pl108x1 ?_ ?_); (focus kernel_rfl); (conv => whnf))
    repeat' (first | ((with_reducible apply rd_intro); (focus (intro K hK; (conv => whnf); first | exact hK | (intro z hz; rw [wrapI (by omega)] at hz; subst hz; exact hK))); (conv => whnf)) | ((with_reducible apply gd_and); (focus ((conv => whnf) <;> first | rfl | (intro K hK; (conv => whnf); first | exact hK | (intro z hz; rw [wrapI (by omega)] at hz; subst hz; exact hK)))); (conv => whnf)) | ((with_reducible apply z_wrap); (focus omega); (conv => whnf)) | ((with_reducible first | apply mt_dec | apply mt_eq | apply mt_ne | apply mt_not | apply mt_any) <;> (intro _; conv => whnf)))
    ((with_reducible apply rd_intro); (focus (intro K hK; (conv => whnf); refine (hle).mono ?_; rintro _ _ ⟨rfl, rfl⟩; (conv => whnf); exact hK)); (conv => whnf))
    repeat' (first | ((with_reducible apply rd_intro); (focus (intro K hK; (conv => whnf); first | exact hK | (intro z hz; rw [wrapI (by omega)] at hz; subst hz; exact hK))); (conv => whnf)) | ((with_reducible apply gd_and); (focus ((conv => whnf) <;> first | rfl | (intro K hK; (conv => whnf); first | exact hK | (intro z hz; rw [wrapI (by omega)] at hz; subst hz; exact hK)))); (conv => whnf)) | ((with_reducible apply z_wrap); (focus omega); (conv => whnf)) | ((with_reducible first | apply mt_dec | apply mt_eq | apply mt_ne | apply mt_not | apply mt_any) <;> (intro _; conv => whnf)))
    ((with_reducible apply rd_intro); (focus (intro K hK; (conv => whnf); refine (placeOf_ok r a).mono ?_; rintro _ _ ⟨rfl, rfl⟩; (conv => whnf); exact hK)); (conv => whnf))
    repeat' (first | ((with_reducible apply rd_intro); (focus (intro K hK; (conv => whnf); first | exact hK | (intro z hz; rw [wrapI (by omega)] at hz; subst hz; exact hK))); (conv => whnf)) | ((with_reducible apply gd_and); (focus ((conv => whnf) <;> first | rfl | (intro K hK; (conv => whnf); first | exact hK | (intro z hz; rw [wrapI (by omega)] at hz; subst hz; exact hK)))); (conv => whnf)) | ((with_reducible apply z_wrap); (focus omega); (conv => whnf)) | ((with_reducible first | apply mt_dec | apply mt_eq | apply mt_ne | apply mt_not | apply mt_any) <;> (intro _; conv => whnf)))
    ((with_reducible apply rd_intro); (focus (intro K hK; (conv => whnf); refine (hth).mono ?_; rintro _ _ ⟨rfl, rfl⟩; (conv => whnf); exact hK)); (conv => whnf))
    repeat' (first | ((with_reducible apply rd_intro); (focus (intro K hK; (conv => whnf); first | exact hK | (intro z hz; rw [wrapI (by omega)] at hz; subst hz; exact hK))); (conv => whnf)) | ((with_reducible apply gd_and); (focus ((conv => whnf) <;> first | rfl | (intro K hK; (conv => whnf); first | exact hK | (intro z hz; rw [wrapI (by omega)] at hz; subst hz; exact hK)))); (conv => whnf)) | ((with_reducible apply z_wrap); (focus omega); (conv => whnf)) | ((with_reducible first | apply mt_dec | apply mt_eq | apply mt_ne | apply mt_not | apply mt_any) <;> (intro _; conv => whnf)))
    ((with_reducible apply gd_and); (focus ((conv => whnf); intro K hK; (conv => whnf); refine (hth).mono ?_; rintro _ _ ⟨rfl, rfl⟩; (conv => whnf); exact hK)); (conv => whnf))
    repeat' (first | ((with_reducible apply rd_intro); (focus (intro K hK; (conv => whnf); first | exact hK | (intro z hz; rw [wrapI (by omega)] at hz; subst hz; exact hK))); (conv => whnf)) | ((with_reducible apply gd_and); (focus ((conv => whnf) <;> first | rfl | (intro K hK; (conv => whnf); first | exact hK | (intro z hz; rw [wrapI (by omega)] at hz; subst hz; exact hK)))); (conv => whnf)) | ((with_reducible apply z_wrap); (focus omega); (conv => whnf)) | ((with_reducible first | apply mt_dec | apply mt_eq | apply mt_ne | apply mt_not | apply mt_any) <;> (intro _; conv => whnf)))
    ((with_reducible apply gd_and); (focus ((conv => whnf); intro K hK; (conv => whnf); refine (placeOf_ok r a).mono ?_; rintro _ _ ⟨rfl, rfl⟩; (conv => whnf); exact hK)); (conv => whnf))
    repeat' (first | ((with_reducible apply rd_intro); (focus (intro K hK; (conv => whnf); first | exact hK | (intro z hz; rw [wrapI (by omega)] at hz; subst hz; exact hK))); (conv => whnf)) | ((with_reducible apply gd_and); (focus ((conv => whnf) <;> first | rfl | (intro K hK; (conv => whnf); first | exact hK | (intro z hz; rw [wrapI (by omega)] at hz; subst hz; exact hK)))); (conv => whnf)) | ((with_reducible apply z_wrap); (focus omega); (conv => whnf)) | ((with_reducible first | apply mt_dec | apply mt_eq | apply mt_ne | apply mt_not | apply mt_any) <;> (intro _; conv => whnf)))
    ((with_reducible apply gd_and); (focus ((conv => whnf); intro K hK; (conv => whnf); refine (hle).mono ?_; rintro _ _ ⟨rfl, rfl⟩; (conv => whnf); exact hK)); (conv => whnf))
    repeat' (first | ((with_reducible apply rd_intro); (focus (intro K hK; (conv => whnf); first | exact hK | (intro z hz; rw [wrapI (by omega)] at hz; subst hz; exact hK))); (conv => whnf)) | ((with_reducible apply gd_and); (focus ((conv => whnf) <;> first | rfl | (intro K hK; (conv => whnf); first | exact hK | (intro z hz; rw [wrapI (by omega)] at hz; subst hz; exact hK)))); (conv => whnf)) | ((with_reducible apply z_wrap); (focus omega); (conv => whnf)) | ((with_reducible first | apply mt_dec | apply mt_eq | apply mt_ne | apply mt_not | apply mt_any) <;> (intro _; conv => whnf)))
    exact ⟨rfl, rfl⟩
/-- is it one of these? where -/
theorem index_ok (l : List Int) (hl : few l) (x : Int) : ACalls Tryz.prog 141 [.d (.sl 1 (nums l)), .d (.int .i64 x)] [] (fun av L => (∃ z : Int, av = .d (.int .i64 z) ∧ (z ≥ 0 ↔ x ∈ l)) ∧ L = []) := by
  have hll := nums_length l
  unfold few at hl
  refine acalls_go ttOk zOk foOk Tryz.func141 rfl Tryz.ntmps141 rfl false rfl ?_
  conv => whnf
  refine loop_go ttOk zOk foOk (σ := Nat) (fun j => ([(0, .d (.sl 1 (nums l))), (1, .d (.int .i64 x)), (7, .d (.int .i64 l.length)), (8, .d (.int .i64 j))], [])) (fun j => j ≤ l.length ∧ ¬ x ∈ l.take j) (fun j => l.length - j) [0, 1, 7, 8] ?_ ?_
  · conv => whnf
    exact ⟨0, by rw [hll]; rfl, rfl, Nat.zero_le _, by simp⟩
  · rintro j ⟨h1, h2⟩
    conv => whnf
    repeat' (first | ((with_reducible apply rd_intro); (focus (intro K hK; (conv => whnf); first | exact hK | (intro z hz; rw [wrapI (by omega)] at hz; subst hz; exact hK))); (conv => whnf)) | ((with_reducible apply gd_and); (focus ((conv => whnf) <;> first | rfl | (intro K hK; (conv => whnf); first | exact hK | (intro z hz; rw [wrapI (by omega)] at hz; subst hz; exact hK)))); (conv => whnf)) | ((with_reducible apply z_wrap); (focus omega); (conv => whnf)) | ((with_reducible first | apply mt_dec | apply mt_eq | apply mt_ne | apply mt_not | apply mt_any) <;> (intro _; conv => whnf)))
    · rename_i h
      obtain ⟨y, hy⟩ : ∃ y, l[j]? = some y := ⟨_, List.getElem?_eq_getElem (by omega)⟩
      refine ⟨by omega, [.int .i64 y], nums_at hy, ?_⟩
      conv => whnf
      repeat' (first | ((with_reducible apply rd_intro); (focus (intro K hK; (conv => whnf); first | exact hK | (intro z hz; rw [wrapI (by omega)] at hz; subst hz; exact hK))); (conv => whnf)) | ((with_reducible apply gd_and); (focus ((conv => whnf) <;> first | rfl | (intro K hK; (conv => whnf); first | exact hK | (intro z hz; rw [wrapI (by omega)] at hz; subst hz; exact hK)))); (conv => whnf)) | ((with_reducible apply z_wrap); (focus omega); (conv => whnf)) | ((with_reducible first | apply mt_dec | apply mt_eq | apply mt_ne | apply mt_not | apply mt_any) <;> (intro _; conv => whnf)))
      · rename_i h3
        exact ⟨⟨_, rfl, by rw [h3]; exact ⟨fun _ => List.mem_of_getElem? hy, fun _ => Int.natCast_nonneg _⟩⟩, rfl⟩
      · rename_i h3
        exact ⟨j + 1, rfl, rfl, ⟨by omega, by rw [List.take_add_one, hy]; simpa using ⟨h2, h3⟩⟩, by omega⟩
    · rename_i h
      rw [show j = l.length by omega, List.take_length] at h2
      exact ⟨⟨_, rfl, ⟨fun h3 => absurd h3 (by decide), fun h3 => absurd h3 h2⟩⟩, rfl⟩
theorem contains_ok (l : List Int) (hl : few l) (x : Int) : ACalls Tryz.prog 126 [.d (.sl 1 (nums l)), .d (.int .i64 x)] [] (fun av L => av = .d (.bool (decide (x ∈ l))) ∧ L = []) := by
  refine acalls_go ttOk zOk foOk Tryz.func126 rfl Tryz.ntmps126 rfl false rfl ?_
  conv => whnf
  refine (index_ok l hl x).mono ?_
  rintro _ _ ⟨⟨z, rfl, hz⟩, rfl⟩
  conv => whnf
  exact ⟨boolEq (by simpa using hz), rfl⟩
end Go.Proofs.YtoeppembokpjkaaGreat

namespace Go.Proofs.YtoeppembokpjkaaGreat
open Go.Ab Go.RowKit Go.MapKept
attribute [local irreducible] ACalls AW ADraw Into fltB fnear
set_option maxRecDepth 100000
/-! ## counting votes -/
def votes (d : Dag) (r : Int) : Nat := ((ofR d.certs (r + 1)).filter fun c => decide (anchorI d r > 0 ∧ anchorI d r ∈ c.pars)).length
def fewC (d : Dag) : Prop := ∀ c ∈ d.certs, few c.pars
theorem count_ok (d : Dag) (hd : d.fit) (hn : 0 < d.nodes ∧ d.nodes ≤ 16) (hp : fewC d) (r : Int) (hr : 2 ≤ r ∧ r ≤ 1099511627776) : ACalls Tryz.prog 122 [d.av, .d (.int .i64 r)] [] (fun av L => av = .d (.int .i64 (votes d r)) ∧ L = []) := by
  have hfl : few (ofR d.certs (r + 1)) := Nat.le_trans (List.length_filter_le ..) hd.few
  have hfp : ∀ c ∈ ofR d.certs (r + 1), few c.pars := fun c hc => hp c (List.mem_filter.1 hc).1
  refine acalls_go ttOk zOk foOk Tryz.func122 rfl Tryz.ntmps122 rfl false rfl ?_
  conv => whnf
  refine (anchorOf_ok d hd hn r ⟨hr.1, by omega⟩).mono ?_
  rintro _ _ ⟨rfl, rfl⟩
  obtain ⟨a, ha⟩ : ∃ a, anchorI d r = a := ⟨_, rfl⟩
  rw [votes, ha]
  conv => whnf
  repeat' (first | ((with_reducible apply rd_intro); (focus (intro K hK; (conv => whnf); first | exact hK | (intro z hz; rw [wrapI (by omega)] at hz; subst hz; exact hK))); (conv => whnf)) | ((with_reducible apply gd_and); (focus ((conv => whnf) <;> first | rfl | (intro K hK; (conv => whnf); first | exact hK | (intro z hz; rw [wrapI (by omega)] at hz; subst hz; exact hK)))); (conv => whnf)) | ((with_reducible apply z_wrap); (focus omega); (conv => whnf)) | ((with_reducible first | apply mt_dec | apply mt_eq | apply mt_ne | apply mt_not | apply mt_any) <;> (intro _; conv => whnf)))
  refine (dagOf_ok d hd (r + 1) ⟨by omega, by omega⟩).mono ?_
  rintro _ _ ⟨rfl, rfl⟩
  obtain ⟨l, hl⟩ : ∃ l, ofR d.certs (r + 1) = l := ⟨_, rfl⟩
  rw [hl] at hfl hfp ⊢
  have hll := certsD_length l
  unfold few at hfl
  conv => whnf
  refine loop_go ttOk zOk foOk (σ := Nat) (fun j => ([(4, .d (.int .i64 (((l.take j).filter fun c => decide (a > 0 ∧ a ∈ c.pars)).length : Nat))), (5, .d (.int .i64 a)), (14, .d (.sl 6 (certsD l))), (15, .d (.int .i64 l.length)), (16, .d (.int .i64 j))], [])) (fun j => j ≤ l.length) (fun j => l.length - j) [4, 5, 14, 15, 16] ?_ ?_
  · conv => whnf
    exact ⟨0, by rw [hll]; rfl, rfl, Nat.zero_le _⟩
  · intro j hj
    conv => whnf
    repeat' (first | ((with_reducible apply rd_intro); (focus (intro K hK; (conv => whnf); first | exact hK | (intro z hz; rw [wrapI (by omega)] at hz; subst hz; exact hK))); (conv => whnf)) | ((with_reducible apply gd_and); (focus ((conv => whnf) <;> first | rfl | (intro K hK; (conv => whnf); first | exact hK | (intro z hz; rw [wrapI (by omega)] at hz; subst hz; exact hK)))); (conv => whnf)) | ((with_reducible apply z_wrap); (focus omega); (conv => whnf)) | ((with_reducible first | apply mt_dec | apply mt_eq | apply mt_ne | apply mt_not | apply mt_any) <;> (intro _; conv => whnf)))
    · rename_i h
      obtain ⟨c, hc⟩ : ∃ c, l[j]? = some c := ⟨_, List.getElem?_eq_getElem (by omega)⟩
      refine ⟨by omega, c.cs, certsD_at hc, ?_⟩
      have hlen : ((l.take j).filter fun c => decide (a > 0 ∧ a ∈ c.pars)).length ≤ j := by
        have h1 := List.length_filter_le (fun c : Cert => decide (a > 0 ∧ a ∈ c.pars)) (l.take j)
        rw [List.length_take] at h1
        omega
      conv => whnf
      repeat' (first | ((with_reducible apply rd_intro); (focus (intro K hK; (conv => whnf); first | exact hK | (intro z hz; rw [wrapI (by omega)] at hz; subst hz; exact hK))); (conv => whnf)) | ((with_reducible apply gd_and); (focus ((conv => whnf) <;> first | rfl | (intro K hK; (conv => whnf); first | exact hK | (intro z hz; rw [wrapI (by omega)] at hz; subst hz; exact hK)))); (conv => whnf)) | ((with_reducible apply z_wrap); (focus omega); (conv => whnf)) | ((with_reducible first | apply mt_dec | apply mt_eq | apply mt_ne | apply mt_not | apply mt_any) <;> (intro _; conv => whnf)))
      · rename_i ha0
        refine (contains_ok c.pars (hfp c (List.mem_of_getElem? hc)) a).mono ?_
        rintro _ _ ⟨rfl, rfl⟩
        conv => whnf
        repeat' (first | ((with_reducible apply rd_intro); (focus (intro K hK; (conv => whnf); first | exact hK | (intro z hz; rw [wrapI (by omega)] at hz; subst hz; exact hK))); (conv => whnf)) | ((with_reducible apply gd_and); (focus ((conv => whnf) <;> first | rfl | (intro K hK; (conv => whnf); first | exact hK | (intro z hz; rw [wrapI (by omega)] at hz; subst hz; exact hK)))); (conv => whnf)) | ((with_reducible apply z_wrap); (focus omega); (conv => whnf)) | ((with_reducible first | apply mt_dec | apply mt_eq | apply mt_ne | apply mt_not | apply mt_any) <;> (intro _; conv => whnf)))
        · rename_i hac
          refine ⟨j + 1, ?_, rfl, by omega, by omega⟩
          rw [List.take_add_one, hc]
          simp only [Option.toList_some, List.filter_append, List.length_append, List.filter_cons, hac, ha0]
          rfl
        · rename_i hac
          refine ⟨j + 1, ?_, rfl, by omega, by omega⟩
          rw [List.take_add_one, hc]
          simp only [Option.toList_some, List.filter_append, List.length_append, List.filter_cons, hac, and_false, decide_false]
          rfl
      · rename_i ha0
        refine ⟨j + 1, ?_, rfl, by omega, by omega⟩
        rw [List.take_add_one, hc]
        simp only [Option.toList_some, List.filter_append, List.length_append, List.filter_cons, ha0, false_and, decide_false]
        rfl
    · rename_i h
      rw [List.take_of_length_le (by omega)]
      exact ⟨rfl, rfl⟩
theorem cf_ok (n : Int) (hn : 0 < n ∧ n ≤ 16) : ACalls Tryz.prog 121 [.d (.int .i64 n)] [] (fun av L => av = .d (.int .i64 ((n - 1) / 3)) ∧ L = []) := by
  refine acalls_go ttOk zOk foOk Tryz.func121 rfl Tryz.ntmps121 rfl false rfl ?_
  conv => whnf
  ((with_reducible apply z_wrap); (focus omega); (conv => whnf))
  refine ⟨by decide, ?_⟩
  intro z hz
  have : z = (n - 1) / 3 := by rw [hz, Int.tdiv_eq_ediv_of_nonneg (by omega), wrapI (by omega)]
  clear hz
  subst this
  conv => whnf
  exact ⟨rfl, rfl⟩
def settled (d : Dag) (r : Int) : Bool := decide ((votes d r : Int) > (d.nodes - 1) / 3)
theorem settled_ok (d : Dag) (hd : d.fit) (hn : 0 < d.nodes ∧ d.nodes ≤ 16) (hp : fewC d) (r : Int) (hr : 2 ≤ r ∧ r ≤ 1099511627776) : ACalls Tryz.prog 107 [d.av, .d (.int .i64 r)] [] (fun av L => av = .d (.bool (settled d r)) ∧ L = []) := by
  refine acalls_go ttOk zOk foOk Tryz.func107 rfl Tryz.ntmps107 rfl false rfl ?_
  conv => whnf
  ((with_reducible refine draw_pl ttOk zOk foOk mixedOk pl107x1 ?_ ?_); (focus kernel_rfl); (conv => whnf))
  repeat' (first | ((with_reducible apply rd_intro); (focus (intro K hK; (conv => whnf); first | exact hK | (intro z hz; rw [wrapI (by omega)] at hz; subst hz; exact hK))); (conv => whnf)) | ((with_reducible apply gd_and); (focus ((conv => whnf) <;> first | rfl | (intro K hK; (conv => whnf); first | exact hK | (intro z hz; rw [wrapI (by omega)] at hz; subst hz; exact hK)))); (conv => whnf)) | ((with_reducible apply z_wrap); (focus omega); (conv => whnf)) | ((with_reducible first | apply mt_dec | apply mt_eq | apply mt_ne | apply mt_not | apply mt_any) <;> (intro _; conv => whnf)))
  refine (count_ok d hd hn hp r hr).mono ?_
  rintro _ _ ⟨rfl, rfl⟩
  conv => whnf
  repeat' (first | ((with_reducible apply rd_intro); (focus (intro K hK; (conv => whnf); first | exact hK | (intro z hz; rw [wrapI (by omega)] at hz; subst hz; exact hK))); (conv => whnf)) | ((with_reducible apply gd_and); (focus ((conv => whnf) <;> first | rfl | (intro K hK; (conv => whnf); first | exact hK | (intro z hz; rw [wrapI (by omega)] at hz; subst hz; exact hK)))); (conv => whnf)) | ((with_reducible apply z_wrap); (focus omega); (conv => whnf)) | ((with_reducible first | apply mt_dec | apply mt_eq | apply mt_ne | apply mt_not | apply mt_any) <;> (intro _; conv => whnf)))
  refine (cf_ok d.nodes hn).mono ?_
  rintro _ _ ⟨rfl, rfl⟩
  conv => whnf
  repeat' (first | ((with_reducible apply rd_intro); (focus (intro K hK; (conv => whnf); first | exact hK | (intro z hz; rw [wrapI (by omega)] at hz; subst hz; exact hK))); (conv => whnf)) | ((with_reducible apply gd_and); (focus ((conv => whnf) <;> first | rfl | (intro K hK; (conv => whnf); first | exact hK | (intro z hz; rw [wrapI (by omega)] at hz; subst hz; exact hK)))); (conv => whnf)) | ((with_reducible apply z_wrap); (focus omega); (conv => whnf)) | ((with_reducible first | apply mt_dec | apply mt_eq | apply mt_ne | apply mt_not | apply mt_any) <;> (intro _; conv => whnf)))
  exact ⟨rfl, rfl⟩
/-- the least round behind one that is settled; 0: there is none -/
def nextR (d : Dag) (r : Int) : Int := if h : r ≥ topR d.certs then 0 else if settled d r then r else nextR d (r + 2)
termination_by (topR d.certs - r).toNat
theorem next_top {d : Dag} {r : Int} (h : r ≥ topR d.certs) : nextR d r = 0 := by rw [nextR, dif_pos h]
theorem next_here {d : Dag} {r : Int} (h : ¬ r ≥ topR d.certs) (h2 : settled d r = true) : nextR d r = r := by rw [nextR, dif_neg h, if_pos h2]
theorem next_on {d : Dag} {r : Int} (h : ¬ r ≥ topR d.certs) (h2 : settled d r = false) : nextR d r = nextR d (r + 2) := by rw [nextR, dif_neg h, if_neg (by simp [h2])]
def nextC (d : Dag) (after : Int) : Int := nextR d (max after (d.low - d.low % 2) + 2)
structure Dag.well (d : Dag) : Prop where
  fit : d.fit
  nodes : 0 < d.nodes ∧ d.nodes ≤ 16
  pars : fewC d
  low : 0 ≤ d.low ∧ d.low ≤ 1099511627776
  top : topR d.certs ≤ 1099511627776
  len : d.certs.length ≤ 65536
  dig : (d.certs.map (·.digest)).Nodup
  pos : ∀ c ∈ d.certs, 1 ≤ c.digest
set_option maxHeartbeats 1000000 in
theorem next_ok (d : Dag) (hw : d.well) (after : Int) (ha : 0 ≤ after ∧ after ≤ 1099511627776) : ACalls Tryz.prog 82 [d.av, .d (.int .i64 after)] [] (fun av L => av = .d (.int .i64 (nextC d after)) ∧ L = []) := by
  have hlow := hw.low
  have htop := hw.top
  refine acalls_go ttOk zOk foOk Tryz.func82 rfl Tryz.ntmps82 rfl false rfl ?_
  conv => whnf
  obtain ⟨r0, hr0⟩ : ∃ r0, max after (d.low - d.low % 2) + 2 = r0 := ⟨_, rfl⟩
  rw [nextC, hr0]
  refine scope_go ttOk zOk foOk (σ := Int) (fun r => ([(2, .ptr 0 0), (5, .d (.int .i64 r)), (6, .d (.int .i64 (topR d.certs)))], [.cells d.cells]))
    (fun l r => l = 0 ∧ 2 ≤ r ∧ r ≤ 2199023255552 ∧ nextR d r = nextR d r0) (fun _ r => (topR d.certs - r).toNat) ?_ ?_
  · rintro l rest hl r ⟨rfl, h1, h2, h3⟩
    have e := Option.some.inj (show some _ = some rest from hl)
    subst e
    clear hl
    rw [← h3]
    conv => whnf
    repeat' (first | ((with_reducible apply rd_intro); (focus (intro K hK; (conv => whnf); first | exact hK | (intro z hz; rw [wrapI (by omega)] at hz; subst hz; exact hK))); (conv => whnf)) | ((with_reducible apply gd_and); (focus ((conv => whnf) <;> first | rfl | (intro K hK; (conv => whnf); first | exact hK | (intro z hz; rw [wrapI (by omega)] at hz; subst hz; exact hK)))); (conv => whnf)) | ((with_reducible apply z_wrap); (focus omega); (conv => whnf)) | ((with_reducible first | apply mt_dec | apply mt_eq | apply mt_ne | apply mt_not | apply mt_any) <;> (intro _; conv => whnf)))
    · rename_i h
      exact ⟨by rw [next_top h]; rfl, rfl⟩
    · rename_i h
      refine (settled_ok d hw.fit hw.nodes hw.pars r ⟨h1, by omega⟩).mono ?_
      rintro _ _ ⟨rfl, rfl⟩
      obtain ⟨b, hb⟩ : ∃ b, settled d r = b := ⟨_, rfl⟩
      rw [hb]
      conv => whnf
      repeat' (first | ((with_reducible apply rd_intro); (focus (intro K hK; (conv => whnf); first | exact hK | (intro z hz; rw [wrapI (by omega)] at hz; subst hz; exact hK))); (conv => whnf)) | ((with_reducible apply gd_and); (focus ((conv => whnf) <;> first | rfl | (intro K hK; (conv => whnf); first | exact hK | (intro z hz; rw [wrapI (by omega)] at hz; subst hz; exact hK)))); (conv => whnf)) | ((with_reducible apply z_wrap); (focus omega); (conv => whnf)) | ((with_reducible first | apply mt_dec | apply mt_eq | apply mt_ne | apply mt_not | apply mt_any) <;> (intro _; conv => whnf)))
      · rename_i h4
        subst h4
        exact ⟨by rw [next_here h hb], rfl⟩
      · rename_i h4
        subst h4
        refine into_of [2, 5, 6] ?_
        conv => whnf
        exact ⟨r + 2, rfl, rfl, ⟨rfl, by omega, by omega, (next_on h hb).symm⟩, by omega⟩
  · intro pass
    conv => whnf
    repeat' (first | ((with_reducible apply rd_intro); (focus (intro K hK; (conv => whnf); first | exact hK | (intro z hz; rw [wrapI (by omega)] at hz; subst hz; exact hK))); (conv => whnf)) | ((with_reducible apply gd_and); (focus ((conv => whnf) <;> first | rfl | (intro K hK; (conv => whnf); first | exact hK | (intro z hz; rw [wrapI (by omega)] at hz; subst hz; exact hK)))); (conv => whnf)) | ((with_reducible apply z_wrap); (focus omega); (conv => whnf)) | ((with_reducible first | apply mt_dec | apply mt_eq | apply mt_ne | apply mt_not | apply mt_any) <;> (intro _; conv => whnf)))
    refine ⟨by decide, ?_⟩
    intro z hz
    have : z = d.low % 2 := by rw [hz, Int.tmod_eq_emod_of_nonneg (by omega)]
    clear hz
    subst this
    conv => whnf
    repeat' (first | ((with_reducible apply rd_intro); (focus (intro K hK; (conv => whnf); first | exact hK | (intro z hz; rw [wrapI (by omega)] at hz; subst hz; exact hK))); (conv => whnf)) | ((with_reducible apply gd_and); (focus ((conv => whnf) <;> first | rfl | (intro K hK; (conv => whnf); first | exact hK | (intro z hz; rw [wrapI (by omega)] at hz; subst hz; exact hK)))); (conv => whnf)) | ((with_reducible apply z_wrap); (focus omega); (conv => whnf)) | ((with_reducible first | apply mt_dec | apply mt_eq | apply mt_ne | apply mt_not | apply mt_any) <;> (intro _; conv => whnf)))
    rw [hr0]
    refine (high_ok d hw.fit.few).mono ?_
    rintro _ _ ⟨rfl, rfl⟩
    conv => whnf
    refine aw_at (σ := Unit) (fun _ => ([(2, .ptr 0 0), (5, .d (.int .i64 r0)), (6, .d (.int .i64 (topR d.certs)))], [.cells d.cells])) (fun _ => True) [2, 5, 6] ?_ ?_
    · conv => whnf
      exact ⟨(), rfl, rfl, trivial⟩
    · intro _ _
      exact pass 0 _ rfl r0 ⟨rfl, by omega, by omega, rfl⟩
/-! ## where a digest stands -/
def getC (l : List Cert) (x : Int) : Option Nat := l.findIdx? fun c => decide (c.digest = x)
def getI (l : List Cert) (x : Int) : Int := (getC l x).elim (-1) fun i => (i : Int)
theorem getf_ok (c : Cert) (x : Int) : ACalls Tryz.prog 125 [c.av, .ptr 0 0] [.cells [.d (.int .i64 x)]] (fun av L => av = .d (.bool (c.digest == x)) ∧ L = [.cells [.d (.int .i64 x)]]) := by
  refine acalls_go ttOk zOk foOk Tryz.func125 rfl Tryz.ntmps125 rfl false rfl ?_
  conv => whnf
  exact ⟨rfl, rfl⟩
theorem indexF_ok (l : List Cert) (hl : few l) (x : Int) : ACalls Tryz.prog 67 [.d (.sl 6 (certsD l)), .fn 125 [.ptr 0 0]] [.cells [.d (.int .i64 x)]] (fun av L => av = .d (.int .i64 (getI l x)) ∧ L = [.cells [.d (.int .i64 x)]]) := by
  have hll := certsD_length l
  unfold few at hl
  refine acalls_go ttOk zOk foOk Tryz.func67 rfl Tryz.ntmps67 rfl false rfl ?_
  conv => whnf
  refine loop_go ttOk zOk foOk (σ := Nat) (fun j => ([(1, .fn 125 [.ptr 0 0]), (0, .d (.sl 6 (certsD l))), (7, .d (.int .i64 l.length)), (8, .d (.int .i64 j))], [.cells [.d (.int .i64 x)]])) (fun j => j ≤ l.length ∧ ∀ i c, i < j → l[i]? = some c → c.digest ≠ x) (fun j => l.length - j) [1, 0, 7, 8] ?_ ?_
  · conv => whnf
    exact ⟨0, by rw [hll]; rfl, rfl, Nat.zero_le _, by omega⟩
  · rintro j ⟨h1, h2⟩
    conv => whnf
    repeat' (first | ((with_reducible apply rd_intro); (focus (intro K hK; (conv => whnf); first | exact hK | (intro z hz; rw [wrapI (by omega)] at hz; subst hz; exact hK))); (conv => whnf)) | ((with_reducible apply gd_and); (focus ((conv => whnf) <;> first | rfl | (intro K hK; (conv => whnf); first | exact hK | (intro z hz; rw [wrapI (by omega)] at hz; subst hz; exact hK)))); (conv => whnf)) | ((with_reducible apply z_wrap); (focus omega); (conv => whnf)) | ((with_reducible first | apply mt_dec | apply mt_eq | apply mt_ne | apply mt_not | apply mt_any) <;> (intro _; conv => whnf)))
    · rename_i h
      obtain ⟨c, hc⟩ : ∃ c, l[j]? = some c := ⟨_, List.getElem?_eq_getElem (by omega)⟩
      refine ⟨by omega, c.cs, certsD_at hc, ?_⟩
      conv => whnf
      refine (getf_ok c x).mono ?_
      rintro _ _ ⟨rfl, rfl⟩
      conv => whnf
      repeat' (first | ((with_reducible apply rd_intro); (focus (intro K hK; (conv => whnf); first | exact hK | (intro z hz; rw [wrapI (by omega)] at hz; subst hz; exact hK))); (conv => whnf)) | ((with_reducible apply gd_and); (focus ((conv => whnf) <;> first | rfl | (intro K hK; (conv => whnf); first | exact hK | (intro z hz; rw [wrapI (by omega)] at hz; subst hz; exact hK)))); (conv => whnf)) | ((with_reducible apply z_wrap); (focus omega); (conv => whnf)) | ((with_reducible first | apply mt_dec | apply mt_eq | apply mt_ne | apply mt_not | apply mt_any) <;> (intro _; conv => whnf)))
      · rename_i h3
        have : getC l x = some j := by
          unfold getC
          rw [List.findIdx?_eq_some_iff_getElem]
          refine ⟨by omega, ?_, ?_⟩
          · rw [List.getElem?_eq_getElem (by omega)] at hc
            rw [Option.some.inj hc]
            simpa using h3
          · intro i hi
            have := h2 i l[i] hi (List.getElem?_eq_getElem (by omega))
            simpa using this
        exact ⟨by rw [getI, this]; rfl, rfl⟩
      · rename_i h3
        refine ⟨j + 1, rfl, rfl, ⟨by omega, fun i c' hi hc' => ?_⟩, by omega⟩
        rcases Nat.lt_or_ge i j with h4 | h4
        · exact h2 i c' h4 hc'
        · obtain rfl : i = j := by omega
          rw [hc] at hc'; cases hc'; exact h3
    · rename_i h
      have : getC l x = none := by
        unfold getC
        rw [List.findIdx?_eq_none_iff]
        intro c hc
        obtain ⟨i, hi⟩ := List.getElem?_of_mem hc
        have hlt : i < l.length := by
          rcases Nat.lt_or_ge i l.length with h2 | h2
          · exact h2
          · rw [List.getElem?_eq_none h2] at hi; cases hi
        have := h2 i c (by omega) hi
        simpa using this
      exact ⟨by rw [getI, this]; rfl, rfl⟩
theorem get_ok (d : Dag) (hd : few d.certs) (x : Int) : ACalls Tryz.prog 109 [d.av, .d (.int .i64 x)] [] (fun av L => av = .d (.int .i64 (getI d.certs x)) ∧ L = []) := by
  refine acalls_go ttOk zOk foOk Tryz.func109 rfl Tryz.ntmps109 rfl false rfl ?_
  conv => whnf
  refine (indexF_ok d.certs hd x).mono ?_
  rintro _ _ ⟨rfl, rfl⟩
  conv => whnf
  exact ⟨rfl, rfl⟩
end Go.Proofs.YtoeppembokpjkaaGreat

namespace Go.Proofs.YtoeppembokpjkaaGreat
open Go.Ab Go.RowKit
/-! ## sets of numbers, as maps to true -/
def setM (ks : List Int) : List (KV × MV) := ks.map fun k => (.one (.int .i64 k), .v (.one (.bool true)))
def insS (ks : List Int) (k : Int) : List Int := if k ∈ ks then ks else ks ++ [k]
theorem mem_insS {ks : List Int} {k x : Int} : x ∈ insS ks k ↔ x ∈ ks ∨ x = k := by
  unfold insS
  split
  · rename_i h
    exact ⟨.inl, fun h2 => h2.elim id (fun e => e ▸ h)⟩
  · simp
theorem setM_find (k : Int) : ∀ (ks : List Int) (j : Nat), mfind (.one (.int .i64 k)) (setM ks) j = some (if k ∈ ks then some (j + ks.idxOf k, .v (.one (.bool true))) else none)
  | [], j => by simp [setM, mfind]
  | x :: r, j => by
    have ih := setM_find k r (j + 1)
    have e : mfind (.one (.int .i64 k)) (setM (x :: r)) j = match some (k == x) with
        | some true => some (some (j, .v (.one (.bool true))))
        | some false => mfind (.one (.int .i64 k)) (setM r) (j + 1)
        | none => none := rfl
    rw [e]
    by_cases h : k = x
    · subst h; simp
    · have hb : (k == x) = false := by simpa using h
      have hb2 : (x == k) = false := by simpa using Ne.symm h
      rw [hb, ih]
      have : List.idxOf k (x :: r) = List.idxOf k r + 1 := by rw [List.idxOf_cons, hb2]; rfl
      by_cases hm : k ∈ r
      · rw [if_pos hm, if_pos (List.mem_cons_of_mem _ hm), this, show j + 1 + List.idxOf k r = j + (List.idxOf k r + 1) by omega]
      · rw [if_neg hm, if_neg (by simp [h, hm])]
theorem setM_look (ks : List Int) (k : Int) : ∃ r, mfind (.one (.int .i64 k)) (setM ks) 0 = some r ∧ ((k ∈ ks ∧ ∃ j, r = some (j, .v (.one (.bool true)))) ∨ (k ∉ ks ∧ r = none)) := by
  refine ⟨_, setM_find k ks 0, ?_⟩
  by_cases h : k ∈ ks
  · rw [if_pos h]; exact .inl ⟨h, _, rfl⟩
  · rw [if_neg h]; exact .inr ⟨h, rfl⟩
theorem setM_put (ks : List Int) (k : Int) : ∃ r, mfind (.one (.int .i64 k)) (setM ks) 0 = some r ∧ mputAt (setM ks) r (.one (.int .i64 k)) (.v (.one (.bool true))) = setM (insS ks k) := by
  refine ⟨_, setM_find k ks 0, ?_⟩
  unfold insS
  by_cases h : k ∈ ks
  · rw [if_pos h, if_pos h]
    simp only [mputAt, Nat.zero_add]
    have hi : ks.idxOf k < ks.length := List.idxOf_lt_length_of_mem h
    refine List.ext_getElem? fun j => ?_
    by_cases hj : j = ks.idxOf k
    · subst hj
      rw [List.getElem?_set_self (by simpa [setM] using hi)]
      simp [setM, List.getElem?_map, List.getElem?_eq_getElem hi]
    · rw [List.getElem?_set_ne (Ne.symm hj)]
  · rw [if_neg h, if_neg h]
    simp [mputAt, setM]
/-! ## what a certificate reaches -/
def addS (ks ps : List Int) : List Int := ps.foldl insS ks
def downL (dl low : Int) : List Cert → List Int → List Int
  | [], _ => []
  | c :: r, ks => if c.round ≤ low then [] else if c.digest ∈ ks then c.digest :: downL dl low r (if c.round > dl + 1 then addS ks c.pars else ks) else downL dl low r ks
def downI (d : Dag) (i : Nat) (low : Int) : List Int := downL d.low low (d.certs.take (i + 1)).reverse ((d.certs[i]?).toList.map (·.digest))
theorem take_rev {α : Type} {l : List α} {k : Nat} {c : α} (h : l[k]? = some c) : (l.take (k + 1)).reverse = c :: (l.take k).reverse := by
  rw [List.take_add_one, h]; simp
structure D6 where
  (a b c d e f : DV)
def D6.cells (x : D6) : List AV := [.d x.a, .d x.b, .d x.c, .d x.d, .d x.e, .d x.f]
end Go.Proofs.YtoeppembokpjkaaGreat

namespace Go.Proofs.YtoeppembokpjkaaGreat
open Go.Ab Go.RowKit Go.MapKept
attribute [local irreducible] ACalls AW ADraw Into fltB fnear
set_option maxRecDepth 100000
def downSt (d : Dag) (low : Int) : Int × List Int × List Int × D6 → AF × List AB
  | (k, ks, out, x) => ([(2, .d (.int .i64 low)), (3, .ptr 0 0), (6, .arr 1), (7, .map 2), (8, .ptr 3 0), (9, .d (.int .i64 k))], [.cells d.cells, .row 3 1 (nums out) false, .map (setM ks), .cells x.cells])
def downInv (d : Dag) (i : Nat) (low : Int) (l : Nat) : Int × List Int × List Int × D6 → Prop
  | (k, ks, out, _) => (l = 1 ∧ -1 ≤ k ∧ k < d.certs.length ∧ out.length + (k + 1).toNat ≤ d.certs.length ∧ downI d i low = out ++ downL d.low low (d.certs.take (k + 1).toNat).reverse ks) ∨ (l = 0 ∧ downI d i low = out)
def downMu (l : Nat) : Int × List Int × List Int × D6 → Nat
  | (k, _, _, _) => if l = 1 then (k + 1).toNat + 1 else 0
/-- the marks of a certificate's parents -/
def parSt (d : Dag) (low k : Int) (out : List Int) (c : Cert) (ks : List Int) (j : Nat) : AF × List AB :=
  ([(2, .d (.int .i64 low)), (3, .ptr 0 0), (6, .arr 1), (7, .map 2), (8, .ptr 3 0), (9, .d (.int .i64 k)), (54, .d (.sl 1 (nums c.pars))), (55, .d (.int .i64 c.pars.length)), (56, .d (.int .i64 j))], [.cells d.cells, .row 3 1 (nums out) false, .map (setM (addS ks (c.pars.take j))), .cells c.cells])
set_option maxHeartbeats 2000000 in
theorem down_ok (d : Dag) (hd : d.certs.length ≤ 65536) (hp : fewC d) (hlow : 0 ≤ d.low ∧ d.low ≤ 1099511627776) (i : Nat) (hi : i < d.certs.length) (low : Int) : ACalls Tryz.prog 127 [d.av, .d (.int .i64 i), .d (.int .i64 low)] [] (fun av L => av = .arr 0 ∧ L = [.row 3 1 (nums (downI d i low)) false]) := by
  have hcl := certsD_length d.certs
  obtain ⟨c0, hc0⟩ : ∃ c, d.certs[i]? = some c := ⟨_, List.getElem?_eq_getElem hi⟩
  refine acalls_go ttOk zOk foOk Tryz.func127 rfl Tryz.ntmps127 rfl true rfl ?_
  conv => whnf
  refine scope_go ttOk zOk foOk (σ := Int × List Int × List Int × D6) (downSt d low) (downInv d i low) downMu ?_ ?_
  · rintro l rest hl ⟨k, ks, out, ⟨x1, x2, x3, x4, x5, x6⟩⟩ hh
    rcases hh with ⟨rfl, h1, h2, h3, h4⟩ | ⟨rfl, h4⟩
    · have e := Option.some.inj (show some _ = some rest from hl)
      subst e
      clear hl
      conv => whnf
      repeat' (first | ((with_reducible apply z_wrap); (focus omega); (conv => whnf)) | ((with_reducible first | apply mt_dec | apply mt_eq | apply mt_ne | apply mt_not | apply mt_any) <;> (intro _; conv => whnf)))
      · rename_i h
        refine into_of [2, 3, 6, 7, 8, 9] ?_
        conv => whnf
        refine ⟨(k, ks, out, ⟨_, _, _, _, _, _⟩), rfl, rfl, .inr ⟨rfl, ?_⟩, by show 0 < (k + 1).toNat + 1; omega⟩
        rw [h4, show (k + 1).toNat = 0 by omega]
        simp [downL]
      · rename_i h
        obtain ⟨m, hm⟩ : ∃ m : Nat, k = m := ⟨k.toNat, by omega⟩
        subst hm
        obtain ⟨c, hc⟩ : ∃ c, d.certs[m]? = some c := ⟨_, List.getElem?_eq_getElem (by omega)⟩
        have hpf := hp c (List.mem_of_getElem? hc)
        have hpl := nums_length c.pars
        unfold few at hpf
        rw [show ((m : Int) + 1).toNat = m + 1 by omega, take_rev hc] at h4
        refine ⟨by omega, c.cs, certsD_at hc, ?_⟩
        conv => whnf
        repeat' (first | ((with_reducible apply z_wrap); (focus omega); (conv => whnf)) | ((with_reducible first | apply mt_dec | apply mt_eq | apply mt_ne | apply mt_not | apply mt_any) <;> (intro _; conv => whnf)))
        · rename_i h5
          refine into_of [2, 3, 6, 7, 8, 9] ?_
          conv => whnf
          refine ⟨(m, ks, out, ⟨_, _, _, _, _, _⟩), rfl, rfl, .inr ⟨rfl, ?_⟩, by show 0 < ((m : Int) + 1).toNat + 1; omega⟩
          rw [h4, downL, if_pos h5, List.append_nil]
        · rename_i h5
          rw [downL, if_neg h5] at h4
          obtain ⟨q, hq, hq2⟩ := setM_look ks c.digest
          refine ⟨q, hq, ?_⟩
          have hmu : ∀ z : Int × List Int × List Int × D6, z.1 = (m : Int) - 1 → downMu 1 z < downMu 1 ((m : Int), ks, out, D6.mk x1 x2 x3 x4 x5 x6) := by
            rintro ⟨a, _, _, _⟩ hz
            replace hz : a = (m : Int) - 1 := hz
            subst hz
            show ((m : Int) - 1 + 1).toNat + 1 < ((m : Int) + 1).toNat + 1
            omega
          rcases hq2 with ⟨hin, j, rfl⟩ | ⟨hin, rfl⟩
          · rw [if_pos hin] at h4
            conv => whnf
            refine ⟨by rw [nums_length, List.length_singleton]; show (out.length + 1) * 8 ≤ _; omega, ?_⟩
            conv => whnf
            rw [nums_app]
            repeat' (first | ((with_reducible apply z_wrap); (focus omega); (conv => whnf)) | ((with_reducible first | apply mt_dec | apply mt_eq | apply mt_ne | apply mt_not | apply mt_any) <;> (intro _; conv => whnf)))
            · rename_i h6
              rw [if_pos h6] at h4
              refine loop_go ttOk zOk foOk (σ := Nat) (parSt d low ((m : Int) - 1) (out ++ [c.digest]) c ks) (fun j => j ≤ c.pars.length) (fun j => c.pars.length - j) [2, 3, 6, 7, 8, 9, 54, 55, 56] ?_ ?_
              · conv => whnf
                refine ⟨0, ?_, ?_, Nat.zero_le _⟩
                · rw [hpl]; rfl
                · rfl
              · intro j hj
                conv => whnf
                repeat' (first | ((with_reducible apply z_wrap); (focus omega); (conv => whnf)) | ((with_reducible first | apply mt_dec | apply mt_eq | apply mt_ne | apply mt_not | apply mt_any) <;> (intro _; conv => whnf)))
                · rename_i h7
                  obtain ⟨x, hx⟩ : ∃ x, c.pars[j]? = some x := ⟨_, List.getElem?_eq_getElem (by omega)⟩
                  refine ⟨by omega, [.int .i64 x], nums_at hx, ?_⟩
                  conv => whnf
                  obtain ⟨q, hq, hq2⟩ := setM_put (addS ks (c.pars.take j)) x
                  refine ⟨q, hq, ?_⟩
                  rw [show mputAt (setM (addS ks (c.pars.take j))) q (.one (.int .i64 x)) (.v (.one (avOf1 (Value.bool true)))) = setM (addS ks (c.pars.take (j + 1))) by rw [List.take_add_one, hx]; simp only [addS, Option.toList_some, List.foldl_append, List.foldl_cons, List.foldl_nil]; exact hq2]
                  conv => whnf
                  repeat' (first | ((with_reducible apply z_wrap); (focus omega); (conv => whnf)) | ((with_reducible first | apply mt_dec | apply mt_eq | apply mt_ne | apply mt_not | apply mt_any) <;> (intro _; conv => whnf)))
                  exact ⟨j + 1, rfl, rfl, by omega, by omega⟩
                · rename_i h7
                  obtain rfl : j = c.pars.length := by omega
                  refine into_of [2, 3, 6, 7, 8, 9] ?_
                  conv => whnf
                  rw [List.take_length]
                  refine ⟨((m : Int) - 1, addS ks c.pars, out ++ [c.digest], ⟨_, _, _, _, _, _⟩), rfl, rfl, .inl ⟨rfl, by omega, by omega, by rw [List.length_append, List.length_singleton]; omega, ?_⟩, hmu _ rfl⟩
                  rw [h4, show ((m : Int) - 1 + 1).toNat = m by omega, List.append_assoc]
                  rfl
            · rename_i h6
              rw [if_neg h6] at h4
              refine into_of [2, 3, 6, 7, 8, 9] ?_
              conv => whnf
              refine ⟨((m : Int) - 1, ks, out ++ [c.digest], ⟨_, _, _, _, _, _⟩), rfl, rfl, .inl ⟨rfl, by omega, by omega, by rw [List.length_append, List.length_singleton]; omega, ?_⟩, hmu _ rfl⟩
              rw [h4, show ((m : Int) - 1 + 1).toNat = m by omega, List.append_assoc]
              rfl
          · rw [if_neg hin] at h4
            conv => whnf
            repeat' (first | ((with_reducible apply z_wrap); (focus omega); (conv => whnf)) | ((with_reducible first | apply mt_dec | apply mt_eq | apply mt_ne | apply mt_not | apply mt_any) <;> (intro _; conv => whnf)))
            refine into_of [2, 3, 6, 7, 8, 9] ?_
            conv => whnf
            refine ⟨((m : Int) - 1, ks, out, ⟨_, _, _, _, _, _⟩), rfl, rfl, .inl ⟨rfl, by omega, by omega, by omega, ?_⟩, hmu _ rfl⟩
            rw [h4, show ((m : Int) - 1 + 1).toNat = m by omega]
    · have e := Option.some.inj (show some _ = some rest from hl)
      subst e
      clear hl
      rw [h4]
      conv => whnf
      exact ⟨rfl, rfl⟩
  · intro pass
    conv => whnf
    repeat' (first | ((with_reducible apply z_wrap); (focus omega); (conv => whnf)) | ((with_reducible first | apply mt_dec | apply mt_eq | apply mt_ne | apply mt_not | apply mt_any) <;> (intro _; conv => whnf)))
    refine ⟨by omega, c0.cs, certsD_at hc0, ?_⟩
    conv => whnf
    refine ⟨none, rfl, ?_⟩
    conv => whnf
    have hstart : downInv d i low 1 ((i : Int), [c0.digest], [], ⟨.int .i64 0, .int .i64 0, .nils, .nils, .int .i64 0, .nils⟩) := by
      refine .inl ⟨rfl, by omega, by omega, by show 0 + ((i : Int) + 1).toNat ≤ _; omega, ?_⟩
      rw [downI, hc0, show ((i : Int) + 1).toNat = i + 1 by omega]
      rfl
    refine aw_at (σ := Unit) (fun _ => downSt d low ((i : Int), [c0.digest], [], ⟨.int .i64 0, .int .i64 0, .nils, .nils, .int .i64 0, .nils⟩)) (fun _ => True) [2, 3, 6, 7, 8, 9] ?_ ?_
    · conv => whnf
      exact ⟨(), rfl, rfl, trivial⟩
    · intro _ _
      exact pass 1 _ rfl _ hstart
end Go.Proofs.YtoeppembokpjkaaGreat

namespace Go.Proofs.YtoeppembokpjkaaGreat
open Go.Ab Go.RowKit Go.MapKept
attribute [local irreducible] ACalls AW ADraw Into fltB fnear
set_option maxRecDepth 100000
def reachI (d : Dag) (i j : Nat) (c : Cert) : Bool := decide (c.digest ∈ downI d i (c.round - 1))
theorem down_len (dl low : Int) : ∀ (l : List Cert) (ks : List Int), (downL dl low l ks).length ≤ l.length
  | [], _ => Nat.le_refl _
  | c :: r, ks => by
    unfold downL
    split
    · exact Nat.zero_le _
    · split
      · have := down_len dl low r (if c.round > dl + 1 then addS ks c.pars else ks)
        simp only [List.length_cons]; omega
      · have := down_len dl low r ks
        simp only [List.length_cons]; omega
theorem downI_len (d : Dag) (i : Nat) (low : Int) : (downI d i low).length ≤ d.certs.length := by
  have := down_len d.low low (d.certs.take (i + 1)).reverse ((d.certs[i]?).toList.map (·.digest))
  rw [List.length_reverse, List.length_take] at this
  unfold downI
  omega
theorem reaches_ok (d : Dag) (hd : d.certs.length ≤ 65536) (hp : fewC d) (hlow : 0 ≤ d.low ∧ d.low ≤ 1099511627776) (i j : Nat) (hi : i < d.certs.length) {c : Cert} (hj : d.certs[j]? = some c) (hr : isF c.round) : ACalls Tryz.prog 110 [d.av, .d (.int .i64 i), .d (.int .i64 j)] [] (fun av L => av = .d (.bool (reachI d i j c)) ∧ L = []) := by
  have hjl : j < d.certs.length := by
    rcases Nat.lt_or_ge j d.certs.length with h | h
    · exact h
    · rw [List.getElem?_eq_none h] at hj; cases hj
  have hr1 := hr.1
  have hr2 := hr.2
  have hlen := downI_len d i (c.round - 1)
  refine acalls_go ttOk zOk foOk Tryz.func110 rfl Tryz.ntmps110 rfl false rfl ?_
  conv => whnf
  ((with_reducible refine draw_pl ttOk zOk foOk mixedOk pl110x1 ?_ ?_); (focus kernel_rfl); (conv => whnf))
  repeat' (first | ((with_reducible apply rd_intro); (focus (intro K hK; (conv => whnf); first | exact hK | (intro z hz; rw [wrapI (by omega)] at hz; subst hz; exact hK))); (conv => whnf)) | ((with_reducible apply gd_and); (focus ((conv => whnf) <;> first | rfl | (intro K hK; (conv => whnf); first | exact hK | (intro z hz; rw [wrapI (by omega)] at hz; subst hz; exact hK)))); (conv => whnf)) | ((with_reducible apply z_wrap); (focus omega); (conv => whnf)) | ((with_reducible first | apply mt_dec | apply mt_eq | apply mt_ne | apply mt_not | apply mt_any) <;> (intro _; conv => whnf)))
  ((with_reducible apply rd_intro); (focus (intro K hK; (conv => whnf); exact ⟨by omega, c.cs, certsD_at hj, hK⟩)); (conv => whnf))
  repeat' (first | ((with_reducible apply rd_intro); (focus (intro K hK; (conv => whnf); first | exact hK | (intro z hz; rw [wrapI (by omega)] at hz; subst hz; exact hK))); (conv => whnf)) | ((with_reducible apply gd_and); (focus ((conv => whnf) <;> first | rfl | (intro K hK; (conv => whnf); first | exact hK | (intro z hz; rw [wrapI (by omega)] at hz; subst hz; exact hK)))); (conv => whnf)) | ((with_reducible apply z_wrap); (focus omega); (conv => whnf)) | ((with_reducible first | apply mt_dec | apply mt_eq | apply mt_ne | apply mt_not | apply mt_any) <;> (intro _; conv => whnf)))
  ((with_reducible apply rd_intro); (focus (intro K hK; (conv => whnf); exact ⟨by omega, c.cs, certsD_at hj, hK⟩)); (conv => whnf))
  repeat' (first | ((with_reducible apply rd_intro); (focus (intro K hK; (conv => whnf); first | exact hK | (intro z hz; rw [wrapI (by omega)] at hz; subst hz; exact hK))); (conv => whnf)) | ((with_reducible apply gd_and); (focus ((conv => whnf) <;> first | rfl | (intro K hK; (conv => whnf); first | exact hK | (intro z hz; rw [wrapI (by omega)] at hz; subst hz; exact hK)))); (conv => whnf)) | ((with_reducible apply z_wrap); (focus omega); (conv => whnf)) | ((with_reducible first | apply mt_dec | apply mt_eq | apply mt_ne | apply mt_not | apply mt_any) <;> (intro _; conv => whnf)))
  refine (down_ok d hd hp hlow i hi (c.round - 1)).mono ?_
  rintro _ _ ⟨rfl, rfl⟩
  conv => whnf
  repeat' (first | ((with_reducible apply rd_intro); (focus (intro K hK; (conv => whnf); first | exact hK | (intro z hz; rw [wrapI (by omega)] at hz; subst hz; exact hK))); (conv => whnf)) | ((with_reducible apply gd_and); (focus ((conv => whnf) <;> first | rfl | (intro K hK; (conv => whnf); first | exact hK | (intro z hz; rw [wrapI (by omega)] at hz; subst hz; exact hK)))); (conv => whnf)) | ((with_reducible apply z_wrap); (focus omega); (conv => whnf)) | ((with_reducible first | apply mt_dec | apply mt_eq | apply mt_ne | apply mt_not | apply mt_any) <;> (intro _; conv => whnf)))
  ((with_reducible apply gd_and); (focus ((conv => whnf); intro K hK; (conv => whnf); exact ⟨by omega, c.cs, certsD_at hj, hK⟩)); (conv => whnf))
  repeat' (first | ((with_reducible apply rd_intro); (focus (intro K hK; (conv => whnf); first | exact hK | (intro z hz; rw [wrapI (by omega)] at hz; subst hz; exact hK))); (conv => whnf)) | ((with_reducible apply gd_and); (focus ((conv => whnf) <;> first | rfl | (intro K hK; (conv => whnf); first | exact hK | (intro z hz; rw [wrapI (by omega)] at hz; subst hz; exact hK)))); (conv => whnf)) | ((with_reducible apply z_wrap); (focus omega); (conv => whnf)) | ((with_reducible first | apply mt_dec | apply mt_eq | apply mt_ne | apply mt_not | apply mt_any) <;> (intro _; conv => whnf)))
  (refine Or.inl ?_; (conv => whnf))
  refine (contains_ok (downI d i (c.round - 1)) (by unfold few; omega) c.digest).mono ?_
  rintro _ _ ⟨rfl, rfl⟩
  conv => whnf
  repeat' (first | ((with_reducible apply rd_intro); (focus (intro K hK; (conv => whnf); first | exact hK | (intro z hz; rw [wrapI (by omega)] at hz; subst hz; exact hK))); (conv => whnf)) | ((with_reducible apply gd_and); (focus ((conv => whnf) <;> first | rfl | (intro K hK; (conv => whnf); first | exact hK | (intro z hz; rw [wrapI (by omega)] at hz; subst hz; exact hK)))); (conv => whnf)) | ((with_reducible apply z_wrap); (focus omega); (conv => whnf)) | ((with_reducible first | apply mt_dec | apply mt_eq | apply mt_ne | apply mt_not | apply mt_any) <;> (intro _; conv => whnf)))
  exact ⟨rfl, rfl⟩
def revI (l : List Int) (i : Nat) : List Int := (List.range l.length).map fun m => if m < i ∨ l.length ≤ m + i then l.getD (l.length - 1 - m) 0 else l.getD m 0
theorem revI_len (l : List Int) (i : Nat) : (revI l i).length = l.length := by simp [revI]
theorem revI_zero (l : List Int) : revI l 0 = l := by
  refine List.ext_getElem? fun m => ?_
  simp only [revI, List.getElem?_map]
  rcases Nat.lt_or_ge m l.length with h | h
  · rw [List.getElem?_range h, List.getElem?_eq_getElem h]
    simp [Nat.not_le.2 h, List.getD_eq_getElem?_getD, h]
  · rw [List.getElem?_eq_none (by simpa using h), List.getElem?_eq_none h]; rfl
theorem revI_at (l : List Int) (i m : Nat) (h : m < l.length) : (revI l i)[m]? = some (if m < i ∨ l.length ≤ m + i then l.getD (l.length - 1 - m) 0 else l.getD m 0) := by
  simp only [revI, List.getElem?_map, List.getElem?_range h, Option.map_some]
theorem revI_succ (l : List Int) (i : Nat) (h : 2 * i + 1 < l.length) : revI l (i + 1) = ((revI l i).set i (l.getD (l.length - 1 - i) 0)).set (l.length - 1 - i) (l.getD i 0) := by
  refine List.ext_getElem? fun m => ?_
  rcases Nat.lt_or_ge m l.length with hm | hm
  · rw [revI_at l (i + 1) m hm]
    by_cases h1 : m = l.length - 1 - i
    · subst h1
      rw [List.getElem?_set_self (by rw [List.length_set, revI_len]; omega), if_pos (.inr (by omega))]
      congr 2
      omega
    · rw [List.getElem?_set_ne (Ne.symm h1)]
      by_cases h2 : m = i
      · subst h2
        rw [List.getElem?_set_self (by rw [revI_len]; omega), if_pos (.inl (by omega))]
      · rw [List.getElem?_set_ne (Ne.symm h2), revI_at l i m hm]
        by_cases h3 : m < i ∨ l.length ≤ m + i
        · rw [if_pos h3, if_pos (by omega)]
        · rw [if_neg h3, if_neg (by omega)]
  · rw [List.getElem?_eq_none (by rw [revI_len]; exact hm), List.getElem?_eq_none (by rw [List.length_set, List.length_set, revI_len]; exact hm)]
theorem revI_end (l : List Int) (i : Nat) (h : l.length ≤ 2 * i + 1) : revI l i = l.reverse := by
  refine List.ext_getElem? fun m => ?_
  rcases Nat.lt_or_ge m l.length with hm | hm
  · rw [revI_at l i m hm, List.getElem?_reverse hm, List.getElem?_eq_getElem (show l.length - 1 - m < l.length by omega)]
    congr 1
    by_cases h3 : m < i ∨ l.length ≤ m + i
    · rw [if_pos h3]
      simp [List.getD_eq_getElem?_getD, show l.length - 1 - m < l.length by omega]
    · rw [if_neg h3]
      have : l.length - 1 - m = m := by omega
      simp only [this]
      simp [List.getD_eq_getElem?_getD, hm]
  · rw [List.getElem?_eq_none (by rw [revI_len]; exact hm), List.getElem?_eq_none (by rw [List.length_reverse]; exact hm)]
theorem reverse_ok (l : List Int) (hl : l.length ≤ 4398046511104) : ACalls Tryz.prog 111 [.arr 0] [.row 3 1 (nums l) false] (fun av L => av = .tup [] ∧ L = [.row 3 1 (nums l.reverse) false]) := by
  have hll := nums_length l
  refine acalls_go ttOk zOk foOk Tryz.func111 rfl Tryz.ntmps111 rfl true rfl ?_
  conv => whnf
  repeat' (first | ((with_reducible apply rd_intro); (focus (intro K hK; (conv => whnf); first | exact hK | (intro z hz; rw [wrapI (by omega)] at hz; subst hz; exact hK))); (conv => whnf)) | ((with_reducible apply gd_and); (focus ((conv => whnf) <;> first | rfl | (intro K hK; (conv => whnf); first | exact hK | (intro z hz; rw [wrapI (by omega)] at hz; subst hz; exact hK)))); (conv => whnf)) | ((with_reducible apply z_wrap); (focus omega); (conv => whnf)) | ((with_reducible first | apply mt_dec | apply mt_eq | apply mt_ne | apply mt_not | apply mt_any) <;> (intro _; conv => whnf)))
  refine loop_go ttOk zOk foOk (σ := Nat) (fun i => ([(0, .arr 0), (2, .d (.int .i64 i)), (3, .d (.int .i64 ((l.length : Int) - 1 - i)))], [.row 3 1 (nums (revI l i)) false])) (fun i => i ≤ l.length) (fun i => l.length - i) [0, 2, 3] ?_ ?_
  · conv => whnf
    refine ⟨0, ?_, ?_, Nat.zero_le _⟩
    · rw [hll, show (l.length : Int) - 1 - ((0 : Nat) : Int) = (l.length : Int) - 1 by omega]
      rfl
    · rw [revI_zero]
  · intro i hi
    have hrl : (nums (revI l i)).length = l.length := by rw [nums_length, revI_len]
    conv => whnf
    repeat' (first | ((with_reducible apply rd_intro); (focus (intro K hK; (conv => whnf); first | exact hK | (intro z hz; rw [wrapI (by omega)] at hz; subst hz; exact hK))); (conv => whnf)) | ((with_reducible apply gd_and); (focus ((conv => whnf) <;> first | rfl | (intro K hK; (conv => whnf); first | exact hK | (intro z hz; rw [wrapI (by omega)] at hz; subst hz; exact hK)))); (conv => whnf)) | ((with_reducible apply z_wrap); (focus omega); (conv => whnf)) | ((with_reducible first | apply mt_dec | apply mt_eq | apply mt_ne | apply mt_not | apply mt_any) <;> (intro _; conv => whnf)))
    · rename_i h
      ((with_reducible refine draw_pl ttOk zOk foOk mixedOk pl111x3 ?_ ?_); (focus kernel_rfl); (conv => whnf))
      repeat' (first | ((with_reducible apply rd_intro); (focus (intro K hK; (conv => whnf); first | exact hK | (intro z hz; rw [wrapI (by omega)] at hz; subst hz; exact hK))); (conv => whnf)) | ((with_reducible apply gd_and); (focus ((conv => whnf) <;> first | rfl | (intro K hK; (conv => whnf); first | exact hK | (intro z hz; rw [wrapI (by omega)] at hz; subst hz; exact hK)))); (conv => whnf)) | ((with_reducible apply z_wrap); (focus omega); (conv => whnf)) | ((with_reducible first | apply mt_dec | apply mt_eq | apply mt_ne | apply mt_not | apply mt_any) <;> (intro _; conv => whnf)))
      have h2 : 2 * i + 1 < l.length := by omega
      have hgi : (nums (revI l i))[((i : Int)).toNat]? = some [.int .i64 (l.getD i 0)] := by
        rw [Int.toNat_natCast]
        exact nums_at (by rw [revI_at l i i (by omega), if_neg (by omega)])
      have hgj : (nums (revI l i))[((l.length : Int) - 1 - i).toNat]? = some [.int .i64 (l.getD (l.length - 1 - i) 0)] := by
        rw [show ((l.length : Int) - 1 - i).toNat = l.length - 1 - i by omega]
        exact nums_at (by rw [revI_at l i _ (by omega), if_neg (by omega)])
      ((with_reducible apply rd_intro); (focus (intro K hK; (conv => whnf); exact ⟨by omega, by omega, hK⟩)); (conv => whnf))
      repeat' (first | ((with_reducible apply rd_intro); (focus (intro K hK; (conv => whnf); first | exact hK | (intro z hz; rw [wrapI (by omega)] at hz; subst hz; exact hK))); (conv => whnf)) | ((with_reducible apply gd_and); (focus ((conv => whnf) <;> first | rfl | (intro K hK; (conv => whnf); first | exact hK | (intro z hz; rw [wrapI (by omega)] at hz; subst hz; exact hK)))); (conv => whnf)) | ((with_reducible apply z_wrap); (focus omega); (conv => whnf)) | ((with_reducible first | apply mt_dec | apply mt_eq | apply mt_ne | apply mt_not | apply mt_any) <;> (intro _; conv => whnf)))
      ((with_reducible apply rd_intro); (focus (intro K hK; (conv => whnf); exact ⟨_, hgj, hK⟩)); (conv => whnf))
      repeat' (first | ((with_reducible apply rd_intro); (focus (intro K hK; (conv => whnf); first | exact hK | (intro z hz; rw [wrapI (by omega)] at hz; subst hz; exact hK))); (conv => whnf)) | ((with_reducible apply gd_and); (focus ((conv => whnf) <;> first | rfl | (intro K hK; (conv => whnf); first | exact hK | (intro z hz; rw [wrapI (by omega)] at hz; subst hz; exact hK)))); (conv => whnf)) | ((with_reducible apply z_wrap); (focus omega); (conv => whnf)) | ((with_reducible first | apply mt_dec | apply mt_eq | apply mt_ne | apply mt_not | apply mt_any) <;> (intro _; conv => whnf)))
      ((with_reducible apply rd_intro); (focus (intro K hK; (conv => whnf); exact ⟨by omega, by omega, hK⟩)); (conv => whnf))
      repeat' (first | ((with_reducible apply rd_intro); (focus (intro K hK; (conv => whnf); first | exact hK | (intro z hz; rw [wrapI (by omega)] at hz; subst hz; exact hK))); (conv => whnf)) | ((with_reducible apply gd_and); (focus ((conv => whnf) <;> first | rfl | (intro K hK; (conv => whnf); first | exact hK | (intro z hz; rw [wrapI (by omega)] at hz; subst hz; exact hK)))); (conv => whnf)) | ((with_reducible apply z_wrap); (focus omega); (conv => whnf)) | ((with_reducible first | apply mt_dec | apply mt_eq | apply mt_ne | apply mt_not | apply mt_any) <;> (intro _; conv => whnf)))
      ((with_reducible apply rd_intro); (focus (intro K hK; (conv => whnf); exact ⟨_, hgi, hK⟩)); (conv => whnf))
      repeat' (first | ((with_reducible apply rd_intro); (focus (intro K hK; (conv => whnf); first | exact hK | (intro z hz; rw [wrapI (by omega)] at hz; subst hz; exact hK))); (conv => whnf)) | ((with_reducible apply gd_and); (focus ((conv => whnf) <;> first | rfl | (intro K hK; (conv => whnf); first | exact hK | (intro z hz; rw [wrapI (by omega)] at hz; subst hz; exact hK)))); (conv => whnf)) | ((with_reducible apply z_wrap); (focus omega); (conv => whnf)) | ((with_reducible first | apply mt_dec | apply mt_eq | apply mt_ne | apply mt_not | apply mt_any) <;> (intro _; conv => whnf)))
      ((with_reducible apply rd_intro); (focus (intro K hK; (conv => whnf); exact ⟨by omega, by omega, hK⟩)); (conv => whnf))
      repeat' (first | ((with_reducible apply rd_intro); (focus (intro K hK; (conv => whnf); first | exact hK | (intro z hz; rw [wrapI (by omega)] at hz; subst hz; exact hK))); (conv => whnf)) | ((with_reducible apply gd_and); (focus ((conv => whnf) <;> first | rfl | (intro K hK; (conv => whnf); first | exact hK | (intro z hz; rw [wrapI (by omega)] at hz; subst hz; exact hK)))); (conv => whnf)) | ((with_reducible apply z_wrap); (focus omega); (conv => whnf)) | ((with_reducible first | apply mt_dec | apply mt_eq | apply mt_ne | apply mt_not | apply mt_any) <;> (intro _; conv => whnf)))
      refine ⟨_, hgi, ?_⟩
      conv => whnf
      repeat' (first | ((with_reducible apply rd_intro); (focus (intro K hK; (conv => whnf); first | exact hK | (intro z hz; rw [wrapI (by omega)] at hz; subst hz; exact hK))); (conv => whnf)) | ((with_reducible apply gd_and); (focus ((conv => whnf) <;> first | rfl | (intro K hK; (conv => whnf); first | exact hK | (intro z hz; rw [wrapI (by omega)] at hz; subst hz; exact hK)))); (conv => whnf)) | ((with_reducible apply z_wrap); (focus omega); (conv => whnf)) | ((with_reducible first | apply mt_dec | apply mt_eq | apply mt_ne | apply mt_not | apply mt_any) <;> (intro _; conv => whnf)))
      ((with_reducible apply rd_intro); (focus (intro K hK; (conv => whnf); exact ⟨by omega, by rw [List.length_set]; omega, hK⟩)); (conv => whnf))
      repeat' (first | ((with_reducible apply rd_intro); (focus (intro K hK; (conv => whnf); first | exact hK | (intro z hz; rw [wrapI (by omega)] at hz; subst hz; exact hK))); (conv => whnf)) | ((with_reducible apply gd_and); (focus ((conv => whnf) <;> first | rfl | (intro K hK; (conv => whnf); first | exact hK | (intro z hz; rw [wrapI (by omega)] at hz; subst hz; exact hK)))); (conv => whnf)) | ((with_reducible apply z_wrap); (focus omega); (conv => whnf)) | ((with_reducible first | apply mt_dec | apply mt_eq | apply mt_ne | apply mt_not | apply mt_any) <;> (intro _; conv => whnf)))
      refine ⟨_, by rw [List.getElem?_set_ne (by omega)]; exact hgj, ?_⟩
      conv => whnf
      repeat' (first | ((with_reducible apply rd_intro); (focus (intro K hK; (conv => whnf); first | exact hK | (intro z hz; rw [wrapI (by omega)] at hz; subst hz; exact hK))); (conv => whnf)) | ((with_reducible apply gd_and); (focus ((conv => whnf) <;> first | rfl | (intro K hK; (conv => whnf); first | exact hK | (intro z hz; rw [wrapI (by omega)] at hz; subst hz; exact hK)))); (conv => whnf)) | ((with_reducible apply z_wrap); (focus omega); (conv => whnf)) | ((with_reducible first | apply mt_dec | apply mt_eq | apply mt_ne | apply mt_not | apply mt_any) <;> (intro _; conv => whnf)))
      have hnew : (((nums (revI l i)).set (i : Int).toNat [.int .i64 (l.getD (l.length - 1 - i) 0)]).set ((l.length : Int) - 1 - i).toNat [.int .i64 (l.getD i 0)]) = nums (revI l (i + 1)) := by
        rw [revI_succ l i h2, Int.toNat_natCast, show ((l.length : Int) - 1 - i).toNat = l.length - 1 - i by omega]
        simp [nums, List.map_set]
      rw [hnew]
      exact ⟨i + 1, by rw [show (l.length : Int) - 1 - i - 1 = (l.length : Int) - 1 - ((i + 1 : Nat) : Int) by omega]; rfl, rfl, by omega, by omega⟩
    · rename_i h
      rw [revI_end l i (by omega)]
      exact ⟨rfl, rfl⟩
def riseI (d : Dag) (i : Nat) (low : Int) : List Int := (downI d i low).reverse
theorem rise_ok (d : Dag) (hd : d.certs.length ≤ 65536) (hp : fewC d) (hlow : 0 ≤ d.low ∧ d.low ≤ 1099511627776) (i : Nat) (hi : i < d.certs.length) (low : Int) : ACalls Tryz.prog 128 [d.av, .d (.int .i64 i), .d (.int .i64 low)] [] (fun av L => av = .arr 0 ∧ L = [.row 3 1 (nums (riseI d i low)) false]) := by
  have hlen := downI_len d i low
  refine acalls_go ttOk zOk foOk Tryz.func128 rfl Tryz.ntmps128 rfl true rfl ?_
  conv => whnf
  refine (down_ok d hd hp hlow i hi low).mono ?_
  rintro _ _ ⟨rfl, rfl⟩
  conv => whnf
  repeat' (first | ((with_reducible apply rd_intro); (focus (intro K hK; (conv => whnf); first | exact hK | (intro z hz; rw [wrapI (by omega)] at hz; subst hz; exact hK))); (conv => whnf)) | ((with_reducible apply gd_and); (focus ((conv => whnf) <;> first | rfl | (intro K hK; (conv => whnf); first | exact hK | (intro z hz; rw [wrapI (by omega)] at hz; subst hz; exact hK)))); (conv => whnf)) | ((with_reducible apply z_wrap); (focus omega); (conv => whnf)) | ((with_reducible first | apply mt_dec | apply mt_eq | apply mt_ne | apply mt_not | apply mt_any) <;> (intro _; conv => whnf)))
  (refine Or.inr ?_; (conv => whnf))
  refine (reverse_ok (downI d i low) (by omega)).mono ?_
  rintro _ _ ⟨rfl, rfl⟩
  conv => whnf
  exact ⟨rfl, rfl⟩
theorem isNaNi_ok (x : Int) : ACalls Tryz.prog 156 [.d (.int .i64 x)] [] (fun av L => av = .d (.bool false) ∧ L = []) := by
  refine acalls_go ttOk zOk foOk Tryz.func156 rfl Tryz.ntmps156 rfl false rfl ?_
  conv => whnf
  refine ⟨?_, rfl⟩
  show AV.d (.bool (x != x)) = _
  rw [bne_self_eq_false]
theorem isNaNs_ok (x : Int) : ACalls Tryz.prog 143 [.d (.int .i64 x)] [] (fun av L => av = .d (.bool false) ∧ L = []) := by
  refine acalls_go ttOk zOk foOk Tryz.func143 rfl Tryz.ntmps143 rfl false rfl ?_
  conv => whnf
  refine ⟨?_, rfl⟩
  show AV.d (.bool (x != x)) = _
  rw [bne_self_eq_false]
theorem lessi_ok (x y : Int) : ACalls Tryz.prog 142 [.d (.int .i64 x), .d (.int .i64 y)] [] (fun av L => av = .d (.bool (decide (x < y))) ∧ L = []) := by
  refine acalls_go ttOk zOk foOk Tryz.func142 rfl Tryz.ntmps142 rfl false rfl ?_
  conv => whnf
  refine (isNaNi_ok x).mono ?_
  rintro _ _ ⟨rfl, rfl⟩
  conv => whnf
  exact ⟨rfl, rfl⟩
def risingI (l : List Int) : Prop := l.Pairwise (· < ·)
theorem bsearchI_ok (l : List Int) (hl : few l) (hs : risingI l) (x : Int) : ACalls Tryz.prog 129 [.d (.sl 1 (nums l)), .d (.int .i64 x)] [] (fun av L => (∃ z : Int, av = .tup [.d (.int .i64 z), .d (.bool (decide (x ∈ l)))]) ∧ L = []) := by
  have hll := nums_length l
  unfold few at hl
  have hmono : ∀ (i j : Nat) (a b : Int), i < j → l[i]? = some a → l[j]? = some b → a < b := by
    intro i j a b hij ha hb
    have hj : j < l.length := by
      rcases Nat.lt_or_ge j l.length with h | h
      · exact h
      · rw [List.getElem?_eq_none h] at hb; cases hb
    rw [List.getElem?_eq_getElem (by omega)] at ha hb
    cases ha; cases hb
    exact List.pairwise_iff_getElem.1 hs i j (by omega) hj hij
  refine acalls_go ttOk zOk foOk Tryz.func129 rfl Tryz.ntmps129 rfl false rfl ?_
  conv => whnf
  refine loop_go ttOk zOk foOk (σ := Nat × Nat) (fun | (i, j) => ([(0, .d (.sl 1 (nums l))), (1, .d (.int .i64 x)), (6, .d (.int .i64 l.length)), (7, .d (.int .i64 i)), (8, .d (.int .i64 j))], [])) (fun s => s.1 ≤ s.2 ∧ s.2 ≤ l.length ∧ (∀ m a, m < s.1 → l[m]? = some a → a < x) ∧ (∀ m a, s.2 ≤ m → l[m]? = some a → x ≤ a)) (fun s => s.2 - s.1) [0, 1, 6, 7, 8] ?_ ?_
  · conv => whnf
    refine ⟨(0, l.length), by rw [hll]; rfl, rfl, Nat.zero_le _, Nat.le_refl _, by omega, ?_⟩
    intro m a hm ha
    rw [List.getElem?_eq_none hm] at ha; cases ha
  · rintro ⟨i, j⟩ ⟨h1, h2, h3, h4⟩
    simp only at h1 h2 h3 h4
    conv => whnf
    repeat' (first | ((with_reducible apply rd_intro); (focus (intro K hK; (conv => whnf); first | exact hK | (intro z hz; rw [wrapI (by omega)] at hz; subst hz; exact hK))); (conv => whnf)) | ((with_reducible apply gd_and); (focus ((conv => whnf) <;> first | rfl | (intro K hK; (conv => whnf); first | exact hK | (intro z hz; rw [wrapI (by omega)] at hz; subst hz; exact hK)))); (conv => whnf)) | ((with_reducible apply z_wrap); (focus omega); (conv => whnf)) | ((with_reducible first | apply mt_dec | apply mt_eq | apply mt_ne | apply mt_not | apply mt_any) <;> (intro _; conv => whnf)))
    · rename_i hij
      intro z hz
      conv => whnf
      refine ⟨by decide, ?_⟩
      intro z1 hz1
      conv => whnf
      intro z2 hz2
      have hh := half (by omega) (by omega) hz hz1 hz2
      subst hh
      clear hz hz1 hz2
      obtain ⟨h, hh⟩ : ∃ h, (i + j) / 2 = h := ⟨_, rfl⟩
      rw [hh]
      obtain ⟨a, ha⟩ : ∃ a, l[h]? = some a := ⟨_, List.getElem?_eq_getElem (by omega)⟩
      conv => whnf
      refine ⟨by omega, [.int .i64 a], nums_at ha, ?_⟩
      conv => whnf
      repeat' (first | ((with_reducible apply rd_intro); (focus (intro K hK; (conv => whnf); first | exact hK | (intro z hz; rw [wrapI (by omega)] at hz; subst hz; exact hK))); (conv => whnf)) | ((with_reducible apply gd_and); (focus ((conv => whnf) <;> first | rfl | (intro K hK; (conv => whnf); first | exact hK | (intro z hz; rw [wrapI (by omega)] at hz; subst hz; exact hK)))); (conv => whnf)) | ((with_reducible apply z_wrap); (focus omega); (conv => whnf)) | ((with_reducible first | apply mt_dec | apply mt_eq | apply mt_ne | apply mt_not | apply mt_any) <;> (intro _; conv => whnf)))
      refine (lessi_ok a x).mono ?_
      rintro _ _ ⟨rfl, rfl⟩
      conv => whnf
      repeat' (first | ((with_reducible apply rd_intro); (focus (intro K hK; (conv => whnf); first | exact hK | (intro z hz; rw [wrapI (by omega)] at hz; subst hz; exact hK))); (conv => whnf)) | ((with_reducible apply gd_and); (focus ((conv => whnf) <;> first | rfl | (intro K hK; (conv => whnf); first | exact hK | (intro z hz; rw [wrapI (by omega)] at hz; subst hz; exact hK)))); (conv => whnf)) | ((with_reducible apply z_wrap); (focus omega); (conv => whnf)) | ((with_reducible first | apply mt_dec | apply mt_eq | apply mt_ne | apply mt_not | apply mt_any) <;> (intro _; conv => whnf)))
      · rename_i hn
        exact ⟨(h + 1, j), rfl, rfl, ⟨by show h + 1 ≤ j; omega, h2, fun m b hm hb => by
          rcases Nat.lt_or_ge m h with h5 | h5
          · have := hmono m h b a h5 hb ha; omega
          · have : m = h := by have : m < h + 1 := hm; omega
            subst this; rw [ha] at hb; cases hb; exact hn, h4⟩, by show j - (h + 1) < j - i; omega⟩
      · rename_i hn
        exact ⟨(i, h), rfl, rfl, ⟨by show i ≤ h; omega, by show h ≤ _; omega, h3, fun m b hm hb => by
          rcases Nat.lt_or_ge h m with h5 | h5
          · have := hmono h m a b h5 ha hb; omega
          · have : m = h := by have : h ≤ m := hm; omega
            subst this; rw [ha] at hb; cases hb; omega⟩, by show h - i < j - i; omega⟩
    · rename_i hij hlt
      obtain rfl : i = j := by omega
      obtain ⟨a, ha⟩ : ∃ a, l[i]? = some a := ⟨_, List.getElem?_eq_getElem (by omega)⟩
      have hmem : x ∈ l ↔ a = x := by
        constructor
        · intro hx
          obtain ⟨m, hm⟩ := List.getElem?_of_mem hx
          rcases Nat.lt_trichotomy m i with h5 | h5 | h5
          · have := h3 m x h5 hm; omega
          · subst h5; rw [ha] at hm; cases hm; rfl
          · have h6 := hmono i m a x h5 ha hm
            have h7 := h4 i a (Nat.le_refl _) ha
            omega
        · intro e; rw [← e]; exact List.mem_of_getElem? ha
      refine ⟨by omega, [.int .i64 a], nums_at ha, ?_⟩
      conv => whnf
      repeat' (first | ((with_reducible apply rd_intro); (focus (intro K hK; (conv => whnf); first | exact hK | (intro z hz; rw [wrapI (by omega)] at hz; subst hz; exact hK))); (conv => whnf)) | ((with_reducible apply gd_and); (focus ((conv => whnf) <;> first | rfl | (intro K hK; (conv => whnf); first | exact hK | (intro z hz; rw [wrapI (by omega)] at hz; subst hz; exact hK)))); (conv => whnf)) | ((with_reducible apply z_wrap); (focus omega); (conv => whnf)) | ((with_reducible first | apply mt_dec | apply mt_eq | apply mt_ne | apply mt_not | apply mt_any) <;> (intro _; conv => whnf)))
      · rename_i he
        exact ⟨⟨_, by rw [decide_eq_true (hmem.2 he)]; rfl⟩, rfl⟩
      · rename_i he
        refine ⟨by omega, [.int .i64 a], nums_at ha, ?_⟩
        conv => whnf
        refine (isNaNs_ok a).mono ?_
        rintro _ _ ⟨rfl, rfl⟩
        conv => whnf
        exact ⟨⟨_, by rw [decide_eq_false (fun h => he (hmem.1 h))]; rfl⟩, rfl⟩
    · rename_i hij hlt
      obtain rfl : i = j := by omega
      have hmem : ¬ x ∈ l := by
        intro hx
        obtain ⟨m, hm⟩ := List.getElem?_of_mem hx
        rcases Nat.lt_or_ge m l.length with h5 | h5
        · have := h3 m x (by omega) hm; omega
        · rw [List.getElem?_eq_none h5] at hm; cases hm
      exact ⟨⟨_, by rw [decide_eq_false hmem]; rfl⟩, rfl⟩
end Go.Proofs.YtoeppembokpjkaaGreat

namespace Go.Proofs.YtoeppembokpjkaaGreat
open Go.Ab Go.RowKit Go.MapKept
attribute [local irreducible] ACalls AW ADraw Into fltB fnear
set_option maxRecDepth 100000
def behindI (d : Dag) (i : Nat) (r : Int) (done : List Int) : List Int := (riseI d i (r - 8)).filter fun x => !decide (x ∈ done)
theorem rise_len (d : Dag) (i : Nat) (low : Int) : (riseI d i low).length ≤ d.certs.length := by
  unfold riseI
  rw [List.length_reverse]
  exact downI_len d i low
set_option maxHeartbeats 1000000 in
theorem behind_ok (d : Dag) (hd : d.certs.length ≤ 65536) (hp : fewC d) (hlow : 0 ≤ d.low ∧ d.low ≤ 1099511627776) (i : Nat) {c : Cert} (hi : d.certs[i]? = some c) (hr : isF c.round) (done : List Int) (hdn : few done) (hs : risingI done) :
    ACalls Tryz.prog 112 [d.av, .d (.int .i64 i), .d (.sl 1 (nums done))] [] (fun av L => av = .arr 0 ∧ L = [.row 3 1 (nums (behindI d i c.round done)) false]) := by
  have hil : i < d.certs.length := by
    rcases Nat.lt_or_ge i d.certs.length with h | h
    · exact h
    · rw [List.getElem?_eq_none h] at hi; cases hi
  have hr1 := hr.1
  have hr2 := hr.2
  have hrl := rise_len d i (c.round - 8)
  refine acalls_go ttOk zOk foOk Tryz.func112 rfl Tryz.ntmps112 rfl true rfl ?_
  conv => whnf
  ((with_reducible refine draw_pl ttOk zOk foOk mixedOk pl112x1 ?_ ?_); (focus kernel_rfl); (conv => whnf))
  repeat' (first | ((with_reducible apply rd_intro); (focus (intro K hK; (conv => whnf); first | exact hK | (intro z hz; rw [wrapI (by omega)] at hz; subst hz; exact hK))); (conv => whnf)) | ((with_reducible apply gd_and); (focus ((conv => whnf) <;> first | rfl | (intro K hK; (conv => whnf); first | exact hK | (intro z hz; rw [wrapI (by omega)] at hz; subst hz; exact hK)))); (conv => whnf)) | ((with_reducible apply z_wrap); (focus omega); (conv => whnf)) | ((with_reducible first | apply mt_dec | apply mt_eq | apply mt_ne | apply mt_not | apply mt_any) <;> (intro _; conv => whnf)))
  ((with_reducible apply rd_intro); (focus (intro K hK; (conv => whnf); exact ⟨by omega, c.cs, certsD_at hi, hK⟩)); (conv => whnf))
  repeat' (first | ((with_reducible apply rd_intro); (focus (intro K hK; (conv => whnf); first | exact hK | (intro z hz; rw [wrapI (by omega)] at hz; subst hz; exact hK))); (conv => whnf)) | ((with_reducible apply gd_and); (focus ((conv => whnf) <;> first | rfl | (intro K hK; (conv => whnf); first | exact hK | (intro z hz; rw [wrapI (by omega)] at hz; subst hz; exact hK)))); (conv => whnf)) | ((with_reducible apply z_wrap); (focus omega); (conv => whnf)) | ((with_reducible first | apply mt_dec | apply mt_eq | apply mt_ne | apply mt_not | apply mt_any) <;> (intro _; conv => whnf)))
  refine (rise_ok d hd hp hlow i hil (c.round - 8)).mono ?_
  rintro _ _ ⟨rfl, rfl⟩
  rw [behindI]
  obtain ⟨l, hl⟩ : ∃ l, riseI d i (c.round - 8) = l := ⟨_, rfl⟩
  rw [hl] at hrl ⊢
  have hll := nums_length l
  conv => whnf
  repeat' (first | ((with_reducible apply rd_intro); (focus (intro K hK; (conv => whnf); first | exact hK | (intro z hz; rw [wrapI (by omega)] at hz; subst hz; exact hK))); (conv => whnf)) | ((with_reducible apply gd_and); (focus ((conv => whnf) <;> first | rfl | (intro K hK; (conv => whnf); first | exact hK | (intro z hz; rw [wrapI (by omega)] at hz; subst hz; exact hK)))); (conv => whnf)) | ((with_reducible apply z_wrap); (focus omega); (conv => whnf)) | ((with_reducible first | apply mt_dec | apply mt_eq | apply mt_ne | apply mt_not | apply mt_any) <;> (intro _; conv => whnf)))
  refine loop_go ttOk zOk foOk (σ := Nat) (fun j => ([(2, .d (.sl 1 (nums done))), (6, .arr 0), (21, .arr 1), (22, .d (.int .i64 l.length)), (23, .d (.int .i64 j))], [.row 3 1 (nums ((l.take j).filter fun x => !decide (x ∈ done))) false, .row 3 1 (nums l) false])) (fun j => j ≤ l.length) (fun j => l.length - j) [2, 6, 21, 22, 23] ?_ ?_
  · conv => whnf
    exact ⟨0, by rw [hll]; rfl, rfl, Nat.zero_le _⟩
  · intro j hj
    conv => whnf
    repeat' (first | ((with_reducible apply rd_intro); (focus (intro K hK; (conv => whnf); first | exact hK | (intro z hz; rw [wrapI (by omega)] at hz; subst hz; exact hK))); (conv => whnf)) | ((with_reducible apply gd_and); (focus ((conv => whnf) <;> first | rfl | (intro K hK; (conv => whnf); first | exact hK | (intro z hz; rw [wrapI (by omega)] at hz; subst hz; exact hK)))); (conv => whnf)) | ((with_reducible apply z_wrap); (focus omega); (conv => whnf)) | ((with_reducible first | apply mt_dec | apply mt_eq | apply mt_ne | apply mt_not | apply mt_any) <;> (intro _; conv => whnf)))
    · rename_i h
      obtain ⟨x, hx⟩ : ∃ x, l[j]? = some x := ⟨_, List.getElem?_eq_getElem (by omega)⟩
      refine ⟨by omega, by rw [Int.toNat_natCast]; omega, ?_⟩
      conv => whnf
      refine ⟨_, by rw [Int.toNat_natCast]; exact nums_at hx, ?_⟩
      conv => whnf
      repeat' (first | ((with_reducible apply rd_intro); (focus (intro K hK; (conv => whnf); first | exact hK | (intro z hz; rw [wrapI (by omega)] at hz; subst hz; exact hK))); (conv => whnf)) | ((with_reducible apply gd_and); (focus ((conv => whnf) <;> first | rfl | (intro K hK; (conv => whnf); first | exact hK | (intro z hz; rw [wrapI (by omega)] at hz; subst hz; exact hK)))); (conv => whnf)) | ((with_reducible apply z_wrap); (focus omega); (conv => whnf)) | ((with_reducible first | apply mt_dec | apply mt_eq | apply mt_ne | apply mt_not | apply mt_any) <;> (intro _; conv => whnf)))
      refine (bsearchI_ok done hdn hs x).mono ?_
      rintro _ _ ⟨⟨z, rfl⟩, rfl⟩
      obtain ⟨b, hb⟩ : ∃ b, decide (x ∈ done) = b := ⟨_, rfl⟩
      rw [hb]
      conv => whnf
      repeat' (first | ((with_reducible apply rd_intro); (focus (intro K hK; (conv => whnf); first | exact hK | (intro z hz; rw [wrapI (by omega)] at hz; subst hz; exact hK))); (conv => whnf)) | ((with_reducible apply gd_and); (focus ((conv => whnf) <;> first | rfl | (intro K hK; (conv => whnf); first | exact hK | (intro z hz; rw [wrapI (by omega)] at hz; subst hz; exact hK)))); (conv => whnf)) | ((with_reducible apply z_wrap); (focus omega); (conv => whnf)) | ((with_reducible first | apply mt_dec | apply mt_eq | apply mt_ne | apply mt_not | apply mt_any) <;> (intro _; conv => whnf)))
      · rename_i h2
        subst h2
        have hfl := List.length_filter_le (fun x => !decide (x ∈ done)) (l.take j)
        rw [List.length_take] at hfl
        refine ⟨by rw [nums_length, List.length_singleton]; show (_ + 1) * 8 ≤ _; omega, ?_⟩
        conv => whnf
        rw [nums_app]
        repeat' (first | ((with_reducible apply rd_intro); (focus (intro K hK; (conv => whnf); first | exact hK | (intro z hz; rw [wrapI (by omega)] at hz; subst hz; exact hK))); (conv => whnf)) | ((with_reducible apply gd_and); (focus ((conv => whnf) <;> first | rfl | (intro K hK; (conv => whnf); first | exact hK | (intro z hz; rw [wrapI (by omega)] at hz; subst hz; exact hK)))); (conv => whnf)) | ((with_reducible apply z_wrap); (focus omega); (conv => whnf)) | ((with_reducible first | apply mt_dec | apply mt_eq | apply mt_ne | apply mt_not | apply mt_any) <;> (intro _; conv => whnf)))
        refine ⟨j + 1, rfl, ?_, by omega, by omega⟩
        rw [List.take_add_one, hx]
        simp only [Option.toList_some, List.filter_append, List.filter_cons, hb]
        rfl
      · rename_i h2
        subst h2
        refine ⟨j + 1, rfl, ?_, by omega, by omega⟩
        rw [List.take_add_one, hx]
        simp only [Option.toList_some, List.filter_append, List.filter_cons, hb]
        simp
    · rename_i h
      rw [List.take_of_length_le (by omega)]
      exact ⟨rfl, rfl⟩
def reachJ (d : Dag) (i j : Nat) : Bool := match d.certs[j]? with | some c => reachI d i j c | none => false
/-- the anchors that one settles, by falling rounds -/
def backR (d : Dag) (after : Int) (r : Int) (i : Nat) : List Int :=
  if h : r - 2 ≤ after ∨ r - 2 ≤ d.low then [] else
  if anchorI d (r - 2) = 0 then backR d after (r - 2) i else
  match getC d.certs (anchorI d (r - 2)) with
  | none => []
  | some j => if reachJ d i j = true then anchorI d (r - 2) :: backR d after (r - 2) j else backR d after (r - 2) i
termination_by (r - after).toNat
theorem back_end {d : Dag} {after r : Int} {i : Nat} (h : r - 2 ≤ after ∨ r - 2 ≤ d.low) : backR d after r i = [] := by rw [backR, dif_pos h]
theorem back_no {d : Dag} {after r : Int} {i : Nat} (h : ¬ (r - 2 ≤ after ∨ r - 2 ≤ d.low)) (h2 : anchorI d (r - 2) = 0) : backR d after r i = backR d after (r - 2) i := by rw [backR, dif_neg h, if_pos h2]
theorem back_yes {d : Dag} {after r : Int} {i j : Nat} (h : ¬ (r - 2 ≤ after ∨ r - 2 ≤ d.low)) (h2 : anchorI d (r - 2) ≠ 0) (h3 : getC d.certs (anchorI d (r - 2)) = some j) : backR d after r i = if reachJ d i j = true then anchorI d (r - 2) :: backR d after (r - 2) j else backR d after (r - 2) i := by rw [backR, dif_neg h, if_neg h2, h3]
def backI (d : Dag) (after r : Int) : List Int := (anchorI d r :: backR d after r ((getC d.certs (anchorI d r)).getD 0)).reverse
theorem anchor_get {d : Dag} {r : Int} (h : anchorI d r ≠ 0) : ∃ j c, getC d.certs (anchorI d r) = some j ∧ d.certs[j]? = some c ∧ c.digest = anchorI d r ∧ j < d.certs.length := by
  unfold anchorI at h ⊢
  cases hc : atC d.certs r (leadI d.nodes r) with
  | none => rw [hc] at h; exact absurd rfl h
  | some c =>
    show ∃ j c', getC d.certs c.digest = some j ∧ _
    have hm : c ∈ d.certs := List.mem_of_find?_eq_some hc
    cases hg : getC d.certs c.digest with
    | none =>
      unfold getC at hg
      rw [List.findIdx?_eq_none_iff] at hg
      have := hg c hm
      simp at this
    | some j =>
      have hg2 := hg
      unfold getC at hg2
      rw [List.findIdx?_eq_some_iff_getElem] at hg2
      obtain ⟨hj, h1, _⟩ := hg2
      exact ⟨j, d.certs[j], rfl, List.getElem?_eq_getElem hj, by simpa using h1, hj⟩
def backSt (d : Dag) (after : Int) : Int × Nat × List Int → AF × List AB
  | (r, i, l) => ([(1, .d (.int .i64 after)), (2, .d (.int .i64 r)), (3, .ptr 0 0), (7, .arr 1), (8, .d (.int .i64 i))], [.cells d.cells, .row 3 1 (nums l) false])
def backInv (d : Dag) (after r0 : Int) (all : List Int) (k : Nat) : Int × Nat × List Int → Prop
  | (r, i, l) => (k = 0 ∧ r % 2 = 0 ∧ 0 ≤ r ∧ r ≤ r0 ∧ i < d.certs.length ∧ (l.length : Int) ≤ r0 - r + 1 ∧ all = l ++ backR d after r i) ∨ (k = 1 ∧ all = l ∧ l.length ≤ 1099511627778)
def backMu (after : Int) (k : Nat) : Int × Nat × List Int → Nat
  | (r, _, _) => if k = 0 then (r - after + 2).toNat + 1 else 0
set_option maxHeartbeats 2000000 in
theorem back_ok (d : Dag) (hw : d.well) (after r0 : Int) (ha : 0 ≤ after) (hr : after < r0) (hr2 : r0 % 2 = 0) (hr3 : 2 ≤ r0 ∧ r0 ≤ 1099511627776) (h0 : anchorI d r0 ≠ 0) :
    ACalls Tryz.prog 83 [d.av, .d (.int .i64 after), .d (.int .i64 r0)] [] (fun av L => av = .arr 0 ∧ L = [.row 3 1 (nums (backI d after r0)) false]) := by
  have hlow := hw.low
  have hd := hw.len
  obtain ⟨i0, c0, hg0, hc0, _, hi0⟩ := anchor_get h0
  have hgi0 : getI d.certs (anchorI d r0) = i0 := by rw [getI, hg0]; rfl
  refine acalls_go ttOk zOk foOk Tryz.func83 rfl Tryz.ntmps83 rfl true rfl ?_
  conv => whnf
  obtain ⟨all, hall⟩ : ∃ all, anchorI d r0 :: backR d after r0 i0 = all := ⟨_, rfl⟩
  rw [backI, hg0, Option.getD_some, hall]
  refine scope_go ttOk zOk foOk (σ := Int × Nat × List Int) (backSt d after) (backInv d after r0 all) (backMu after) ?_ ?_
  · rintro k rest hk ⟨r, i, l⟩ hh
    rcases hh with ⟨rfl, h1, h2, h3, h4, h5, h6⟩ | ⟨rfl, h6, h5⟩
    · have e := Option.some.inj (show some _ = some rest from hk)
      subst e
      clear hk
      conv => whnf
      repeat' (first | ((with_reducible apply rd_intro); (focus (intro K hK; (conv => whnf); first | exact hK | (intro z hz; rw [wrapI (by omega)] at hz; subst hz; exact hK))); (conv => whnf)) | ((with_reducible apply gd_and); (focus ((conv => whnf) <;> first | rfl | (intro K hK; (conv => whnf); first | exact hK | (intro z hz; rw [wrapI (by omega)] at hz; subst hz; exact hK)))); (conv => whnf)) | ((with_reducible apply z_wrap); (focus omega); (conv => whnf)) | ((with_reducible first | apply mt_dec | apply mt_eq | apply mt_ne | apply mt_not | apply mt_any) <;> (intro _; conv => whnf)))
      · rename_i h
        refine into_of [1, 2, 3, 7, 8] ?_
        conv => whnf
        exact ⟨(r - 2, i, l), rfl, rfl, .inr ⟨rfl, by rw [h6, back_end (.inl h), List.append_nil], by omega⟩, by show 0 < (r - after + 2).toNat + 1; omega⟩
      · rename_i h h7
        refine into_of [1, 2, 3, 7, 8] ?_
        conv => whnf
        exact ⟨(r - 2, i, l), rfl, rfl, .inr ⟨rfl, by rw [h6, back_end (.inr h7), List.append_nil], by omega⟩, by show 0 < (r - after + 2).toNat + 1; omega⟩
      · rename_i h h7
        have hne : ¬ (r - 2 ≤ after ∨ r - 2 ≤ d.low) := fun hh => hh.elim h h7
        have hmu : ∀ (i' : Nat) (l' : List Int), backMu after 0 (r - 2, i', l') < backMu after 0 (r, i, l) := fun i' l' => by show (r - 2 - after + 2).toNat + 1 < (r - after + 2).toNat + 1; omega
        refine (anchorOf_ok d hw.fit hw.nodes (r - 2) ⟨by omega, by omega⟩).mono ?_
        rintro _ _ ⟨rfl, rfl⟩
        obtain ⟨a, hae⟩ : ∃ a, anchorI d (r - 2) = a := ⟨_, rfl⟩
        rw [hae]
        conv => whnf
        repeat' (first | ((with_reducible apply rd_intro); (focus (intro K hK; (conv => whnf); first | exact hK | (intro z hz; rw [wrapI (by omega)] at hz; subst hz; exact hK))); (conv => whnf)) | ((with_reducible apply gd_and); (focus ((conv => whnf) <;> first | rfl | (intro K hK; (conv => whnf); first | exact hK | (intro z hz; rw [wrapI (by omega)] at hz; subst hz; exact hK)))); (conv => whnf)) | ((with_reducible apply z_wrap); (focus omega); (conv => whnf)) | ((with_reducible first | apply mt_dec | apply mt_eq | apply mt_ne | apply mt_not | apply mt_any) <;> (intro _; conv => whnf)))
        · rename_i h8
          refine into_of [1, 2, 3, 7, 8] ?_
          conv => whnf
          exact ⟨(r - 2, i, l), rfl, rfl, .inl ⟨rfl, by omega, by omega, by omega, h4, by omega, by rw [h6, back_no hne (hae.trans h8)]⟩, hmu _ _⟩
        · rename_i h8
          have ha0 : anchorI d (r - 2) ≠ 0 := by rw [hae]; exact h8
          obtain ⟨j, c, hg, hc, _, hj⟩ := anchor_get ha0
          have hrc := hw.fit.fit c (List.mem_of_getElem? hc)
          have hgi : getI d.certs a = j := by rw [getI, ← hae, hg]; rfl
          have h6' := h6
          rw [back_yes hne ha0 hg, hae] at h6'
          refine (get_ok d hw.fit.few a).mono ?_
          rintro _ _ ⟨rfl, rfl⟩
          rw [hgi]
          conv => whnf
          repeat' (first | ((with_reducible apply rd_intro); (focus (intro K hK; (conv => whnf); first | exact hK | (intro z hz; rw [wrapI (by omega)] at hz; subst hz; exact hK))); (conv => whnf)) | ((with_reducible apply gd_and); (focus ((conv => whnf) <;> first | rfl | (intro K hK; (conv => whnf); first | exact hK | (intro z hz; rw [wrapI (by omega)] at hz; subst hz; exact hK)))); (conv => whnf)) | ((with_reducible apply z_wrap); (focus omega); (conv => whnf)) | ((with_reducible first | apply mt_dec | apply mt_eq | apply mt_ne | apply mt_not | apply mt_any) <;> (intro _; conv => whnf)))
          refine (reaches_ok d hd hw.pars hlow i j h4 hc hrc.1).mono ?_
          rintro _ _ ⟨rfl, rfl⟩
          have hrj : reachJ d i j = reachI d i j c := by rw [reachJ, hc]
          rw [hrj] at h6'
          obtain ⟨b, hb⟩ : ∃ b, reachI d i j c = b := ⟨_, rfl⟩
          rw [hb] at h6' ⊢
          conv => whnf
          repeat' (first | ((with_reducible apply rd_intro); (focus (intro K hK; (conv => whnf); first | exact hK | (intro z hz; rw [wrapI (by omega)] at hz; subst hz; exact hK))); (conv => whnf)) | ((with_reducible apply gd_and); (focus ((conv => whnf) <;> first | rfl | (intro K hK; (conv => whnf); first | exact hK | (intro z hz; rw [wrapI (by omega)] at hz; subst hz; exact hK)))); (conv => whnf)) | ((with_reducible apply z_wrap); (focus omega); (conv => whnf)) | ((with_reducible first | apply mt_dec | apply mt_eq | apply mt_ne | apply mt_not | apply mt_any) <;> (intro _; conv => whnf)))
          · rename_i h9
            subst h9
            refine ⟨by rw [nums_length, List.length_singleton]; show (_ + 1) * 8 ≤ _; omega, ?_⟩
            conv => whnf
            rw [nums_app]
            repeat' (first | ((with_reducible apply rd_intro); (focus (intro K hK; (conv => whnf); first | exact hK | (intro z hz; rw [wrapI (by omega)] at hz; subst hz; exact hK))); (conv => whnf)) | ((with_reducible apply gd_and); (focus ((conv => whnf) <;> first | rfl | (intro K hK; (conv => whnf); first | exact hK | (intro z hz; rw [wrapI (by omega)] at hz; subst hz; exact hK)))); (conv => whnf)) | ((with_reducible apply z_wrap); (focus omega); (conv => whnf)) | ((with_reducible first | apply mt_dec | apply mt_eq | apply mt_ne | apply mt_not | apply mt_any) <;> (intro _; conv => whnf)))
            refine into_of [1, 2, 3, 7, 8] ?_
            conv => whnf
            exact ⟨(r - 2, j, l ++ [a]), rfl, rfl, .inl ⟨rfl, by omega, by omega, by omega, hj, by rw [List.length_append, List.length_singleton]; omega, by rw [h6', if_pos rfl, List.append_assoc]; rfl⟩, hmu _ _⟩
          · rename_i h9
            subst h9
            refine into_of [1, 2, 3, 7, 8] ?_
            conv => whnf
            exact ⟨(r - 2, i, l), rfl, rfl, .inl ⟨rfl, by omega, by omega, by omega, h4, by omega, by rw [h6', if_neg (by decide)]⟩, hmu _ _⟩
    · have e := Option.some.inj (show some _ = some rest from hk)
      subst e
      clear hk
      rw [h6]
      conv => whnf
      (refine Or.inr ?_; (conv => whnf))
      refine (reverse_ok l (by omega)).mono ?_
      rintro _ _ ⟨rfl, rfl⟩
      conv => whnf
      exact ⟨rfl, rfl⟩
  · intro pass
    conv => whnf
    refine (anchorOf_ok d hw.fit hw.nodes r0 ⟨hr3.1, by omega⟩).mono ?_
    rintro _ _ ⟨rfl, rfl⟩
    conv => whnf
    repeat' (first | ((with_reducible apply rd_intro); (focus (intro K hK; (conv => whnf); first | exact hK | (intro z hz; rw [wrapI (by omega)] at hz; subst hz; exact hK))); (conv => whnf)) | ((with_reducible apply gd_and); (focus ((conv => whnf) <;> first | rfl | (intro K hK; (conv => whnf); first | exact hK | (intro z hz; rw [wrapI (by omega)] at hz; subst hz; exact hK)))); (conv => whnf)) | ((with_reducible apply z_wrap); (focus omega); (conv => whnf)) | ((with_reducible first | apply mt_dec | apply mt_eq | apply mt_ne | apply mt_not | apply mt_any) <;> (intro _; conv => whnf)))
    ((with_reducible refine draw_pl ttOk zOk foOk mixedOk pl83x2 ?_ ?_); (focus kernel_rfl); (conv => whnf))
    repeat' (first | ((with_reducible apply rd_intro); (focus (intro K hK; (conv => whnf); first | exact hK | (intro z hz; rw [wrapI (by omega)] at hz; subst hz; exact hK))); (conv => whnf)) | ((with_reducible apply gd_and); (focus ((conv => whnf) <;> first | rfl | (intro K hK; (conv => whnf); first | exact hK | (intro z hz; rw [wrapI (by omega)] at hz; subst hz; exact hK)))); (conv => whnf)) | ((with_reducible apply z_wrap); (focus omega); (conv => whnf)) | ((with_reducible first | apply mt_dec | apply mt_eq | apply mt_ne | apply mt_not | apply mt_any) <;> (intro _; conv => whnf)))
    ((with_reducible apply rd_intro); (focus (intro K hK; (conv => whnf); exact ⟨by decide, (show 0 < 1 by decide), hK⟩)); (conv => whnf))
    repeat' (first | ((with_reducible apply rd_intro); (focus (intro K hK; (conv => whnf); first | exact hK | (intro z hz; rw [wrapI (by omega)] at hz; subst hz; exact hK))); (conv => whnf)) | ((with_reducible apply gd_and); (focus ((conv => whnf) <;> first | rfl | (intro K hK; (conv => whnf); first | exact hK | (intro z hz; rw [wrapI (by omega)] at hz; subst hz; exact hK)))); (conv => whnf)) | ((with_reducible apply z_wrap); (focus omega); (conv => whnf)) | ((with_reducible first | apply mt_dec | apply mt_eq | apply mt_ne | apply mt_not | apply mt_any) <;> (intro _; conv => whnf)))
    ((with_reducible apply rd_intro); (focus (intro K hK; (conv => whnf); exact ⟨_, rfl, hK⟩)); (conv => whnf))
    repeat' (first | ((with_reducible apply rd_intro); (focus (intro K hK; (conv => whnf); first | exact hK | (intro z hz; rw [wrapI (by omega)] at hz; subst hz; exact hK))); (conv => whnf)) | ((with_reducible apply gd_and); (focus ((conv => whnf) <;> first | rfl | (intro K hK; (conv => whnf); first | exact hK | (intro z hz; rw [wrapI (by omega)] at hz; subst hz; exact hK)))); (conv => whnf)) | ((with_reducible apply z_wrap); (focus omega); (conv => whnf)) | ((with_reducible first | apply mt_dec | apply mt_eq | apply mt_ne | apply mt_not | apply mt_any) <;> (intro _; conv => whnf)))
    refine (get_ok d hw.fit.few (anchorI d r0)).mono ?_
    rintro _ _ ⟨rfl, rfl⟩
    rw [hgi0]
    conv => whnf
    repeat' (first | ((with_reducible apply rd_intro); (focus (intro K hK; (conv => whnf); first | exact hK | (intro z hz; rw [wrapI (by omega)] at hz; subst hz; exact hK))); (conv => whnf)) | ((with_reducible apply gd_and); (focus ((conv => whnf) <;> first | rfl | (intro K hK; (conv => whnf); first | exact hK | (intro z hz; rw [wrapI (by omega)] at hz; subst hz; exact hK)))); (conv => whnf)) | ((with_reducible apply z_wrap); (focus omega); (conv => whnf)) | ((with_reducible first | apply mt_dec | apply mt_eq | apply mt_ne | apply mt_not | apply mt_any) <;> (intro _; conv => whnf)))
    refine aw_at (σ := Unit) (fun _ => backSt d after (r0, i0, [anchorI d r0])) (fun _ => True) [1, 2, 3, 7, 8] ?_ ?_
    · conv => whnf
      exact ⟨(), rfl, rfl, trivial⟩
    · intro _ _
      exact pass 0 _ rfl _ (.inl ⟨rfl, hr2, by omega, by omega, hi0, by show (1 : Int) ≤ _; omega, by rw [← hall]; rfl⟩)
end Go.Proofs.YtoeppembokpjkaaGreat

/-
  DERIVED: THE SHELF's CONTRACTS AT THIS DUMP, IN PLAIN WORDS (tools/lay-plain.mjs out of 'TryShelf.lean', which tools/lay-shelf.mjs wrote): THE SAME DECLARATIONS UNDER THE SAME NAMES: 'import', 'namespace', 'open', 'def', 'theorem' AND NOTHING ELSE: no command of the shelf's: FOR A HAND-IN. Each laying: the table of numbers ('.._ren') and one theorem, a field a fact of the dump's own or the kernel's comparison; each contract: ONE APPLICATION.
-/
namespace Go.Proofs
open Go.Shelf
def Tryz.laysSlM5_f83_ren : Go.Shelf.Ren := ⟨fun | 5 => 113 | 8 => 131 | 7 => 130 | 19 => 152 | 20 => 153 | 10 => 144 | 11 => 145 | 12 => 146 | 13 => 147 | 14 => 148 | 15 => 149 | 16 => 142 | 17 => 150 | 18 => 151 | 30 => 157 | 31 => 158 | 32 => 159 | 33 => 160 | 34 => 161 | 35 => 156 | 40 => 163 | n => n, fun | 23 => 26 | 25 => 3 | 3 => 3 | 32 => 92 | 22 => 26 | 0 => 0 | 44 => 148 | 46 => 150 | 4 => 4 | 36 => 143 | 35 => 142 | 41 => 125 | 5 => 5 | 9 => 9 | 53 => 152 | 57 => 156 | 63 => 158 | 64 => 159 | n => n, fun | n => n⟩
theorem Tryz.laysSlM5_f83 : Go.Proofs.SlLaysM.n5 Tryz.prog Tryz.laysSlM5_f83_ren := {
  mixed := by kernel_rfl
  f5 := ⟨Tryz.f113.name, by decide, Tryz.func113.trans (congrArg some (by kernel_rfl))⟩
  f7 := ⟨Tryz.f130.name, by decide, Tryz.func130.trans (congrArg some (by kernel_rfl))⟩
  f8 := Tryz.func131.trans (congrArg some (by kernel_rfl))
  f10 := ⟨Tryz.f144.name, by decide, Tryz.func144.trans (congrArg some (by kernel_rfl))⟩
  f11 := ⟨Tryz.f145.name, by decide, Tryz.func145.trans (congrArg some (by kernel_rfl))⟩
  f12 := ⟨Tryz.f146.name, by decide, Tryz.func146.trans (congrArg some (by kernel_rfl))⟩
  f13 := ⟨Tryz.f147.name, by decide, Tryz.func147.trans (congrArg some (by kernel_rfl))⟩
  f14 := ⟨Tryz.f148.name, by decide, Tryz.func148.trans (congrArg some (by kernel_rfl))⟩
  f15 := ⟨Tryz.f149.name, by decide, Tryz.func149.trans (congrArg some (by kernel_rfl))⟩
  f16 := ⟨Tryz.f142.name, by decide, Tryz.func142.trans (congrArg some (by kernel_rfl))⟩
  f17 := ⟨Tryz.f150.name, by decide, Tryz.func150.trans (congrArg some (by kernel_rfl))⟩
  f18 := ⟨Tryz.f151.name, by decide, Tryz.func151.trans (congrArg some (by kernel_rfl))⟩
  f19 := Tryz.func152.trans (congrArg some (by kernel_rfl))
  f20 := Tryz.func153.trans (congrArg some (by kernel_rfl))
  f30 := ⟨Tryz.f157.name, by decide, Tryz.func157.trans (congrArg some (by kernel_rfl))⟩
  f31 := Tryz.func158.trans (congrArg some (by kernel_rfl))
  f32 := Tryz.func159.trans (congrArg some (by kernel_rfl))
  f33 := ⟨Tryz.f160.name, by decide, Tryz.func160.trans (congrArg some (by kernel_rfl))⟩
  f34 := ⟨Tryz.f161.name, by decide, Tryz.func161.trans (congrArg some (by kernel_rfl))⟩
  f35 := ⟨Tryz.f156.name, by decide, Tryz.func156.trans (congrArg some (by kernel_rfl))⟩
  f40 := ⟨Tryz.f163.name, by decide, Tryz.func163.trans (congrArg some (by kernel_rfl))⟩
  t0 := Tryz.underlying0
  a0 := Tryz.isAgg0
  z0 := Tryz.sizeOf0
  v0 := Tryz.zeroValue0
  t3 := Tryz.underlying3
  a3 := Tryz.isAgg3
  z3 := Tryz.sizeOf3
  v3 := Tryz.zeroValue3
  t4 := Tryz.underlying4
  a4 := Tryz.isAgg4
  z4 := Tryz.sizeOf4
  v4 := Tryz.zeroValue4
  t5 := Tryz.underlying5
  a5 := Tryz.isAgg5
  z5 := Tryz.sizeOf5
  v5 := Tryz.zeroValue5
  t9 := Tryz.underlying9
  a9 := Tryz.isAgg9
  z9 := Tryz.sizeOf9
  v9 := Tryz.zeroValue9
  t22 := Tryz.underlying26
  a22 := Tryz.isAgg26
  z22 := Tryz.sizeOf26
  v22 := Tryz.zeroValue26
  t23 := Tryz.underlying26
  a23 := Tryz.isAgg26
  z23 := Tryz.sizeOf26
  v23 := Tryz.zeroValue26
  t25 := Tryz.underlying3
  a25 := Tryz.isAgg3
  z25 := Tryz.sizeOf3
  v25 := Tryz.zeroValue3
  t32 := Tryz.underlying92
  a32 := Tryz.isAgg92
  z32 := Tryz.sizeOf92
  v32 := Tryz.zeroValue92
  t35 := Tryz.underlying142
  a35 := Tryz.isAgg142
  z35 := Tryz.sizeOf142
  v35 := Tryz.zeroValue142
  t36 := Tryz.underlying143
  a36 := Tryz.isAgg143
  z36 := Tryz.sizeOf143
  v36 := Tryz.zeroValue143
  t41 := Tryz.underlying125
  a41 := Tryz.isAgg125
  z41 := Tryz.sizeOf125
  v41 := Tryz.zeroValue125
  t44 := Tryz.underlying148
  a44 := Tryz.isAgg148
  z44 := Tryz.sizeOf148
  v44 := Tryz.zeroValue148
  t46 := Tryz.underlying150
  a46 := Tryz.isAgg150
  z46 := Tryz.sizeOf150
  v46 := Tryz.zeroValue150
  t53 := Tryz.underlying152
  a53 := Tryz.isAgg152
  z53 := Tryz.sizeOf152
  v53 := Tryz.zeroValue152
  t57 := Tryz.underlying156
  a57 := Tryz.isAgg156
  z57 := Tryz.sizeOf156
  v57 := Tryz.zeroValue156
  t63 := Tryz.underlying158
  a63 := Tryz.isAgg158
  z63 := Tryz.sizeOf158
  v63 := Tryz.zeroValue158
  t64 := Tryz.underlying159
  a64 := Tryz.isAgg159
  z64 := Tryz.sizeOf159
  v64 := Tryz.zeroValue159 }
open Go.Sort Go.RowKit in
theorem Tryz.slices_Sort_int (blk off cap : Nat) (zs : List Int) (w : World) (hH : Holds (Value.int .i64) w blk off zs.toArray) (hblk : blk < w.heap.size) (hsz : zs.length < 4611686018427387904) :
    Calls Tryz.prog 113 #[.slice (some ⟨blk, off, none⟩) zs.length cap] w fun e w' =>
      e = .returned (.tuple #[]) ∧ ∃ n os, w' = grow (putRow (Value.int .i64) (Sort.ahead w n) blk off (zs.mergeSort fun x y => decide (x ≤ y)).toArray) os := AnyM.slices_Sort_int Tryz.laysSlM5_f83 blk off cap zs w hH hblk hsz
open Go.RowKit Go.Sort in
/-- .. and plain. (LAID AT THE INSTANCE 'slices.Sort[[]int,int]': no walk: one application.) -/
theorem Tryz.slices_Sort_int_none (p : Option Addr) (cap : Nat) (w : World) :
    Calls Tryz.prog 113 #[.slice p 0 cap] w fun e w' => e = .returned (.tuple #[]) ∧ w' = w := AnyM.slices_Sort_int_none Tryz.laysSlM5_f83 p cap w
end Go.Proofs

namespace Go.Proofs.YtoeppembokpjkaaGreat
open Go Go.Ab Go.RowKit Go.Sort
/-! the sort of numbers, lifted -/
def sortI (l : List Int) : List Int := l.mergeSort fun x y => decide (x ≤ y)
theorem VDs_nums {rd : Addr → Value → Prop} : ∀ {l : List Int} {us : List Value}, VDs rd (nums l).flatten us ↔ us = l.map (Value.int .i64)
  | [], us => by simp [nums, VDs, Cs]
  | n :: l, us => by
    have ih := @VDs_nums rd l
    simp only [nums, List.map_cons, List.flatten_cons, List.singleton_append, VDs, Cs] at ih ⊢
    constructor
    · rintro ⟨u, us', rfl, h1, h2, h3⟩
      simp only [VD] at h2
      rw [h2, (ih).1 h3]
    · rintro rfl
      exact ⟨_, _, rfl, rfl, by simp [VD], ih.2 rfl⟩
theorem sortI_ok (l : List Int) (hl : l.length < 4611686018427387904) : ACalls Tryz.prog 113 [.arr 0] [.row 3 1 (nums l) false] (fun av L => av = .tup [] ∧ L = [.row 3 1 (nums (sortI l)) false]) := by
  intro c vs hc hL0 hs hv
  have hll := nums_length l
  simp only [VRt, VR] at hv
  obtain ⟨u, us', hvs, ⟨ab, hab, har⟩, rfl⟩ := hv
  simp only [List.getElem?_cons_zero, Option.some.injEq] at hab
  subst hab
  have hvs' : vs = #[u] := by rw [← Array.toArray_toList (xs := vs), hvs]
  rw [hvs']
  have hbr := hs.blk 0 _ rfl
  cases hE : c.E0 0 with
  | none =>
    rw [hE] at hbr
    have hnil : l = [] := by
      have := hbr.2.2
      simpa [nums] using this
    subst hnil
    simp only [arRel, hE] at har
    subst har
    refine (Tryz.slices_Sort_int_none none 0 c.w0).mono ?_
    rintro e w' ⟨rfl, rfl⟩
    exact ⟨_, .tup [], _, c.E0, rfl, ⟨rfl, rfl⟩, (by rw [show sortI [] = [] by simp [sortI]]; exact hs), ⟨_, rfl, by simp [VRt]⟩⟩
  | some b =>
    rw [hE] at hbr
    simp only [arRel, hE] at har
    obtain ⟨cap, cur, rfl, hh, hsz⟩ := har
    obtain ⟨_, _, cap2, cur2, hh2, hsz2, hcap, _, hvd⟩ := hbr
    rw [hh] at hh2
    cases hh2
    rw [VDs_nums, hll, Nat.mul_one] at hvd
    have hcur : ∀ j, j < l.length → cur[j]? = some (.int .i64 l[j]!) := by
      intro j hj
      have := congrArg (fun x => x[j]?) hvd
      simp only [List.getElem?_take, List.getElem?_map, hj, if_true] at this
      rw [← Array.getElem?_toList, this, List.getElem?_eq_getElem hj, getElem!_pos l j hj]
      rfl
    have hblk : b < c.w0.heap.size := (Array.getElem?_eq_some_iff.1 hh).1
    have hH : Holds (Value.int .i64) c.w0 b 0 l.toArray := by
      intro j hj
      have hj' : j < l.length := by simpa using hj
      refine ⟨?_, ?_⟩
      · simp only [World.cell?, hh, Nat.zero_add]
        have := hcur j hj'
        simpa using this
      · simp [World.frozen?, hh]
    rw [hll]
    refine (Tryz.slices_Sort_int b 0 cap l c.w0 hH hblk hl).mono ?_
    rintro e w' ⟨rfl, n, os, rfl⟩
    have hperm := List.mergeSort_perm l (fun x y => decide (x ≤ y))
    have hsl : (sortI l).length = l.length := hperm.length_eq
    have k1 : Keeps c.w0 (Sort.ahead c.w0 n) := ⟨rfl, rfl, rfl, Nat.le_refl _, fun _ _ => rfl⟩
    have hs1 := hs.keeps hc k1
    have hle1 : (rcOf c.M0 c.E0 [AB.row 3 1 (nums l) false] c.w0).le (rcOf c.M0 c.E0 [AB.row 3 1 (nums l) false] (Sort.ahead c.w0 n)) := le_keeps k1
    obtain ⟨cur', hcur'⟩ : ∃ cur', putCells (Value.int .i64) 0 (sortI l).toArray cur = cur' := ⟨_, rfl⟩
    have hput : putRow (Value.int .i64) (Sort.ahead c.w0 n) b 0 (sortI l).toArray = (Sort.ahead c.w0 n).setRow b cur' := by
      have e1 : putRow (Value.int .i64) (Sort.ahead c.w0 n) b 0 (sortI l).toArray = mapBlock (Sort.ahead c.w0 n) b (fun _ => cur') := by
        refine mapBlock_congr _ _ _ _ fun c1 e fr h => ?_
        have h2 : c.w0.heap[b]? = some (.cells c1 e fr) := h
        rw [hh] at h2
        cases h2
        exact hcur'
      rw [e1]
      unfold mapBlock World.setRow
      congr 2
    have hsz' : cur'.size = cur.size := by rw [← hcur']; simp [putCells]
    obtain ⟨hs2, hle2⟩ := hs1.rewrite (i := 0) (zs := nums (sortI l)) rfl hE (cur' := cur') hh hsz' (by rw [nums_length, hsl, hll]) (by simp [nums]) (by
      rw [VDs_nums, nums_length, Nat.mul_one, hsl, ← hcur']
      refine List.ext_getElem? fun j => ?_
      simp only [putCells, List.getElem?_take, List.getElem?_map, Array.toList_mapIdx, List.getElem?_mapIdx, Nat.zero_le, true_and, Nat.zero_add, Nat.sub_zero, List.size_toArray, hsl]
      by_cases hj : j < l.length
      · have hcj := hcur j hj
        rw [← Array.getElem?_toList] at hcj
        rw [if_pos hj, hcj]
        have hj2 : j < (sortI l).length := by rw [hsl]; exact hj
        simp [hj, hj2]
      · rw [if_neg hj, List.getElem?_eq_none (by rw [hsl]; omega)]
        rfl)
    have k2 : Keeps ((Sort.ahead c.w0 n).setRow b cur') (grow ((Sort.ahead c.w0 n).setRow b cur') os) := ⟨rfl, rfl, rfl, by simp [grow], fun b' hb' => by simp only [grow]; rw [Array.getElem?_append_left hb']⟩
    rw [show (l.mergeSort fun x y => decide (x ≤ y)) = sortI l from rfl, hput]
    exact ⟨_, .tup [], _, c.E0, rfl, ⟨rfl, rfl⟩, hs2.keeps hc k2, ⟨_, rfl, by simp [VRt]⟩⟩
end Go.Proofs.YtoeppembokpjkaaGreat
