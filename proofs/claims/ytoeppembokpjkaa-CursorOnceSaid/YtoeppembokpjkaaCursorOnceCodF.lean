/- CursorOnce: for every Ask the law returns true, and its argument reads behind the call as it read before. No condition of ours. -/
import Derived.Test.YtoeppembokpjkaaCursorOnceCodE
import Derived.Test.YtoeppembokpjkaaRows

set_option linter.unusedVariables false
set_option linter.unusedSimpArgs false
namespace Go.Proofs.Ytoeppembokpjkaa
open Go.Ab Go.RowKit Go.MapKept
attribute [local irreducible] ACalls AW ADraw Into fltB fnear
set_option maxRecDepth 100000
/-! ## the page's In; a cursor's Check -/
def inC (l : List Int) (x : Int) : Option Nat := l.findIdx? fun y => decide (y = x)
def inI (l : List Int) (x : Int) : Int := (inC l x).elim (-1) fun i => (i : Int)
theorem inC_no {l : List Int} {x : Int} (h : ∀ c ∈ l, c ≠ x) : inC l x = none := by
  unfold inC
  rw [List.findIdx?_eq_none_iff]
  intro c hc
  simp [h c hc]
theorem inC_here {l : List Int} {x : Int} {j : Nat} (hc : l[j]? = some x) (h : ∀ c ∈ l.take j, c ≠ x) : inC l x = some j := by
  unfold inC
  rw [List.findIdx?_eq_some_iff_getElem]
  obtain ⟨hj, rfl⟩ := List.getElem?_eq_some_iff.1 hc
  refine ⟨hj, by simp, fun i hi => ?_⟩
  have := h l[i] (List.mem_take_iff_getElem.2 ⟨i, by omega, rfl⟩)
  simpa using this
theorem inI_not {l : List Int} {x : Int} (h : x ∉ l) : inI l x = -1 := by
  rw [inI, inC_no (l := l) (x := x) fun c hc e => h (by rw [← e]; exact hc)]; rfl
theorem inI_in {l : List Int} {x : Int} (h : x ∈ l) : 0 ≤ inI l x := by
  unfold inI
  cases hc : inC l x with
  | none =>
    unfold inC at hc
    rw [List.findIdx?_eq_none_iff] at hc
    have := hc x h
    simp at this
  | some i => show (0 : Int) ≤ (i : Int); omega
theorem inI_iff {l : List Int} {x : Int} : inI l x ≥ 0 ↔ x ∈ l := by
  constructor
  · intro h
    refine Classical.byContradiction fun hn => ?_
    rw [inI_not hn] at h; omega
  · exact inI_in
theorem inI_range (l : List Int) (x : Int) : -1 ≤ inI l x ∧ inI l x < max 1 (l.length : Int) := by
  unfold inI
  cases hc : inC l x with
  | none => show (-1 : Int) ≤ -1 ∧ (-1 : Int) < _; omega
  | some i =>
    unfold inC at hc
    rw [List.findIdx?_eq_some_iff_getElem] at hc
    obtain ⟨hj, _⟩ := hc
    show (-1 : Int) ≤ (i : Int) ∧ (i : Int) < _; omega
theorem in_ok (l : List Int) (hl : few l) (x : Int) : ACalls Try.prog 24 [.d (.sl 1 (nums l)), .d (.int .i64 x)] [] (fun av L => av = .d (.int .i64 (inI l x)) ∧ L = []) := by
  have hcl := nums_length l
  unfold few at hl
  refine acalls_go ttOk zOk foOk Try.func24 rfl Try.ntmps24 rfl false rfl ?_
  conv => whnf
  refine loop_go ttOk zOk foOk (σ := Nat) (fun j => ([(0, .d (.sl 1 (nums l))), (1, .d (.int .i64 x)), (5, .d (.int .i64 j))], [])) (fun j => j ≤ l.length ∧ ∀ c ∈ l.take j, c ≠ x) (fun j => l.length - j) [0, 1, 5] ?_ ?_
  · conv => whnf
    exact ⟨0, rfl, rfl, Nat.zero_le _, by simp⟩
  · rintro j ⟨hj, hall⟩
    conv => whnf
    rw [hcl]
    repeat' (first | ((with_reducible apply z_wrap); (focus omega); (conv => whnf)) | ((with_reducible refine mt_dec (fun _ => ?_) (fun _ => ?_)) <;> (conv => whnf)) | ((with_reducible refine mt_eq (fun _ => ?_) (fun _ => ?_)) <;> (conv => whnf)) | ((with_reducible refine mt_ne (fun _ => ?_) (fun _ => ?_)) <;> (conv => whnf)) | ((with_reducible refine mt_not (fun _ => ?_) (fun _ => ?_)) <;> (conv => whnf)) | ((with_reducible refine mt_any (fun _ => ?_) (fun _ => ?_)) <;> (conv => whnf)))
    · rename_i h
      refine Exists.elim (⟨_, List.getElem?_eq_getElem (by omega)⟩ : ∃ c, l[j]? = some c) fun c hc => ?_
      refine ⟨by omega, [.int .i64 c], nums_at hc, ?_⟩
      conv => whnf
      repeat' (first | ((with_reducible apply z_wrap); (focus omega); (conv => whnf)) | ((with_reducible refine mt_dec (fun _ => ?_) (fun _ => ?_)) <;> (conv => whnf)) | ((with_reducible refine mt_eq (fun _ => ?_) (fun _ => ?_)) <;> (conv => whnf)) | ((with_reducible refine mt_ne (fun _ => ?_) (fun _ => ?_)) <;> (conv => whnf)) | ((with_reducible refine mt_not (fun _ => ?_) (fun _ => ?_)) <;> (conv => whnf)) | ((with_reducible refine mt_any (fun _ => ?_) (fun _ => ?_)) <;> (conv => whnf)))
      · rename_i h2
        rw [inI, inC_here (by rw [hc, h2]) hall]
        exact ⟨rfl, rfl⟩
      · rename_i h2
        refine ⟨j + 1, rfl, rfl, ⟨by omega, fun y hy => ?_⟩, by omega⟩
        rw [List.take_add_one, hc] at hy
        rcases List.mem_append.1 hy with hy | hy
        · exact hall y hy
        · simp at hy; rw [hy]; exact h2
    · rename_i h
      rw [List.take_of_length_le (by omega)] at hall
      rw [inI, inC_no hall]
      exact ⟨rfl, rfl⟩
theorem curCheck_ok (c : Cursor) (dn : DV) (hdn : isDone dn c.done) (h : curMay c) : ACalls Try.prog 22 [.agg [.d (.int .i64 c.round), .d dn, .d (.int .i64 c.count)]] [] (fun av L => av = .d (.int .i64 0) ∧ L = []) := by
  have hm := curMay_ok c dn hdn h
  refine acalls_go ttOk zOk foOk Try.func22 rfl Try.ntmps22 rfl false rfl ?_
  conv => whnf
  refine hm.mono ?_
  rintro _ _ ⟨rfl, rfl⟩
  conv => whnf
  exact ⟨rfl, rfl⟩
end Go.Proofs.Ytoeppembokpjkaa

namespace Go.Proofs.Ytoeppembokpjkaa
open Go.Ab Go.RowKit
/-! ## nothing twice; each behind its parents -/
theorem rise_mem {d : Dag} (h : Valid d) {i : Nat} {c : Cert} (hi : d.certs[i]? = some c) {low x : Int} (hx : x ∈ riseI d i low) : ∃ cx, certOf d x = some cx ∧ low < cx.round ∧ cx.round ≤ c.round := by
  have h1 : x ∈ downI d i low := List.mem_reverse.1 hx
  have hsub := (down_sub d.low low (d.certs.take (i + 1)).reverse ((d.certs[i]?).toList.map (·.digest))).subset h1
  rw [List.map_reverse, List.mem_reverse] at hsub
  obtain ⟨cx, hcx, rfl⟩ := List.mem_map.1 hsub
  have hm : cx ∈ d.certs := List.mem_of_mem_take hcx
  refine ⟨cx, certOf_mem h.dig hm, ?_, ?_⟩
  · refine Classical.byContradiction fun hno => ?_
    have hall : ∀ {l : List Cert} {ks : List Int}, desc l → (l.map (·.digest)).Nodup → cx ∈ l → cx.digest ∈ downL d.low low l ks → low < cx.round := by
      intro l
      induction l with
      | nil => intro ks _ _ hc _; cases hc
      | cons z r ih =>
        intro ks hd hn hc hdn
        have hd' := List.pairwise_cons.1 hd
        have hn' := List.nodup_cons.1 hn
        rw [downL] at hdn
        split at hdn
        · cases hdn
        · rename_i hz
          rcases List.mem_cons.1 hc with rfl | hc
          · omega
          · have hne : cx.digest ≠ z.digest := fun e => hn'.1 (List.mem_map.2 ⟨cx, hc, e⟩)
            split at hdn
            · rcases List.mem_cons.1 hdn with e | hdn
              · exact absurd e hne
              · exact ih hd'.2 hn'.2 hc hdn
            · exact ih hd'.2 hn'.2 hc hdn
    rw [downI_eq h.sorted h.dig hi] at h1
    exact hno (hall (desc_rev h.sorted) (by rw [List.map_reverse]; exact (List.reverse_perm _).nodup_iff.2 h.dig) (List.mem_reverse.2 hm) h1)
  · obtain ⟨j, hj, rfl⟩ := List.mem_take_iff_getElem.1 hcx
    obtain ⟨hil, rfl⟩ := List.getElem?_eq_some_iff.1 hi
    rcases Nat.lt_or_ge j i with h2 | h2
    · have := before_iff.1 (List.pairwise_iff_getElem.1 h.sorted j i (by omega) hil h2); omega
    · have : j = i := by omega
      subst this; exact Int.le_refl _
/-- by rising places -/
theorem rise_sub (d : Dag) (i : Nat) (low : Int) : (riseI d i low).Sublist (d.certs.map (·.digest)) := by
  have h1 := down_sub d.low low (d.certs.take (i + 1)).reverse ((d.certs[i]?).toList.map (·.digest))
  rw [List.map_reverse] at h1
  have h2 := List.reverse_sublist.2 h1
  rw [List.reverse_reverse] at h2
  exact h2.trans ((List.take_sublist ..).map _)
theorem rise_closed {d : Dag} (h : Valid d) {i : Nat} {c : Cert} (hi : d.certs[i]? = some c) {low : Int} {x p : Cert} (hx : x ∈ d.certs) (hxr : x.digest ∈ riseI d i low) (hx1 : x.round > d.low + 1) (hp : p ∈ d.certs) (hpx : p.digest ∈ x.pars) (hpr : p.round = x.round - 1) (hl : low < p.round) : p.digest ∈ riseI d i low := by
  have h1 : x.digest ∈ downI d i low := List.mem_reverse.1 hxr
  refine List.mem_reverse.2 (show p.digest ∈ downI d i low from ?_)
  rw [downI_eq h.sorted h.dig hi] at h1 ⊢
  exact down_closed (desc_rev h.sorted) (by rw [List.map_reverse]; exact (List.reverse_perm _).nodup_iff.2 h.dig) (List.mem_reverse.2 hx) h1 hx1 (List.mem_reverse.2 hp) hpx hl (by omega)
/-- rounds never fall along the list -/
theorem sub_rounds {d : Dag} (h : Valid d) {l : List Int} (hl : l.Sublist (d.certs.map (·.digest))) : l.Pairwise fun x y => ∀ cx cy, certOf d x = some cx → certOf d y = some cy → cx.round ≤ cy.round := by
  refine List.Pairwise.sublist hl (List.pairwise_map.2 ?_)
  refine List.Pairwise.imp_of_mem ?_ h.sorted
  intro a b ha hb hab ca cb h1 h2
  rw [certOf_mem h.dig ha] at h1
  rw [certOf_mem h.dig hb] at h2
  cases h1; cases h2
  have := before_iff.1 hab
  omega
/-- y is no parent of x -/
def noPar (d : Dag) (x y : Int) : Prop := ∀ c, certOf d x = some c → c.round > 1 → y ∉ c.pars
structure Once (d : Dag) (w : Wk) : Prop where
  digs : ∀ x ∈ w.outs, ∃ c, certOf d x = some c ∧ c.round ≤ w.c.round
  nodup : w.outs.Nodup
  kept : ∀ x ∈ w.outs, ∀ c, certOf d x = some c → c.round > w.c.round - 8 → x ∈ w.c.done
  fresh : ∀ x ∈ w.c.done, x ∈ w.outs
  pars : ∀ x ∈ w.outs, ∀ c, certOf d x = some c → c.round > 1 → ∀ y ∈ c.pars, y ∈ w.outs ∨ ∃ c', certOf d y = some c' ∧ c'.round ≤ w.c.round - 8
  ord : w.outs.Pairwise (noPar d)
theorem parent_cert {d : Dag} (h : Valid d) (h0 : d.low = 0) {c : Cert} (hc : c ∈ d.certs) (hr : c.round > 1) {y : Int} (hy : y ∈ c.pars) : ∃ p, p ∈ d.certs ∧ p.digest = y ∧ certOf d y = some p ∧ p.round = c.round - 1 := by
  obtain ⟨p, h1, h2, h3⟩ := h.here c hc (by rw [h0]; exact hr) y hy
  exact ⟨p, h1, h2, by rw [← h2]; exact certOf_mem h.dig h1, h3⟩
theorem Once.put {d : Dag} (h : Valid d) (h0 : d.low = 0) {w : Wk} (hw : Once d w) {i : Nat} {c : Cert} (hi : d.certs[i]? = some c) (hr : w.c.round < c.round) : Once d (w.put d i c) := by
  have hl : ∀ x ∈ behindI d i c.round w.c.done, ∃ cx, certOf d x = some cx ∧ c.round - 8 < cx.round ∧ cx.round ≤ c.round := fun x hx => rise_mem h hi (List.mem_filter.1 hx).1
  have hnew : ∀ x ∈ behindI d i c.round w.c.done, x ∉ w.outs := by
    intro x hx hxo
    obtain ⟨cx, h1, h2, _⟩ := hl x hx
    exact (behind_nodup h.dig i c.round w.c.done).2 x hx (hw.kept x hxo cx h1 (by omega))
  have hdone : ∀ x, x ∈ (w.put d i c).c.done ↔ (x ∈ w.c.done ∨ x ∈ behindI d i c.round w.c.done) ∧ keepB d c.round x = true := by
    intro x
    show x ∈ sortI (keepI d c.round (w.c.done ++ behindI d i c.round w.c.done)) ↔ _
    rw [sortI, List.mem_mergeSort]
    show x ∈ List.filter _ _ ↔ _
    rw [List.mem_filter, List.mem_append]
  have hkeep : ∀ {x : Int} {cx : Cert}, certOf d x = some cx → cx.round > c.round - 8 → keepB d c.round x = true := by
    intro x cx h1 h2
    show (match certOf d x with | some c' => decide (c'.round > c.round - 8) | none => false) = true
    rw [h1]; exact decide_eq_true h2
  refine ⟨?_, ?_, ?_, ?_, ?_, ?_⟩
  · intro x hx
    show ∃ c' : Cert, certOf d x = some c' ∧ c'.round ≤ c.round
    rcases List.mem_append.1 hx with hx | hx
    · obtain ⟨cx, h1, h2⟩ := hw.digs x hx; exact ⟨cx, h1, by omega⟩
    · obtain ⟨cx, h1, h2, h3⟩ := hl x hx; exact ⟨cx, h1, h3⟩
  · exact List.nodup_append.2 ⟨hw.nodup, (behind_nodup h.dig i c.round w.c.done).1, fun x hx y hy e => hnew y hy (by rw [← e]; exact hx)⟩
  · intro x hx cx h1 h2
    have h2 : cx.round > c.round - 8 := h2
    refine (hdone x).2 ⟨?_, hkeep h1 h2⟩
    rcases List.mem_append.1 hx with hx | hx
    · exact .inl (hw.kept x hx cx h1 (by omega))
    · exact .inr hx
  · intro x hx
    rcases ((hdone x).1 hx).1 with h1 | h1
    · exact List.mem_append_left _ (hw.fresh x h1)
    · exact List.mem_append_right _ h1
  · intro x hx cx h1 h2 y hy
    show _ ∨ ∃ c' : Cert, certOf d y = some c' ∧ c'.round ≤ c.round - 8
    rcases List.mem_append.1 hx with hx | hx
    · rcases hw.pars x hx cx h1 h2 y hy with h3 | ⟨c', h3, h4⟩
      · exact .inl (List.mem_append_left _ h3)
      · exact .inr ⟨c', h3, by omega⟩
    · obtain ⟨hcm, hcd, _⟩ := certOf_some h1
      obtain ⟨p, p1, p2, p3, p4⟩ := parent_cert h h0 hcm h2 hy
      by_cases h5 : p.round ≤ c.round - 8
      · exact .inr ⟨p, p3, h5⟩
      · left
        by_cases h6 : y ∈ w.c.done
        · exact List.mem_append_left _ (hw.fresh y h6)
        · refine List.mem_append_right _ (List.mem_filter.2 ⟨?_, by simpa using h6⟩)
          rw [← p2]
          exact rise_closed h hi hcm (by rw [hcd]; exact (List.mem_filter.1 hx).1) (by rw [h0]; exact h2) p1 (by rw [p2]; exact hy) p4 (by omega)
  · refine List.pairwise_append.2 ⟨hw.ord, ?_, ?_⟩
    · refine List.Pairwise.imp_of_mem ?_ (sub_rounds h (List.filter_sublist.trans (rise_sub d i (c.round - 8))))
      intro x y hx hy hxy cx h1 h2 h3
      obtain ⟨hcm, hcd, _⟩ := certOf_some h1
      obtain ⟨p, p1, p2, p3, p4⟩ := parent_cert h h0 hcm h2 h3
      have := hxy cx p h1 p3
      omega
    · intro x hx y hy cx h1 h2 h3
      rcases hw.pars x hx cx h1 h2 y h3 with h4 | ⟨c', h4, h5⟩
      · exact hnew y hy h4
      · obtain ⟨cy, k1, k2, _⟩ := hl y hy
        rw [h4] at k1; cases k1
        omega
theorem Once.putL {d : Dag} (h : Valid d) (h0 : d.low = 0) : ∀ {l : List Int} {w : Wk}, Once d w → (∀ a ∈ l, ∃ c, certOf d a = some c ∧ w.c.round < c.round) → l.Pairwise (fun x y => roundOf d x < roundOf d y) → Once d (w.putL d l)
  | [], w, hw, _, _ => hw
  | a :: l, w, hw, ha, hp => by
    have hp' := List.pairwise_cons.1 hp
    obtain ⟨c, hc, hr⟩ := ha a (by simp)
    obtain ⟨_, _, i, h1, h2⟩ := certOf_some hc
    show Once d ((w.putA d a).putL d l)
    have e : w.putA d a = w.put d i c := putA_eq h1 h2
    rw [e]
    refine Once.putL h h0 (hw.put h h0 h2 hr) ?_ hp'.2
    intro b hb
    obtain ⟨cb, hcb, _⟩ := ha b (by simp [hb])
    refine ⟨cb, hcb, ?_⟩
    have := hp'.1 b hb
    unfold roundOf at this
    rw [hc, hcb] at this
    exact this
theorem Once.goF {d : Dag} (h : Valid d) (h0 : d.low = 0) : ∀ (n : Nat) (w : Wk), Once d w → 0 ≤ w.c.round → w.c.round % 2 = 0 → Once d (Wk.goF d n w)
  | 0, w, hw, _, _ => hw
  | n + 1, w, hw, h2, h3 => by
    rw [Wk.goF]
    split
    · rename_i hp
      have hsp := nextC_spec h.well h2 h3 hp
      have hall := backI_all h.well hsp.1 hsp.2.2.2.2.1
      have hr : (w.putL d (backI d w.c.round (nextC d w.c.round))).c.round = nextC d w.c.round := putL_round h hsp.2.2.2.2.1 hall.2.2
      refine Once.goF h h0 n _ (hw.putL h h0 ?_ hall.2.1) (by rw [hr]; omega) (by rw [hr]; exact hsp.2.2.2.1)
      intro a ha
      obtain ⟨q, q1, q2, rfl, q3⟩ := hall.1 a ha
      obtain ⟨c, hc, hcr, _⟩ := anchor_cert h.well q3
      exact ⟨c, hc, by omega⟩
    · exact hw
theorem fin_once {d : Dag} (h : Valid d) (h0 : d.low = 0) : Once d (finW d ⟨0, [], 0⟩) :=
  Once.goF h h0 _ ⟨⟨0, [], 0⟩, []⟩ ⟨fun x hx => (by cases hx), List.nodup_nil, fun x hx => (by cases hx), fun x hx => (by cases hx), fun x hx => (by cases hx), List.Pairwise.nil⟩ (by decide) (by decide)
/-- no parent of one stands at it or behind it -/
theorem Once.behind {d : Dag} (h : Valid d) (h0 : d.low = 0) {w : Wk} (hw : Once d w) {i : Nat} {x : Int} (hx : w.outs[i]? = some x) {c : Cert} (hc : certOf d x = some c) (hr : c.round > 1) {y : Int} (hy : y ∈ c.pars) : y ∉ w.outs.drop i := by
  obtain ⟨hil, rfl⟩ := List.getElem?_eq_some_iff.1 hx
  intro hin
  rw [List.drop_eq_getElem_cons hil] at hin
  obtain ⟨hcm, hcd, _⟩ := certOf_some hc
  obtain ⟨p, p1, p2, p3, p4⟩ := parent_cert h h0 hcm hr hy
  rcases List.mem_cons.1 hin with e | hin
  · rw [e, hc] at p3; cases p3; omega
  · obtain ⟨j, hj, e⟩ := List.mem_drop_iff_getElem.1 hin
    exact List.pairwise_iff_getElem.1 hw.ord i (i + 1 + j) hil (by omega) (by omega) c hc hr (by rw [e]; exact hy)
theorem Once.ahead {d : Dag} {w : Wk} (hw : Once d w) {i : Nat} {x : Int} (hx : w.outs[i]? = some x) : x ∉ w.outs.take i := by
  obtain ⟨hil, rfl⟩ := List.getElem?_eq_some_iff.1 hx
  intro hin
  obtain ⟨j, hj, e⟩ := List.mem_take_iff_getElem.1 hin
  exact List.pairwise_iff_getElem.1 hw.nodup j i (by omega) hil (by omega) e
end Go.Proofs.Ytoeppembokpjkaa

namespace Go.Proofs.Ytoeppembokpjkaa
open Go.Ab Go.RowKit Go.MapKept
attribute [local irreducible] ACalls AW ADraw Into fltB fnear
set_option maxRecDepth 100000
theorem nums_take (l : List Int) (n : Nat) : (nums l).take n = nums (l.take n) := by simp [nums]
theorem nums_drop (l : List Int) (n : Nat) : (nums l).drop n = nums (l.drop n) := by simp [nums]
set_option maxHeartbeats 1000000 in
theorem cursorOnce_ok (p : AskG) (hp : p.ok) : ACalls Try.prog 8 [p.av] [] (fun av L => av = .d (.bool true) ∧ L = []) := by
  have hcl := certsD_length p.d.certs
  refine acalls_go ttOk zOk foOk Try.func8 rfl Try.ntmps8 rfl false rfl ?_
  conv => whnf
  refine (heavy_ok p hp).mono ?_
  rintro _ _ ⟨⟨b, rfl, hb⟩, rfl⟩
  cases b with
  | true =>
    conv => whnf
    exact ⟨rfl, rfl⟩
  | false =>
    obtain ⟨hl80, hi60⟩ := hb rfl
    conv => whnf
    refine (rMayDag_ok p.d hp.d).mono ?_
    rintro _ _ ⟨⟨b, rfl, hv⟩, rfl⟩
    cases b with
    | false =>
      conv => whnf
      exact ⟨rfl, rfl⟩
    | true =>
      replace hv := hv rfl
      conv => whnf
      repeat' (first | ((with_reducible apply rd_intro); (focus (intro K hK; (conv => whnf); first | exact hK | (intro z hz; rw [wrapI (by omega)] at hz; subst hz; exact hK))); (conv => whnf)) | ((with_reducible apply gd_and); (focus ((conv => whnf) <;> first | rfl | (intro K hK; (conv => whnf); first | exact hK | (intro z hz; rw [wrapI (by omega)] at hz; subst hz; exact hK)))); (conv => whnf)) | ((with_reducible apply z_wrap); (focus omega); (conv => whnf)) | ((with_reducible refine mt_dec (fun _ => ?_) (fun _ => ?_)) <;> (conv => whnf)) | ((with_reducible refine mt_eq (fun _ => ?_) (fun _ => ?_)) <;> (conv => whnf)) | ((with_reducible refine mt_ne (fun _ => ?_) (fun _ => ?_)) <;> (conv => whnf)) | ((with_reducible refine mt_not (fun _ => ?_) (fun _ => ?_)) <;> (conv => whnf)) | ((with_reducible refine mt_any (fun _ => ?_) (fun _ => ?_)) <;> (conv => whnf)))
      · exact ⟨rfl, rfl⟩
      · rename_i h0
        replace h0 : p.d.low = 0 := by omega
        have hlen := hv.len
        have hcm := fin_may hv h0
        have hcc := fin_count hv
        have hfl := fin_len hv
        have hon : Once p.d (finW p.d c0) := fin_once hv h0
        refine (any_data p.d hv h0 c0 .nils (.inl ⟨rfl, rfl⟩) c0_may).mono ?_
        rintro _ _ ⟨rfl, rfl⟩
        rw [Wk.out]
        obtain ⟨w, hw⟩ : ∃ w, finW p.d c0 = w := ⟨_, rfl⟩
        rw [hw] at hcm hcc hfl hon ⊢
        clear hw
        have hnl := nums_length w.outs
        conv => whnf
        refine (num_ok 0).mono ?_
        rintro _ _ ⟨rfl, rfl⟩
        conv => whnf
        repeat' (first | ((with_reducible apply rd_intro); (focus (intro K hK; (conv => whnf); first | exact hK | (intro z hz; rw [wrapI (by omega)] at hz; subst hz; exact hK))); (conv => whnf)) | ((with_reducible apply gd_and); (focus ((conv => whnf) <;> first | rfl | (intro K hK; (conv => whnf); first | exact hK | (intro z hz; rw [wrapI (by omega)] at hz; subst hz; exact hK)))); (conv => whnf)) | ((with_reducible apply z_wrap); (focus omega); (conv => whnf)) | ((with_reducible refine mt_dec (fun _ => ?_) (fun _ => ?_)) <;> (conv => whnf)) | ((with_reducible refine mt_eq (fun _ => ?_) (fun _ => ?_)) <;> (conv => whnf)) | ((with_reducible refine mt_ne (fun _ => ?_) (fun _ => ?_)) <;> (conv => whnf)) | ((with_reducible refine mt_not (fun _ => ?_) (fun _ => ?_)) <;> (conv => whnf)) | ((with_reducible refine mt_any (fun _ => ?_) (fun _ => ?_)) <;> (conv => whnf)))
        · rename_i hx; exact absurd hx (by omega)
        refine (curCheck_ok w.c (.sl 1 (nums w.c.done)) (.inr rfl) hcm).mono ?_
        rintro _ _ ⟨rfl, rfl⟩
        conv => whnf
        refine (num_ok 0).mono ?_
        rintro _ _ ⟨rfl, rfl⟩
        conv => whnf
        repeat' (first | ((with_reducible apply rd_intro); (focus (intro K hK; (conv => whnf); first | exact hK | (intro z hz; rw [wrapI (by omega)] at hz; subst hz; exact hK))); (conv => whnf)) | ((with_reducible apply gd_and); (focus ((conv => whnf) <;> first | rfl | (intro K hK; (conv => whnf); first | exact hK | (intro z hz; rw [wrapI (by omega)] at hz; subst hz; exact hK)))); (conv => whnf)) | ((with_reducible apply z_wrap); (focus omega); (conv => whnf)) | ((with_reducible refine mt_dec (fun _ => ?_) (fun _ => ?_)) <;> (conv => whnf)) | ((with_reducible refine mt_eq (fun _ => ?_) (fun _ => ?_)) <;> (conv => whnf)) | ((with_reducible refine mt_ne (fun _ => ?_) (fun _ => ?_)) <;> (conv => whnf)) | ((with_reducible refine mt_not (fun _ => ?_) (fun _ => ?_)) <;> (conv => whnf)) | ((with_reducible refine mt_any (fun _ => ?_) (fun _ => ?_)) <;> (conv => whnf)))
        refine loop_go ttOk zOk foOk (σ := Nat) (fun j => ([(1, .ptr 0 0), (3, .ptr 1 0), (4, .d (.sl 1 (nums w.outs))), (6, .d (.int .i64 j))], [.cells p.cells, .cells w.c.cells])) (fun j => j ≤ w.outs.length) (fun j => w.outs.length - j) [1, 3, 4, 6] ?_ ?_
        · conv => whnf
          exact ⟨0, rfl, rfl, Nat.zero_le _⟩
        · intro j hj
          conv => whnf
          repeat' (first | ((with_reducible apply rd_intro); (focus (intro K hK; (conv => whnf); first | exact hK | (intro z hz; rw [wrapI (by omega)] at hz; subst hz; exact hK))); (conv => whnf)) | ((with_reducible apply gd_and); (focus ((conv => whnf) <;> first | rfl | (intro K hK; (conv => whnf); first | exact hK | (intro z hz; rw [wrapI (by omega)] at hz; subst hz; exact hK)))); (conv => whnf)) | ((with_reducible apply z_wrap); (focus omega); (conv => whnf)) | ((with_reducible refine mt_dec (fun _ => ?_) (fun _ => ?_)) <;> (conv => whnf)) | ((with_reducible refine mt_eq (fun _ => ?_) (fun _ => ?_)) <;> (conv => whnf)) | ((with_reducible refine mt_ne (fun _ => ?_) (fun _ => ?_)) <;> (conv => whnf)) | ((with_reducible refine mt_not (fun _ => ?_) (fun _ => ?_)) <;> (conv => whnf)) | ((with_reducible refine mt_any (fun _ => ?_) (fun _ => ?_)) <;> (conv => whnf)))
          · rename_i hjl
            refine Exists.elim (⟨_, List.getElem?_eq_getElem (by omega)⟩ : ∃ x, w.outs[j]? = some x) fun x hx => ?_
            obtain ⟨c, hc, hcr⟩ := hon.digs x (List.mem_of_getElem? hx)
            obtain ⟨hcmem, hcd, k, hk, hkc⟩ := certOf_some hc
            have hget : getI p.d.certs x = k := by rw [getI, hk]; rfl
            have hkl : k < p.d.certs.length := (List.getElem?_eq_some_iff.1 hkc).1
            have hfind := rFind_ok p.d (by unfold few; omega) x
            rw [hget] at hfind
            have hnin := inI_not (hon.ahead hx)
            have hin1 := in_ok (w.outs.take j) (by unfold few; have := List.length_take_le' j w.outs; omega) x
            rw [hnin] at hin1
            ((with_reducible refine draw_pl ttOk zOk foOk mixedOk pl8x9 ?_ ?_); (focus kernel_rfl); (conv => whnf))
            repeat' (first | ((with_reducible apply rd_intro); (focus (intro K hK; (conv => whnf); first | exact hK | (intro z hz; rw [wrapI (by omega)] at hz; subst hz; exact hK))); (conv => whnf)) | ((with_reducible apply gd_and); (focus ((conv => whnf) <;> first | rfl | (intro K hK; (conv => whnf); first | exact hK | (intro z hz; rw [wrapI (by omega)] at hz; subst hz; exact hK)))); (conv => whnf)) | ((with_reducible apply z_wrap); (focus omega); (conv => whnf)) | ((with_reducible refine mt_dec (fun _ => ?_) (fun _ => ?_)) <;> (conv => whnf)) | ((with_reducible refine mt_eq (fun _ => ?_) (fun _ => ?_)) <;> (conv => whnf)) | ((with_reducible refine mt_ne (fun _ => ?_) (fun _ => ?_)) <;> (conv => whnf)) | ((with_reducible refine mt_not (fun _ => ?_) (fun _ => ?_)) <;> (conv => whnf)) | ((with_reducible refine mt_any (fun _ => ?_) (fun _ => ?_)) <;> (conv => whnf)))
            ((with_reducible apply rd_intro); (focus (intro K hK; (conv => whnf); exact ⟨by omega, [.int .i64 x], nums_at hx, hK⟩)); (conv => whnf))
            repeat' (first | ((with_reducible apply rd_intro); (focus (intro K hK; (conv => whnf); first | exact hK | (intro z hz; rw [wrapI (by omega)] at hz; subst hz; exact hK))); (conv => whnf)) | ((with_reducible apply gd_and); (focus ((conv => whnf) <;> first | rfl | (intro K hK; (conv => whnf); first | exact hK | (intro z hz; rw [wrapI (by omega)] at hz; subst hz; exact hK)))); (conv => whnf)) | ((with_reducible apply z_wrap); (focus omega); (conv => whnf)) | ((with_reducible refine mt_dec (fun _ => ?_) (fun _ => ?_)) <;> (conv => whnf)) | ((with_reducible refine mt_eq (fun _ => ?_) (fun _ => ?_)) <;> (conv => whnf)) | ((with_reducible refine mt_ne (fun _ => ?_) (fun _ => ?_)) <;> (conv => whnf)) | ((with_reducible refine mt_not (fun _ => ?_) (fun _ => ?_)) <;> (conv => whnf)) | ((with_reducible refine mt_any (fun _ => ?_) (fun _ => ?_)) <;> (conv => whnf)))
            refine hfind.mono ?_
            rintro _ _ ⟨rfl, rfl⟩
            conv => whnf
            repeat' (first | ((with_reducible apply rd_intro); (focus (intro K hK; (conv => whnf); first | exact hK | (intro z hz; rw [wrapI (by omega)] at hz; subst hz; exact hK))); (conv => whnf)) | ((with_reducible apply gd_and); (focus ((conv => whnf) <;> first | rfl | (intro K hK; (conv => whnf); first | exact hK | (intro z hz; rw [wrapI (by omega)] at hz; subst hz; exact hK)))); (conv => whnf)) | ((with_reducible apply z_wrap); (focus omega); (conv => whnf)) | ((with_reducible refine mt_dec (fun _ => ?_) (fun _ => ?_)) <;> (conv => whnf)) | ((with_reducible refine mt_eq (fun _ => ?_) (fun _ => ?_)) <;> (conv => whnf)) | ((with_reducible refine mt_ne (fun _ => ?_) (fun _ => ?_)) <;> (conv => whnf)) | ((with_reducible refine mt_not (fun _ => ?_) (fun _ => ?_)) <;> (conv => whnf)) | ((with_reducible refine mt_any (fun _ => ?_) (fun _ => ?_)) <;> (conv => whnf)))
            ((with_reducible refine draw_pl ttOk zOk foOk mixedOk pl8x10 ?_ ?_); (focus kernel_rfl); (conv => whnf))
            repeat' (first | ((with_reducible apply rd_intro); (focus (intro K hK; (conv => whnf); first | exact hK | (intro z hz; rw [wrapI (by omega)] at hz; subst hz; exact hK))); (conv => whnf)) | ((with_reducible apply gd_and); (focus ((conv => whnf) <;> first | rfl | (intro K hK; (conv => whnf); first | exact hK | (intro z hz; rw [wrapI (by omega)] at hz; subst hz; exact hK)))); (conv => whnf)) | ((with_reducible apply z_wrap); (focus omega); (conv => whnf)) | ((with_reducible refine mt_dec (fun _ => ?_) (fun _ => ?_)) <;> (conv => whnf)) | ((with_reducible refine mt_eq (fun _ => ?_) (fun _ => ?_)) <;> (conv => whnf)) | ((with_reducible refine mt_ne (fun _ => ?_) (fun _ => ?_)) <;> (conv => whnf)) | ((with_reducible refine mt_not (fun _ => ?_) (fun _ => ?_)) <;> (conv => whnf)) | ((with_reducible refine mt_any (fun _ => ?_) (fun _ => ?_)) <;> (conv => whnf)))
            ((with_reducible apply rd_intro); (focus (intro K hK; (conv => whnf); exact ⟨by omega, by omega, by omega, hK⟩)); (conv => whnf))
            repeat' (first | ((with_reducible apply rd_intro); (focus (intro K hK; (conv => whnf); first | exact hK | (intro z hz; rw [wrapI (by omega)] at hz; subst hz; exact hK))); (conv => whnf)) | ((with_reducible apply gd_and); (focus ((conv => whnf) <;> first | rfl | (intro K hK; (conv => whnf); first | exact hK | (intro z hz; rw [wrapI (by omega)] at hz; subst hz; exact hK)))); (conv => whnf)) | ((with_reducible apply z_wrap); (focus omega); (conv => whnf)) | ((with_reducible refine mt_dec (fun _ => ?_) (fun _ => ?_)) <;> (conv => whnf)) | ((with_reducible refine mt_eq (fun _ => ?_) (fun _ => ?_)) <;> (conv => whnf)) | ((with_reducible refine mt_ne (fun _ => ?_) (fun _ => ?_)) <;> (conv => whnf)) | ((with_reducible refine mt_not (fun _ => ?_) (fun _ => ?_)) <;> (conv => whnf)) | ((with_reducible refine mt_any (fun _ => ?_) (fun _ => ?_)) <;> (conv => whnf)))
            ((with_reducible apply rd_intro); (focus (intro K hK; (conv => whnf); exact ⟨by omega, [.int .i64 x], nums_at hx, hK⟩)); (conv => whnf))
            repeat' (first | ((with_reducible apply rd_intro); (focus (intro K hK; (conv => whnf); first | exact hK | (intro z hz; rw [wrapI (by omega)] at hz; subst hz; exact hK))); (conv => whnf)) | ((with_reducible apply gd_and); (focus ((conv => whnf) <;> first | rfl | (intro K hK; (conv => whnf); first | exact hK | (intro z hz; rw [wrapI (by omega)] at hz; subst hz; exact hK)))); (conv => whnf)) | ((with_reducible apply z_wrap); (focus omega); (conv => whnf)) | ((with_reducible refine mt_dec (fun _ => ?_) (fun _ => ?_)) <;> (conv => whnf)) | ((with_reducible refine mt_eq (fun _ => ?_) (fun _ => ?_)) <;> (conv => whnf)) | ((with_reducible refine mt_ne (fun _ => ?_) (fun _ => ?_)) <;> (conv => whnf)) | ((with_reducible refine mt_not (fun _ => ?_) (fun _ => ?_)) <;> (conv => whnf)) | ((with_reducible refine mt_any (fun _ => ?_) (fun _ => ?_)) <;> (conv => whnf)))
            rw [show List.drop (Int.toNat 0) (List.take ((j : Int)).toNat (nums w.outs)) = nums (w.outs.take j) by rw [show ((j : Int)).toNat = j from rfl, show Int.toNat 0 = 0 from rfl, List.drop_zero, nums_take]]
            refine hin1.mono ?_
            rintro _ _ ⟨rfl, rfl⟩
            conv => whnf
            repeat' (first | ((with_reducible apply rd_intro); (focus (intro K hK; (conv => whnf); first | exact hK | (intro z hz; rw [wrapI (by omega)] at hz; subst hz; exact hK))); (conv => whnf)) | ((with_reducible apply gd_and); (focus ((conv => whnf) <;> first | rfl | (intro K hK; (conv => whnf); first | exact hK | (intro z hz; rw [wrapI (by omega)] at hz; subst hz; exact hK)))); (conv => whnf)) | ((with_reducible apply z_wrap); (focus omega); (conv => whnf)) | ((with_reducible refine mt_dec (fun _ => ?_) (fun _ => ?_)) <;> (conv => whnf)) | ((with_reducible refine mt_eq (fun _ => ?_) (fun _ => ?_)) <;> (conv => whnf)) | ((with_reducible refine mt_ne (fun _ => ?_) (fun _ => ?_)) <;> (conv => whnf)) | ((with_reducible refine mt_not (fun _ => ?_) (fun _ => ?_)) <;> (conv => whnf)) | ((with_reducible refine mt_any (fun _ => ?_) (fun _ => ?_)) <;> (conv => whnf)))
            ((with_reducible apply rd_intro); (focus (intro K hK; (conv => whnf); exact ⟨by omega, c.cs, certsD_at hkc, hK⟩)); (conv => whnf))
            repeat' (first | ((with_reducible apply rd_intro); (focus (intro K hK; (conv => whnf); first | exact hK | (intro z hz; rw [wrapI (by omega)] at hz; subst hz; exact hK))); (conv => whnf)) | ((with_reducible apply gd_and); (focus ((conv => whnf) <;> first | rfl | (intro K hK; (conv => whnf); first | exact hK | (intro z hz; rw [wrapI (by omega)] at hz; subst hz; exact hK)))); (conv => whnf)) | ((with_reducible apply z_wrap); (focus omega); (conv => whnf)) | ((with_reducible refine mt_dec (fun _ => ?_) (fun _ => ?_)) <;> (conv => whnf)) | ((with_reducible refine mt_eq (fun _ => ?_) (fun _ => ?_)) <;> (conv => whnf)) | ((with_reducible refine mt_ne (fun _ => ?_) (fun _ => ?_)) <;> (conv => whnf)) | ((with_reducible refine mt_not (fun _ => ?_) (fun _ => ?_)) <;> (conv => whnf)) | ((with_reducible refine mt_any (fun _ => ?_) (fun _ => ?_)) <;> (conv => whnf)))
            · rename_i hx; exact absurd hx (by omega)
            refine ⟨by omega, c.cs, certsD_at hkc, ?_⟩
            conv => whnf
            repeat' (first | ((with_reducible apply rd_intro); (focus (intro K hK; (conv => whnf); first | exact hK | (intro z hz; rw [wrapI (by omega)] at hz; subst hz; exact hK))); (conv => whnf)) | ((with_reducible apply gd_and); (focus ((conv => whnf) <;> first | rfl | (intro K hK; (conv => whnf); first | exact hK | (intro z hz; rw [wrapI (by omega)] at hz; subst hz; exact hK)))); (conv => whnf)) | ((with_reducible apply z_wrap); (focus omega); (conv => whnf)) | ((with_reducible refine mt_dec (fun _ => ?_) (fun _ => ?_)) <;> (conv => whnf)) | ((with_reducible refine mt_eq (fun _ => ?_) (fun _ => ?_)) <;> (conv => whnf)) | ((with_reducible refine mt_ne (fun _ => ?_) (fun _ => ?_)) <;> (conv => whnf)) | ((with_reducible refine mt_not (fun _ => ?_) (fun _ => ?_)) <;> (conv => whnf)) | ((with_reducible refine mt_any (fun _ => ?_) (fun _ => ?_)) <;> (conv => whnf)))
            have hpl := nums_length c.pars
            have hpf := (hv.fewL hcmem).pars
            unfold few at hpf
            refine loop_go ttOk zOk foOk (σ := Nat) (fun m => ([(1, .ptr 0 0), (3, .ptr 1 0), (4, .d (.sl 1 (nums w.outs))), (6, .d (.int .i64 j)), (8, .ptr 2 0), (9, .d (.int .i64 m))], [.cells p.cells, .cells w.c.cells, .cells c.hcells])) (fun m => m ≤ c.pars.length) (fun m => c.pars.length - m) [1, 3, 4, 6, 8, 9] ?_ ?_
            · conv => whnf
              exact ⟨0, rfl, rfl, Nat.zero_le _⟩
            · intro m hm
              conv => whnf
              repeat' (first | ((with_reducible apply rd_intro); (focus (intro K hK; (conv => whnf); first | exact hK | (intro z hz; rw [wrapI (by omega)] at hz; subst hz; exact hK))); (conv => whnf)) | ((with_reducible apply gd_and); (focus ((conv => whnf) <;> first | rfl | (intro K hK; (conv => whnf); first | exact hK | (intro z hz; rw [wrapI (by omega)] at hz; subst hz; exact hK)))); (conv => whnf)) | ((with_reducible apply z_wrap); (focus omega); (conv => whnf)) | ((with_reducible refine mt_dec (fun _ => ?_) (fun _ => ?_)) <;> (conv => whnf)) | ((with_reducible refine mt_eq (fun _ => ?_) (fun _ => ?_)) <;> (conv => whnf)) | ((with_reducible refine mt_ne (fun _ => ?_) (fun _ => ?_)) <;> (conv => whnf)) | ((with_reducible refine mt_not (fun _ => ?_) (fun _ => ?_)) <;> (conv => whnf)) | ((with_reducible refine mt_any (fun _ => ?_) (fun _ => ?_)) <;> (conv => whnf)))
              · rename_i hml hr1
                refine Exists.elim (⟨_, List.getElem?_eq_getElem (by omega)⟩ : ∃ y, c.pars[m]? = some y) fun y hy => ?_
                have hnin2 := inI_not (hon.behind hv h0 hx hc hr1 (List.mem_of_getElem? hy))
                have hin2 := in_ok (w.outs.drop j) (by unfold few; rw [List.length_drop]; omega) y
                rw [hnin2] at hin2
                have hdj : List.drop ((j : Int)).toNat (List.take (((nums w.outs).length : Int)).toNat (nums w.outs)) = nums (w.outs.drop j) := by
                  rw [show ((j : Int)).toNat = j from rfl, show (((nums w.outs).length : Int)).toNat = (nums w.outs).length from rfl, List.take_length, nums_drop]
                ((with_reducible refine draw_pl ttOk zOk foOk mixedOk pl8x16 ?_ ?_); (focus kernel_rfl); (conv => whnf))
                repeat' (first | ((with_reducible apply rd_intro); (focus (intro K hK; (conv => whnf); first | exact hK | (intro z hz; rw [wrapI (by omega)] at hz; subst hz; exact hK))); (conv => whnf)) | ((with_reducible apply gd_and); (focus ((conv => whnf) <;> first | rfl | (intro K hK; (conv => whnf); first | exact hK | (intro z hz; rw [wrapI (by omega)] at hz; subst hz; exact hK)))); (conv => whnf)) | ((with_reducible apply z_wrap); (focus omega); (conv => whnf)) | ((with_reducible refine mt_dec (fun _ => ?_) (fun _ => ?_)) <;> (conv => whnf)) | ((with_reducible refine mt_eq (fun _ => ?_) (fun _ => ?_)) <;> (conv => whnf)) | ((with_reducible refine mt_ne (fun _ => ?_) (fun _ => ?_)) <;> (conv => whnf)) | ((with_reducible refine mt_not (fun _ => ?_) (fun _ => ?_)) <;> (conv => whnf)) | ((with_reducible refine mt_any (fun _ => ?_) (fun _ => ?_)) <;> (conv => whnf)))
                ((with_reducible apply rd_intro); (focus (intro K hK; (conv => whnf); exact ⟨by omega, by omega, by omega, hK⟩)); (conv => whnf))
                repeat' (first | ((with_reducible apply rd_intro); (focus (intro K hK; (conv => whnf); first | exact hK | (intro z hz; rw [wrapI (by omega)] at hz; subst hz; exact hK))); (conv => whnf)) | ((with_reducible apply gd_and); (focus ((conv => whnf) <;> first | rfl | (intro K hK; (conv => whnf); first | exact hK | (intro z hz; rw [wrapI (by omega)] at hz; subst hz; exact hK)))); (conv => whnf)) | ((with_reducible apply z_wrap); (focus omega); (conv => whnf)) | ((with_reducible refine mt_dec (fun _ => ?_) (fun _ => ?_)) <;> (conv => whnf)) | ((with_reducible refine mt_eq (fun _ => ?_) (fun _ => ?_)) <;> (conv => whnf)) | ((with_reducible refine mt_ne (fun _ => ?_) (fun _ => ?_)) <;> (conv => whnf)) | ((with_reducible refine mt_not (fun _ => ?_) (fun _ => ?_)) <;> (conv => whnf)) | ((with_reducible refine mt_any (fun _ => ?_) (fun _ => ?_)) <;> (conv => whnf)))
                ((with_reducible apply rd_intro); (focus (intro K hK; (conv => whnf); exact ⟨by omega, [.int .i64 y], nums_at hy, hK⟩)); (conv => whnf))
                repeat' (first | ((with_reducible apply rd_intro); (focus (intro K hK; (conv => whnf); first | exact hK | (intro z hz; rw [wrapI (by omega)] at hz; subst hz; exact hK))); (conv => whnf)) | ((with_reducible apply gd_and); (focus ((conv => whnf) <;> first | rfl | (intro K hK; (conv => whnf); first | exact hK | (intro z hz; rw [wrapI (by omega)] at hz; subst hz; exact hK)))); (conv => whnf)) | ((with_reducible apply z_wrap); (focus omega); (conv => whnf)) | ((with_reducible refine mt_dec (fun _ => ?_) (fun _ => ?_)) <;> (conv => whnf)) | ((with_reducible refine mt_eq (fun _ => ?_) (fun _ => ?_)) <;> (conv => whnf)) | ((with_reducible refine mt_ne (fun _ => ?_) (fun _ => ?_)) <;> (conv => whnf)) | ((with_reducible refine mt_not (fun _ => ?_) (fun _ => ?_)) <;> (conv => whnf)) | ((with_reducible refine mt_any (fun _ => ?_) (fun _ => ?_)) <;> (conv => whnf)))
                rw [← hdj] at hin2
                refine hin2.mono ?_
                rintro _ _ ⟨rfl, rfl⟩
                conv => whnf
                repeat' (first | ((with_reducible apply rd_intro); (focus (intro K hK; (conv => whnf); first | exact hK | (intro z hz; rw [wrapI (by omega)] at hz; subst hz; exact hK))); (conv => whnf)) | ((with_reducible apply gd_and); (focus ((conv => whnf) <;> first | rfl | (intro K hK; (conv => whnf); first | exact hK | (intro z hz; rw [wrapI (by omega)] at hz; subst hz; exact hK)))); (conv => whnf)) | ((with_reducible apply z_wrap); (focus omega); (conv => whnf)) | ((with_reducible refine mt_dec (fun _ => ?_) (fun _ => ?_)) <;> (conv => whnf)) | ((with_reducible refine mt_eq (fun _ => ?_) (fun _ => ?_)) <;> (conv => whnf)) | ((with_reducible refine mt_ne (fun _ => ?_) (fun _ => ?_)) <;> (conv => whnf)) | ((with_reducible refine mt_not (fun _ => ?_) (fun _ => ?_)) <;> (conv => whnf)) | ((with_reducible refine mt_any (fun _ => ?_) (fun _ => ?_)) <;> (conv => whnf)))
                exact ⟨m + 1, rfl, rfl, by omega, by omega⟩
              all_goals exact ⟨j + 1, rfl, rfl, by omega, by omega⟩
          · refine wakes_ok.mono ?_
            rintro _ _ ⟨rfl, rfl⟩
            conv => whnf
            exact ⟨rfl, rfl⟩
end Go.Proofs.Ytoeppembokpjkaa

/- CursorOnce: for every Ask the law returns true, and its argument reads behind the call as it read before. No condition of ours. -/
namespace Go.Proofs.Ytoeppembokpjkaa
open Go.Ab Go.RowKit Go.ChangeShapes Go.WideShapes Go.ChangeAt
theorem own : ownKnob Try.prog.godebug = none := by kernel_rfl
theorem laidOut : laidOutB Try.prog = true := by kernel_rfl
set_option maxRecDepth 100000 in
theorem cursorOnce_lifted (os : Os) (started : os.Started) (H : Type) (enc : TypeId × Value → H) :
    ReturnsInHanded {} Try.checked os 8 .any (Rows.cursorOnceSpec.pre6 enc Try.prog Try.f8 Rows.cursorOnceRow.domain false) (Rows.cursorOnceSpec.post enc Try.prog Try.f8 false true false false) := by
  refine returnsInHanded_of_change_sized (C := Try.checked) own started (by kernel_rfl) Try.func8
    (ChangeSpec.witness6 (enc := enc) (C := Try.checked) false ⟨#[], #[.agg #[.int .i64 0, .int .i64 0, .slice none 0 0, .slice none 0 0, .slice none 0 0]], []⟩ 8 (by kernel_rfl) (by kernel_rfl) (by kernel_rfl) (by kernel_rfl)) ?_
  intro W base args ds gs before hval hW _ hsz _
  exact law_contract ttOk (f := Try.f8) (tb := 4) (t := 28) rfl rfl Try.underlying4 rfl (fun _ _ => rfl) laidOut (by kernel_rfl) (of_decide_eq_true (by kernel_rfl)) 7 (by kernel_rfl) argS
    (fun W base v ds h1 h2 => argS_ok Try.underlying28 h1 h2)
    (fun ds hd => by
      obtain ⟨p, hp, hok⟩ := ask_of hd
      rw [hp]
      exact cursorOnce_ok p hok) hval hW hsz
theorem cursorOnce_holds : Rows.CursorOnceSaid :=
  OpenClaim.holds_of_wide 8 Try.f8 rfl rfl rfl rfl rfl rfl rfl ⟨rfl, rfl, rfl, rfl, rfl⟩ rfl rfl rfl rfl rfl (by kernel_rfl) Try.func8 (by kernel_rfl)
    (of_decide_eq_true (by kernel_rfl)) (by unfold Func.isWrapper; first | (rw [if_pos (by decide +kernel)]; kernel_rfl) | (rw [if_neg (by decide +kernel)]; exact ⟨rfl, rfl⟩))
    (fun os started H enc _ => cursorOnce_lifted os started H enc)
#print axioms cursorOnce_holds
end Go.Proofs.Ytoeppembokpjkaa
