/- CursorHistory: for every Ask the law returns true, and its argument reads behind the call as it read before. No condition of ours. -/
import Derived.Test.YtoeppembokpjkaaCursorHistoryCodE
import Derived.Test.YtoeppembokpjkaaRows

set_option linter.unusedVariables false
set_option linter.unusedSimpArgs false
namespace Go.Proofs.Ytoeppembokpjkaa
open Go.Ab Go.RowKit
/-! ## nothing twice; each behind its parents -/
theorem rise_mem {d : Dag} (h : Valid d) {i : Nat} {c : Cert} (hi : d.certs[i]? = some c) {low x : Int} (hx : x ∈ riseI d i low) : ∃ cx, certOf d x = some cx ∧ low < cx.round ∧ cx.round ≤ c.round := by
  have h1 : x ∈ downI d i low := List.mem_reverse.1 hx
  have hsub := (down_sub d.low low (d.certs.take (i + 1)).reverse ((d.certs[i]?).toList.map (·.digest))).subset h1
  rw [List.map_reverse, List.mem_reverse] at hsub
  obtain ⟨cx, hcx, rfl⟩ := List.mem_map.1 hsub
  have hm : cx ∈ d.certs := List.mem_of_mem_take hcx
  refine ⟨cx, certOf_mem h.dig hm, ?_, ?_⟩
  · refine Classical.byContradiction fun hno => ?_
    have hall : ∀ {l : List Cert} {ks : List Int}, desc l → (l.map (·.digest)).Nodup → cx ∈ l → cx.digest ∈ downL d.low low l ks → low < cx.round := by
      intro l
      induction l with
      | nil => intro ks _ _ hc _; cases hc
      | cons z r ih =>
        intro ks hd hn hc hdn
        have hd' := List.pairwise_cons.1 hd
        have hn' := List.nodup_cons.1 hn
        rw [downL] at hdn
        split at hdn
        · cases hdn
        · rename_i hz
          rcases List.mem_cons.1 hc with rfl | hc
          · omega
          · have hne : cx.digest ≠ z.digest := fun e => hn'.1 (List.mem_map.2 ⟨cx, hc, e⟩)
            split at hdn
            · rcases List.mem_cons.1 hdn with e | hdn
              · exact absurd e hne
              · exact ih hd'.2 hn'.2 hc hdn
            · exact ih hd'.2 hn'.2 hc hdn
    rw [downI_eq h.sorted h.dig hi] at h1
    exact hno (hall (desc_rev h.sorted) (by rw [List.map_reverse]; exact (List.reverse_perm _).nodup_iff.2 h.dig) (List.mem_reverse.2 hm) h1)
  · obtain ⟨j, hj, rfl⟩ := List.mem_take_iff_getElem.1 hcx
    obtain ⟨hil, rfl⟩ := List.getElem?_eq_some_iff.1 hi
    rcases Nat.lt_or_ge j i with h2 | h2
    · have := before_iff.1 (List.pairwise_iff_getElem.1 h.sorted j i (by omega) hil h2); omega
    · have : j = i := by omega
      subst this; exact Int.le_refl _
/-- by rising places -/
theorem rise_sub (d : Dag) (i : Nat) (low : Int) : (riseI d i low).Sublist (d.certs.map (·.digest)) := by
  have h1 := down_sub d.low low (d.certs.take (i + 1)).reverse ((d.certs[i]?).toList.map (·.digest))
  rw [List.map_reverse] at h1
  have h2 := List.reverse_sublist.2 h1
  rw [List.reverse_reverse] at h2
  exact h2.trans ((List.take_sublist ..).map _)
theorem rise_closed {d : Dag} (h : Valid d) {i : Nat} {c : Cert} (hi : d.certs[i]? = some c) {low : Int} {x p : Cert} (hx : x ∈ d.certs) (hxr : x.digest ∈ riseI d i low) (hx1 : x.round > d.low + 1) (hp : p ∈ d.certs) (hpx : p.digest ∈ x.pars) (hpr : p.round = x.round - 1) (hl : low < p.round) : p.digest ∈ riseI d i low := by
  have h1 : x.digest ∈ downI d i low := List.mem_reverse.1 hxr
  refine List.mem_reverse.2 (show p.digest ∈ downI d i low from ?_)
  rw [downI_eq h.sorted h.dig hi] at h1 ⊢
  exact down_closed (desc_rev h.sorted) (by rw [List.map_reverse]; exact (List.reverse_perm _).nodup_iff.2 h.dig) (List.mem_reverse.2 hx) h1 hx1 (List.mem_reverse.2 hp) hpx hl (by omega)
/-- rounds never fall along the list -/
theorem sub_rounds {d : Dag} (h : Valid d) {l : List Int} (hl : l.Sublist (d.certs.map (·.digest))) : l.Pairwise fun x y => ∀ cx cy, certOf d x = some cx → certOf d y = some cy → cx.round ≤ cy.round := by
  refine List.Pairwise.sublist hl (List.pairwise_map.2 ?_)
  refine List.Pairwise.imp_of_mem ?_ h.sorted
  intro a b ha hb hab ca cb h1 h2
  rw [certOf_mem h.dig ha] at h1
  rw [certOf_mem h.dig hb] at h2
  cases h1; cases h2
  have := before_iff.1 hab
  omega
/-- y is no parent of x -/
def noPar (d : Dag) (x y : Int) : Prop := ∀ c, certOf d x = some c → c.round > 1 → y ∉ c.pars
structure Once (d : Dag) (w : Wk) : Prop where
  digs : ∀ x ∈ w.outs, ∃ c, certOf d x = some c ∧ c.round ≤ w.c.round
  nodup : w.outs.Nodup
  kept : ∀ x ∈ w.outs, ∀ c, certOf d x = some c → c.round > w.c.round - 8 → x ∈ w.c.done
  fresh : ∀ x ∈ w.c.done, x ∈ w.outs
  pars : ∀ x ∈ w.outs, ∀ c, certOf d x = some c → c.round > 1 → ∀ y ∈ c.pars, y ∈ w.outs ∨ ∃ c', certOf d y = some c' ∧ c'.round ≤ w.c.round - 8
  ord : w.outs.Pairwise (noPar d)
theorem parent_cert {d : Dag} (h : Valid d) (h0 : d.low = 0) {c : Cert} (hc : c ∈ d.certs) (hr : c.round > 1) {y : Int} (hy : y ∈ c.pars) : ∃ p, p ∈ d.certs ∧ p.digest = y ∧ certOf d y = some p ∧ p.round = c.round - 1 := by
  obtain ⟨p, h1, h2, h3⟩ := h.here c hc (by rw [h0]; exact hr) y hy
  exact ⟨p, h1, h2, by rw [← h2]; exact certOf_mem h.dig h1, h3⟩
theorem Once.put {d : Dag} (h : Valid d) (h0 : d.low = 0) {w : Wk} (hw : Once d w) {i : Nat} {c : Cert} (hi : d.certs[i]? = some c) (hr : w.c.round < c.round) : Once d (w.put d i c) := by
  have hl : ∀ x ∈ behindI d i c.round w.c.done, ∃ cx, certOf d x = some cx ∧ c.round - 8 < cx.round ∧ cx.round ≤ c.round := fun x hx => rise_mem h hi (List.mem_filter.1 hx).1
  have hnew : ∀ x ∈ behindI d i c.round w.c.done, x ∉ w.outs := by
    intro x hx hxo
    obtain ⟨cx, h1, h2, _⟩ := hl x hx
    exact (behind_nodup h.dig i c.round w.c.done).2 x hx (hw.kept x hxo cx h1 (by omega))
  have hdone : ∀ x, x ∈ (w.put d i c).c.done ↔ (x ∈ w.c.done ∨ x ∈ behindI d i c.round w.c.done) ∧ keepB d c.round x = true := by
    intro x
    show x ∈ sortI (keepI d c.round (w.c.done ++ behindI d i c.round w.c.done)) ↔ _
    rw [sortI, List.mem_mergeSort]
    show x ∈ List.filter _ _ ↔ _
    rw [List.mem_filter, List.mem_append]
  have hkeep : ∀ {x : Int} {cx : Cert}, certOf d x = some cx → cx.round > c.round - 8 → keepB d c.round x = true := by
    intro x cx h1 h2
    show (match certOf d x with | some c' => decide (c'.round > c.round - 8) | none => false) = true
    rw [h1]; exact decide_eq_true h2
  refine ⟨?_, ?_, ?_, ?_, ?_, ?_⟩
  · intro x hx
    show ∃ c' : Cert, certOf d x = some c' ∧ c'.round ≤ c.round
    rcases List.mem_append.1 hx with hx | hx
    · obtain ⟨cx, h1, h2⟩ := hw.digs x hx; exact ⟨cx, h1, by omega⟩
    · obtain ⟨cx, h1, h2, h3⟩ := hl x hx; exact ⟨cx, h1, h3⟩
  · exact List.nodup_append.2 ⟨hw.nodup, (behind_nodup h.dig i c.round w.c.done).1, fun x hx y hy e => hnew y hy (by rw [← e]; exact hx)⟩
  · intro x hx cx h1 h2
    have h2 : cx.round > c.round - 8 := h2
    refine (hdone x).2 ⟨?_, hkeep h1 h2⟩
    rcases List.mem_append.1 hx with hx | hx
    · exact .inl (hw.kept x hx cx h1 (by omega))
    · exact .inr hx
  · intro x hx
    rcases ((hdone x).1 hx).1 with h1 | h1
    · exact List.mem_append_left _ (hw.fresh x h1)
    · exact List.mem_append_right _ h1
  · intro x hx cx h1 h2 y hy
    show _ ∨ ∃ c' : Cert, certOf d y = some c' ∧ c'.round ≤ c.round - 8
    rcases List.mem_append.1 hx with hx | hx
    · rcases hw.pars x hx cx h1 h2 y hy with h3 | ⟨c', h3, h4⟩
      · exact .inl (List.mem_append_left _ h3)
      · exact .inr ⟨c', h3, by omega⟩
    · obtain ⟨hcm, hcd, _⟩ := certOf_some h1
      obtain ⟨p, p1, p2, p3, p4⟩ := parent_cert h h0 hcm h2 hy
      by_cases h5 : p.round ≤ c.round - 8
      · exact .inr ⟨p, p3, h5⟩
      · left
        by_cases h6 : y ∈ w.c.done
        · exact List.mem_append_left _ (hw.fresh y h6)
        · refine List.mem_append_right _ (List.mem_filter.2 ⟨?_, by simpa using h6⟩)
          rw [← p2]
          exact rise_closed h hi hcm (by rw [hcd]; exact (List.mem_filter.1 hx).1) (by rw [h0]; exact h2) p1 (by rw [p2]; exact hy) p4 (by omega)
  · refine List.pairwise_append.2 ⟨hw.ord, ?_, ?_⟩
    · refine List.Pairwise.imp_of_mem ?_ (sub_rounds h (List.filter_sublist.trans (rise_sub d i (c.round - 8))))
      intro x y hx hy hxy cx h1 h2 h3
      obtain ⟨hcm, hcd, _⟩ := certOf_some h1
      obtain ⟨p, p1, p2, p3, p4⟩ := parent_cert h h0 hcm h2 h3
      have := hxy cx p h1 p3
      omega
    · intro x hx y hy cx h1 h2 h3
      rcases hw.pars x hx cx h1 h2 y h3 with h4 | ⟨c', h4, h5⟩
      · exact hnew y hy h4
      · obtain ⟨cy, k1, k2, _⟩ := hl y hy
        rw [h4] at k1; cases k1
        omega
theorem Once.putL {d : Dag} (h : Valid d) (h0 : d.low = 0) : ∀ {l : List Int} {w : Wk}, Once d w → (∀ a ∈ l, ∃ c, certOf d a = some c ∧ w.c.round < c.round) → l.Pairwise (fun x y => roundOf d x < roundOf d y) → Once d (w.putL d l)
  | [], w, hw, _, _ => hw
  | a :: l, w, hw, ha, hp => by
    have hp' := List.pairwise_cons.1 hp
    obtain ⟨c, hc, hr⟩ := ha a (by simp)
    obtain ⟨_, _, i, h1, h2⟩ := certOf_some hc
    show Once d ((w.putA d a).putL d l)
    have e : w.putA d a = w.put d i c := putA_eq h1 h2
    rw [e]
    refine Once.putL h h0 (hw.put h h0 h2 hr) ?_ hp'.2
    intro b hb
    obtain ⟨cb, hcb, _⟩ := ha b (by simp [hb])
    refine ⟨cb, hcb, ?_⟩
    have := hp'.1 b hb
    unfold roundOf at this
    rw [hc, hcb] at this
    exact this
theorem Once.goF {d : Dag} (h : Valid d) (h0 : d.low = 0) : ∀ (n : Nat) (w : Wk), Once d w → 0 ≤ w.c.round → w.c.round % 2 = 0 → Once d (Wk.goF d n w)
  | 0, w, hw, _, _ => hw
  | n + 1, w, hw, h2, h3 => by
    rw [Wk.goF]
    split
    · rename_i hp
      have hsp := nextC_spec h.well h2 h3 hp
      have hall := backI_all h.well hsp.1 hsp.2.2.2.2.1
      have hr : (w.putL d (backI d w.c.round (nextC d w.c.round))).c.round = nextC d w.c.round := putL_round h hsp.2.2.2.2.1 hall.2.2
      refine Once.goF h h0 n _ (hw.putL h h0 ?_ hall.2.1) (by rw [hr]; omega) (by rw [hr]; exact hsp.2.2.2.1)
      intro a ha
      obtain ⟨q, q1, q2, rfl, q3⟩ := hall.1 a ha
      obtain ⟨c, hc, hcr, _⟩ := anchor_cert h.well q3
      exact ⟨c, hc, by omega⟩
    · exact hw
theorem fin_once {d : Dag} (h : Valid d) (h0 : d.low = 0) : Once d (finW d ⟨0, [], 0⟩) :=
  Once.goF h h0 _ ⟨⟨0, [], 0⟩, []⟩ ⟨fun x hx => (by cases hx), List.nodup_nil, fun x hx => (by cases hx), fun x hx => (by cases hx), fun x hx => (by cases hx), List.Pairwise.nil⟩ (by decide) (by decide)
/-- no parent of one stands at it or behind it -/
theorem Once.behind {d : Dag} (h : Valid d) (h0 : d.low = 0) {w : Wk} (hw : Once d w) {i : Nat} {x : Int} (hx : w.outs[i]? = some x) {c : Cert} (hc : certOf d x = some c) (hr : c.round > 1) {y : Int} (hy : y ∈ c.pars) : y ∉ w.outs.drop i := by
  obtain ⟨hil, rfl⟩ := List.getElem?_eq_some_iff.1 hx
  intro hin
  rw [List.drop_eq_getElem_cons hil] at hin
  obtain ⟨hcm, hcd, _⟩ := certOf_some hc
  obtain ⟨p, p1, p2, p3, p4⟩ := parent_cert h h0 hcm hr hy
  rcases List.mem_cons.1 hin with e | hin
  · rw [e, hc] at p3; cases p3; omega
  · obtain ⟨j, hj, e⟩ := List.mem_drop_iff_getElem.1 hin
    exact List.pairwise_iff_getElem.1 hw.ord i (i + 1 + j) hil (by omega) (by omega) c hc hr (by rw [e]; exact hy)
theorem Once.ahead {d : Dag} {w : Wk} (hw : Once d w) {i : Nat} {x : Int} (hx : w.outs[i]? = some x) : x ∉ w.outs.take i := by
  obtain ⟨hil, rfl⟩ := List.getElem?_eq_some_iff.1 hx
  intro hin
  obtain ⟨j, hj, e⟩ := List.mem_take_iff_getElem.1 hin
  exact List.pairwise_iff_getElem.1 hw.nodup j i (by omega) hil (by omega) e
end Go.Proofs.Ytoeppembokpjkaa

namespace Go.Proofs.Ytoeppembokpjkaa
open Go.Ab Go.RowKit Go.MapKept
attribute [local irreducible] ACalls AW ADraw Into fltB fnear
set_option maxRecDepth 100000
/-! ## the page's In; a cursor's Check -/
def inC (l : List Int) (x : Int) : Option Nat := l.findIdx? fun y => decide (y = x)
def inI (l : List Int) (x : Int) : Int := (inC l x).elim (-1) fun i => (i : Int)
theorem inC_no {l : List Int} {x : Int} (h : ∀ c ∈ l, c ≠ x) : inC l x = none := by
  unfold inC
  rw [List.findIdx?_eq_none_iff]
  intro c hc
  simp [h c hc]
theorem inC_here {l : List Int} {x : Int} {j : Nat} (hc : l[j]? = some x) (h : ∀ c ∈ l.take j, c ≠ x) : inC l x = some j := by
  unfold inC
  rw [List.findIdx?_eq_some_iff_getElem]
  obtain ⟨hj, rfl⟩ := List.getElem?_eq_some_iff.1 hc
  refine ⟨hj, by simp, fun i hi => ?_⟩
  have := h l[i] (List.mem_take_iff_getElem.2 ⟨i, by omega, rfl⟩)
  simpa using this
theorem inI_not {l : List Int} {x : Int} (h : x ∉ l) : inI l x = -1 := by
  rw [inI, inC_no (l := l) (x := x) fun c hc e => h (by rw [← e]; exact hc)]; rfl
theorem inI_in {l : List Int} {x : Int} (h : x ∈ l) : 0 ≤ inI l x := by
  unfold inI
  cases hc : inC l x with
  | none =>
    unfold inC at hc
    rw [List.findIdx?_eq_none_iff] at hc
    have := hc x h
    simp at this
  | some i => show (0 : Int) ≤ (i : Int); omega
theorem inI_iff {l : List Int} {x : Int} : inI l x ≥ 0 ↔ x ∈ l := by
  constructor
  · intro h
    refine Classical.byContradiction fun hn => ?_
    rw [inI_not hn] at h; omega
  · exact inI_in
theorem inI_range (l : List Int) (x : Int) : -1 ≤ inI l x ∧ inI l x < max 1 (l.length : Int) := by
  unfold inI
  cases hc : inC l x with
  | none => show (-1 : Int) ≤ -1 ∧ (-1 : Int) < _; omega
  | some i =>
    unfold inC at hc
    rw [List.findIdx?_eq_some_iff_getElem] at hc
    obtain ⟨hj, _⟩ := hc
    show (-1 : Int) ≤ (i : Int) ∧ (i : Int) < _; omega
theorem in_ok (l : List Int) (hl : few l) (x : Int) : ACalls Try.prog 24 [.d (.sl 1 (nums l)), .d (.int .i64 x)] [] (fun av L => av = .d (.int .i64 (inI l x)) ∧ L = []) := by
  have hcl := nums_length l
  unfold few at hl
  refine acalls_go ttOk zOk foOk Try.func24 rfl Try.ntmps24 rfl false rfl ?_
  conv => whnf
  refine loop_go ttOk zOk foOk (σ := Nat) (fun j => ([(0, .d (.sl 1 (nums l))), (1, .d (.int .i64 x)), (5, .d (.int .i64 j))], [])) (fun j => j ≤ l.length ∧ ∀ c ∈ l.take j, c ≠ x) (fun j => l.length - j) [0, 1, 5] ?_ ?_
  · conv => whnf
    exact ⟨0, rfl, rfl, Nat.zero_le _, by simp⟩
  · rintro j ⟨hj, hall⟩
    conv => whnf
    rw [hcl]
    repeat' (first | ((with_reducible apply z_wrap); (focus omega); (conv => whnf)) | ((with_reducible refine mt_dec (fun _ => ?_) (fun _ => ?_)) <;> (conv => whnf)) | ((with_reducible refine mt_eq (fun _ => ?_) (fun _ => ?_)) <;> (conv => whnf)) | ((with_reducible refine mt_ne (fun _ => ?_) (fun _ => ?_)) <;> (conv => whnf)) | ((with_reducible refine mt_not (fun _ => ?_) (fun _ => ?_)) <;> (conv => whnf)) | ((with_reducible refine mt_any (fun _ => ?_) (fun _ => ?_)) <;> (conv => whnf)))
    · rename_i h
      refine Exists.elim (⟨_, List.getElem?_eq_getElem (by omega)⟩ : ∃ c, l[j]? = some c) fun c hc => ?_
      refine ⟨by omega, [.int .i64 c], nums_at hc, ?_⟩
      conv => whnf
      repeat' (first | ((with_reducible apply z_wrap); (focus omega); (conv => whnf)) | ((with_reducible refine mt_dec (fun _ => ?_) (fun _ => ?_)) <;> (conv => whnf)) | ((with_reducible refine mt_eq (fun _ => ?_) (fun _ => ?_)) <;> (conv => whnf)) | ((with_reducible refine mt_ne (fun _ => ?_) (fun _ => ?_)) <;> (conv => whnf)) | ((with_reducible refine mt_not (fun _ => ?_) (fun _ => ?_)) <;> (conv => whnf)) | ((with_reducible refine mt_any (fun _ => ?_) (fun _ => ?_)) <;> (conv => whnf)))
      · rename_i h2
        rw [inI, inC_here (by rw [hc, h2]) hall]
        exact ⟨rfl, rfl⟩
      · rename_i h2
        refine ⟨j + 1, rfl, rfl, ⟨by omega, fun y hy => ?_⟩, by omega⟩
        rw [List.take_add_one, hc] at hy
        rcases List.mem_append.1 hy with hy | hy
        · exact hall y hy
        · simp at hy; rw [hy]; exact h2
    · rename_i h
      rw [List.take_of_length_le (by omega)] at hall
      rw [inI, inC_no hall]
      exact ⟨rfl, rfl⟩
theorem curCheck_ok (c : Cursor) (dn : DV) (hdn : isDone dn c.done) (h : curMay c) : ACalls Try.prog 22 [.agg [.d (.int .i64 c.round), .d dn, .d (.int .i64 c.count)]] [] (fun av L => av = .d (.int .i64 0) ∧ L = []) := by
  have hm := curMay_ok c dn hdn h
  refine acalls_go ttOk zOk foOk Try.func22 rfl Try.ntmps22 rfl false rfl ?_
  conv => whnf
  refine hm.mono ?_
  rintro _ _ ⟨rfl, rfl⟩
  conv => whnf
  exact ⟨rfl, rfl⟩
end Go.Proofs.Ytoeppembokpjkaa

namespace Go.Proofs.Ytoeppembokpjkaa
open Go.Ab Go.RowKit Go.MapKept
attribute [local irreducible] ACalls AW ADraw Into fltB fnear
set_option maxRecDepth 100000
/-! ## the layers 16 and 17 by their public calls -/
theorem anchors_ok (r : Int) (hr : 2 ≤ r ∧ r ≤ 1099511627776) (h2 : r % 2 = 0) : ACalls Try.prog 64 [.d (.int .i64 r)] [] (fun av L => av = .d (.bool true) ∧ L = []) := by
  refine acalls_go ttOk zOk foOk Try.func64 rfl Try.ntmps64 rfl false rfl ?_
  conv => whnf
  repeat' (first | ((with_reducible apply rd_intro); (focus (intro K hK; (conv => whnf); first | exact hK | (intro z hz; rw [wrapI (by omega)] at hz; subst hz; exact hK))); (conv => whnf)) | ((with_reducible apply gd_and); (focus ((conv => whnf) <;> first | rfl | (intro K hK; (conv => whnf); first | exact hK | (intro z hz; rw [wrapI (by omega)] at hz; subst hz; exact hK)))); (conv => whnf)) | ((with_reducible apply z_wrap); (focus omega); (conv => whnf)) | ((with_reducible refine mt_dec (fun _ => ?_) (fun _ => ?_)) <;> (conv => whnf)) | ((with_reducible refine mt_eq (fun _ => ?_) (fun _ => ?_)) <;> (conv => whnf)) | ((with_reducible refine mt_ne (fun _ => ?_) (fun _ => ?_)) <;> (conv => whnf)) | ((with_reducible refine mt_not (fun _ => ?_) (fun _ => ?_)) <;> (conv => whnf)) | ((with_reducible refine mt_any (fun _ => ?_) (fun _ => ?_)) <;> (conv => whnf)))
  · refine ⟨by decide, ?_⟩
    intro z hz
    have hz2 := tmod_pos (by omega) hz
    clear hz
    subst hz2
    rw [h2]
    conv => whnf
    exact ⟨rfl, rfl⟩
  · rename_i h1 h2; exact absurd hr.2 h2
  · rename_i h1; exact absurd hr.1 h1
theorem ask_ok (d : Dag) (h : Valid d) (r : Int) (hr : 2 ≤ r ∧ r ≤ 1099511627776) (h2 : r % 2 = 0) : ACalls Try.prog 42 [d.av, .d (.int .i64 r)] [] (fun av L => av = .d (.bool true) ∧ L = []) := by
  have hm := dagMay_ok d h
  refine acalls_go ttOk zOk foOk Try.func42 rfl Try.ntmps42 rfl false rfl ?_
  conv => whnf
  refine hm.mono ?_
  rintro _ _ ⟨rfl, rfl⟩
  conv => whnf
  refine (anchors_ok r hr h2).mono ?_
  rintro _ _ ⟨rfl, rfl⟩
  conv => whnf
  exact ⟨rfl, rfl⟩
theorem direct_ok (d : Dag) (h : Valid d) (r : Int) (hr : 2 ≤ r ∧ r ≤ 1099511627776) (h2 : r % 2 = 0) : ACalls Try.prog 26 [d.av, .d (.int .i64 r)] [] (fun av L => av = .tup [.d (.bool (settled d r)), .d (.int .i64 0)] ∧ L = []) := by
  have hw := h.well
  have ha := ask_ok d h r hr h2
  refine acalls_go ttOk zOk foOk Try.func26 rfl Try.ntmps26 rfl false rfl ?_
  conv => whnf
  refine ha.mono ?_
  rintro _ _ ⟨rfl, rfl⟩
  conv => whnf
  refine (settled_ok d hw.fit hw.nodes hw.pars r hr).mono ?_
  rintro _ _ ⟨rfl, rfl⟩
  conv => whnf
  exact ⟨rfl, rfl⟩
theorem chain_ok (d : Dag) (h : Valid d) (after r : Int) (ha : 0 ≤ after) (ha2 : after % 2 = 0) (har : after < r) (hr : 2 ≤ r ∧ r ≤ 1099511627776) (h2 : r % 2 = 0) (h0 : anchorI d r ≠ 0) : ACalls Try.prog 27 [d.av, .d (.int .i64 after), .d (.int .i64 r)] [] (fun av L => av = .tup [.d (.sl 1 (nums (backI d after r))), .d (.int .i64 0)] ∧ L = []) := by
  have hw := h.well
  have hask := ask_ok d h r hr h2
  refine acalls_go ttOk zOk foOk Try.func27 rfl Try.ntmps27 rfl false rfl ?_
  conv => whnf
  refine hask.mono ?_
  rintro _ _ ⟨rfl, rfl⟩
  conv => whnf
  repeat' (first | ((with_reducible apply rd_intro); (focus (intro K hK; (conv => whnf); first | exact hK | (intro z hz; rw [wrapI (by omega)] at hz; subst hz; exact hK))); (conv => whnf)) | ((with_reducible apply gd_and); (focus ((conv => whnf) <;> first | rfl | (intro K hK; (conv => whnf); first | exact hK | (intro z hz; rw [wrapI (by omega)] at hz; subst hz; exact hK)))); (conv => whnf)) | ((with_reducible apply z_wrap); (focus omega); (conv => whnf)) | ((with_reducible refine mt_dec (fun _ => ?_) (fun _ => ?_)) <;> (conv => whnf)) | ((with_reducible refine mt_eq (fun _ => ?_) (fun _ => ?_)) <;> (conv => whnf)) | ((with_reducible refine mt_ne (fun _ => ?_) (fun _ => ?_)) <;> (conv => whnf)) | ((with_reducible refine mt_not (fun _ => ?_) (fun _ => ?_)) <;> (conv => whnf)) | ((with_reducible refine mt_any (fun _ => ?_) (fun _ => ?_)) <;> (conv => whnf)))
  · rename_i hx; exact absurd hx (by omega)
  refine ⟨by decide, ?_⟩
  intro z hz
  have hz2 := tmod_pos ha hz
  clear hz
  subst hz2
  rw [ha2]
  conv => whnf
  repeat' (first | ((with_reducible apply rd_intro); (focus (intro K hK; (conv => whnf); first | exact hK | (intro z hz; rw [wrapI (by omega)] at hz; subst hz; exact hK))); (conv => whnf)) | ((with_reducible apply gd_and); (focus ((conv => whnf) <;> first | rfl | (intro K hK; (conv => whnf); first | exact hK | (intro z hz; rw [wrapI (by omega)] at hz; subst hz; exact hK)))); (conv => whnf)) | ((with_reducible apply z_wrap); (focus omega); (conv => whnf)) | ((with_reducible refine mt_dec (fun _ => ?_) (fun _ => ?_)) <;> (conv => whnf)) | ((with_reducible refine mt_eq (fun _ => ?_) (fun _ => ?_)) <;> (conv => whnf)) | ((with_reducible refine mt_ne (fun _ => ?_) (fun _ => ?_)) <;> (conv => whnf)) | ((with_reducible refine mt_not (fun _ => ?_) (fun _ => ?_)) <;> (conv => whnf)) | ((with_reducible refine mt_any (fun _ => ?_) (fun _ => ?_)) <;> (conv => whnf)))
  · rename_i hx; exact absurd hx (by omega)
  refine (anchorOf_ok d hw.fit hw.nodes r ⟨hr.1, by omega⟩).mono ?_
  rintro _ _ ⟨rfl, rfl⟩
  conv => whnf
  repeat' (first | ((with_reducible apply rd_intro); (focus (intro K hK; (conv => whnf); first | exact hK | (intro z hz; rw [wrapI (by omega)] at hz; subst hz; exact hK))); (conv => whnf)) | ((with_reducible apply gd_and); (focus ((conv => whnf) <;> first | rfl | (intro K hK; (conv => whnf); first | exact hK | (intro z hz; rw [wrapI (by omega)] at hz; subst hz; exact hK)))); (conv => whnf)) | ((with_reducible apply z_wrap); (focus omega); (conv => whnf)) | ((with_reducible refine mt_dec (fun _ => ?_) (fun _ => ?_)) <;> (conv => whnf)) | ((with_reducible refine mt_eq (fun _ => ?_) (fun _ => ?_)) <;> (conv => whnf)) | ((with_reducible refine mt_ne (fun _ => ?_) (fun _ => ?_)) <;> (conv => whnf)) | ((with_reducible refine mt_not (fun _ => ?_) (fun _ => ?_)) <;> (conv => whnf)) | ((with_reducible refine mt_any (fun _ => ?_) (fun _ => ?_)) <;> (conv => whnf)))
  · rename_i hx; exact absurd hx h0
  refine (back_ok d hw after r ha har h2 hr h0).mono ?_
  rintro _ _ ⟨rfl, rfl⟩
  conv => whnf
  exact ⟨rfl, rfl⟩
theorem orising_ok (l : List Int) (hl : few l) (h : risingI l) : ACalls Try.prog 46 [.d (.sl 1 (nums l))] [] (fun av L => av = .d (.bool true) ∧ L = []) := by
  have hll := nums_length l
  unfold few at hl
  refine acalls_go ttOk zOk foOk Try.func46 rfl Try.ntmps46 rfl false rfl ?_
  conv => whnf
  refine scope_go ttOk zOk foOk (σ := Nat) (fun j => ([(0, .d (.sl 1 (nums l))), (3, .d (.int .i64 ((j : Int) + 1)))], [])) (fun k j => k = 0 ∧ j ≤ l.length) (fun _ j => l.length - j) ?_ ?_
  · rintro k rest hk j ⟨rfl, hj⟩
    have e := Option.some.inj (show some _ = some rest from hk)
    subst e
    clear hk
    conv => whnf
    repeat' (first | ((with_reducible apply rd_intro); (focus (intro K hK; (conv => whnf); first | exact hK | (intro z hz; rw [wrapI (by omega)] at hz; subst hz; exact hK))); (conv => whnf)) | ((with_reducible apply gd_and); (focus ((conv => whnf) <;> first | rfl | (intro K hK; (conv => whnf); first | exact hK | (intro z hz; rw [wrapI (by omega)] at hz; subst hz; exact hK)))); (conv => whnf)) | ((with_reducible apply z_wrap); (focus omega); (conv => whnf)) | ((with_reducible refine mt_dec (fun _ => ?_) (fun _ => ?_)) <;> (conv => whnf)) | ((with_reducible refine mt_eq (fun _ => ?_) (fun _ => ?_)) <;> (conv => whnf)) | ((with_reducible refine mt_ne (fun _ => ?_) (fun _ => ?_)) <;> (conv => whnf)) | ((with_reducible refine mt_not (fun _ => ?_) (fun _ => ?_)) <;> (conv => whnf)) | ((with_reducible refine mt_any (fun _ => ?_) (fun _ => ?_)) <;> (conv => whnf)))
    · exact ⟨rfl, rfl⟩
    · rename_i hjl
      obtain ⟨y, hy⟩ : ∃ y, l[j]? = some y := ⟨_, List.getElem?_eq_getElem (by omega)⟩
      obtain ⟨x, hx⟩ : ∃ x, l[j + 1]? = some x := ⟨_, List.getElem?_eq_getElem (by omega)⟩
      have hyx : y < x := by
        obtain ⟨h1, rfl⟩ := List.getElem?_eq_some_iff.1 hy
        obtain ⟨h2, rfl⟩ := List.getElem?_eq_some_iff.1 hx
        exact List.pairwise_iff_getElem.1 h j (j + 1) h1 h2 (by omega)
      ((with_reducible refine draw_pl ttOk zOk foOk mixedOk pl46x4 ?_ ?_); (focus kernel_rfl); (conv => whnf))
      repeat' (first | ((with_reducible apply rd_intro); (focus (intro K hK; (conv => whnf); first | exact hK | (intro z hz; rw [wrapI (by omega)] at hz; subst hz; exact hK))); (conv => whnf)) | ((with_reducible apply gd_and); (focus ((conv => whnf) <;> first | rfl | (intro K hK; (conv => whnf); first | exact hK | (intro z hz; rw [wrapI (by omega)] at hz; subst hz; exact hK)))); (conv => whnf)) | ((with_reducible apply z_wrap); (focus omega); (conv => whnf)) | ((with_reducible refine mt_dec (fun _ => ?_) (fun _ => ?_)) <;> (conv => whnf)) | ((with_reducible refine mt_eq (fun _ => ?_) (fun _ => ?_)) <;> (conv => whnf)) | ((with_reducible refine mt_ne (fun _ => ?_) (fun _ => ?_)) <;> (conv => whnf)) | ((with_reducible refine mt_not (fun _ => ?_) (fun _ => ?_)) <;> (conv => whnf)) | ((with_reducible refine mt_any (fun _ => ?_) (fun _ => ?_)) <;> (conv => whnf)))
      ((with_reducible apply rd_intro); (focus (intro K hK; (conv => whnf); exact ⟨by omega, [.int .i64 y], (by rw [show ((j : Int) + 1 - 1).toNat = j by omega]; exact nums_at hy), hK⟩)); (conv => whnf))
      repeat' (first | ((with_reducible apply rd_intro); (focus (intro K hK; (conv => whnf); first | exact hK | (intro z hz; rw [wrapI (by omega)] at hz; subst hz; exact hK))); (conv => whnf)) | ((with_reducible apply gd_and); (focus ((conv => whnf) <;> first | rfl | (intro K hK; (conv => whnf); first | exact hK | (intro z hz; rw [wrapI (by omega)] at hz; subst hz; exact hK)))); (conv => whnf)) | ((with_reducible apply z_wrap); (focus omega); (conv => whnf)) | ((with_reducible refine mt_dec (fun _ => ?_) (fun _ => ?_)) <;> (conv => whnf)) | ((with_reducible refine mt_eq (fun _ => ?_) (fun _ => ?_)) <;> (conv => whnf)) | ((with_reducible refine mt_ne (fun _ => ?_) (fun _ => ?_)) <;> (conv => whnf)) | ((with_reducible refine mt_not (fun _ => ?_) (fun _ => ?_)) <;> (conv => whnf)) | ((with_reducible refine mt_any (fun _ => ?_) (fun _ => ?_)) <;> (conv => whnf)))
      ((with_reducible apply rd_intro); (focus (intro K hK; (conv => whnf); exact ⟨by omega, [.int .i64 x], (by rw [show ((j : Int) + 1).toNat = j + 1 by omega]; exact nums_at hx), hK⟩)); (conv => whnf))
      repeat' (first | ((with_reducible apply rd_intro); (focus (intro K hK; (conv => whnf); first | exact hK | (intro z hz; rw [wrapI (by omega)] at hz; subst hz; exact hK))); (conv => whnf)) | ((with_reducible apply gd_and); (focus ((conv => whnf) <;> first | rfl | (intro K hK; (conv => whnf); first | exact hK | (intro z hz; rw [wrapI (by omega)] at hz; subst hz; exact hK)))); (conv => whnf)) | ((with_reducible apply z_wrap); (focus omega); (conv => whnf)) | ((with_reducible refine mt_dec (fun _ => ?_) (fun _ => ?_)) <;> (conv => whnf)) | ((with_reducible refine mt_eq (fun _ => ?_) (fun _ => ?_)) <;> (conv => whnf)) | ((with_reducible refine mt_ne (fun _ => ?_) (fun _ => ?_)) <;> (conv => whnf)) | ((with_reducible refine mt_not (fun _ => ?_) (fun _ => ?_)) <;> (conv => whnf)) | ((with_reducible refine mt_any (fun _ => ?_) (fun _ => ?_)) <;> (conv => whnf)))
      · refine into_of [0, 3] ?_
        conv => whnf
        exact ⟨j + 1, rfl, rfl, ⟨rfl, by omega⟩, by show l.length - (j + 1) < l.length - j; omega⟩
      · rename_i hx; exact absurd hyx hx
  · intro pass
    conv => whnf
    refine aw_at (σ := Unit) (fun _ => ([(0, .d (.sl 1 (nums l))), (3, .d (.int .i64 1))], [])) (fun _ => True) [0, 3] ?_ ?_
    · conv => whnf
      exact ⟨(), rfl, rfl, trivial⟩
    · intro _ _
      exact pass 0 _ rfl 0 ⟨rfl, Nat.zero_le _⟩
theorem order_ok (d : Dag) (h : Valid d) (h0 : d.low = 0) {i : Nat} {c : Cert} (hg : getC d.certs c.digest = some i) (hc : d.certs[i]? = some c) (done : List Int) (hdl : few done) (hdr : risingI done) : ACalls Try.prog 28 [d.av, .d (.int .i64 c.digest), .d (.sl 1 (nums done))] [] (fun av L => av = .tup [.d (.sl 1 (nums (behindI d i c.round done))), .d (.int .i64 0)] ∧ L = []) := by
  have hw := h.well
  have hlen := h.len
  have hcl := certsD_length d.certs
  have hcr := (h.certs c (List.mem_of_getElem? hc)).head.round
  have hil := (List.getElem?_eq_some_iff.1 hc).1
  have hgi : getI d.certs c.digest = i := by rw [getI, hg]; rfl
  have hm := dagMay_ok d h
  refine acalls_go ttOk zOk foOk Try.func28 rfl Try.ntmps28 rfl false rfl ?_
  conv => whnf
  refine hm.mono ?_
  rintro _ _ ⟨rfl, rfl⟩
  conv => whnf
  refine (orising_ok done hdl hdr).mono ?_
  rintro _ _ ⟨rfl, rfl⟩
  conv => whnf
  repeat' (first | ((with_reducible apply rd_intro); (focus (intro K hK; (conv => whnf); first | exact hK | (intro z hz; rw [wrapI (by omega)] at hz; subst hz; exact hK))); (conv => whnf)) | ((with_reducible apply gd_and); (focus ((conv => whnf) <;> first | rfl | (intro K hK; (conv => whnf); first | exact hK | (intro z hz; rw [wrapI (by omega)] at hz; subst hz; exact hK)))); (conv => whnf)) | ((with_reducible apply z_wrap); (focus omega); (conv => whnf)) | ((with_reducible refine mt_dec (fun _ => ?_) (fun _ => ?_)) <;> (conv => whnf)) | ((with_reducible refine mt_eq (fun _ => ?_) (fun _ => ?_)) <;> (conv => whnf)) | ((with_reducible refine mt_ne (fun _ => ?_) (fun _ => ?_)) <;> (conv => whnf)) | ((with_reducible refine mt_not (fun _ => ?_) (fun _ => ?_)) <;> (conv => whnf)) | ((with_reducible refine mt_any (fun _ => ?_) (fun _ => ?_)) <;> (conv => whnf)))
  refine (get_ok d hw.fit.few c.digest).mono ?_
  rintro _ _ ⟨rfl, rfl⟩
  rw [hgi]
  conv => whnf
  repeat' (first | ((with_reducible apply rd_intro); (focus (intro K hK; (conv => whnf); first | exact hK | (intro z hz; rw [wrapI (by omega)] at hz; subst hz; exact hK))); (conv => whnf)) | ((with_reducible apply gd_and); (focus ((conv => whnf) <;> first | rfl | (intro K hK; (conv => whnf); first | exact hK | (intro z hz; rw [wrapI (by omega)] at hz; subst hz; exact hK)))); (conv => whnf)) | ((with_reducible apply z_wrap); (focus omega); (conv => whnf)) | ((with_reducible refine mt_dec (fun _ => ?_) (fun _ => ?_)) <;> (conv => whnf)) | ((with_reducible refine mt_eq (fun _ => ?_) (fun _ => ?_)) <;> (conv => whnf)) | ((with_reducible refine mt_ne (fun _ => ?_) (fun _ => ?_)) <;> (conv => whnf)) | ((with_reducible refine mt_not (fun _ => ?_) (fun _ => ?_)) <;> (conv => whnf)) | ((with_reducible refine mt_any (fun _ => ?_) (fun _ => ?_)) <;> (conv => whnf)))
  ((with_reducible refine draw_pl ttOk zOk foOk mixedOk pl28x6 ?_ ?_); (focus kernel_rfl); (conv => whnf))
  repeat' (first | ((with_reducible apply rd_intro); (focus (intro K hK; (conv => whnf); first | exact hK | (intro z hz; rw [wrapI (by omega)] at hz; subst hz; exact hK))); (conv => whnf)) | ((with_reducible apply gd_and); (focus ((conv => whnf) <;> first | rfl | (intro K hK; (conv => whnf); first | exact hK | (intro z hz; rw [wrapI (by omega)] at hz; subst hz; exact hK)))); (conv => whnf)) | ((with_reducible apply z_wrap); (focus omega); (conv => whnf)) | ((with_reducible refine mt_dec (fun _ => ?_) (fun _ => ?_)) <;> (conv => whnf)) | ((with_reducible refine mt_eq (fun _ => ?_) (fun _ => ?_)) <;> (conv => whnf)) | ((with_reducible refine mt_ne (fun _ => ?_) (fun _ => ?_)) <;> (conv => whnf)) | ((with_reducible refine mt_not (fun _ => ?_) (fun _ => ?_)) <;> (conv => whnf)) | ((with_reducible refine mt_any (fun _ => ?_) (fun _ => ?_)) <;> (conv => whnf)))
  ((with_reducible apply rd_intro); (focus (intro K hK; (conv => whnf); exact ⟨by omega, c.cs, certsD_at hc, hK⟩)); (conv => whnf))
  repeat' (first | ((with_reducible apply rd_intro); (focus (intro K hK; (conv => whnf); first | exact hK | (intro z hz; rw [wrapI (by omega)] at hz; subst hz; exact hK))); (conv => whnf)) | ((with_reducible apply gd_and); (focus ((conv => whnf) <;> first | rfl | (intro K hK; (conv => whnf); first | exact hK | (intro z hz; rw [wrapI (by omega)] at hz; subst hz; exact hK)))); (conv => whnf)) | ((with_reducible apply z_wrap); (focus omega); (conv => whnf)) | ((with_reducible refine mt_dec (fun _ => ?_) (fun _ => ?_)) <;> (conv => whnf)) | ((with_reducible refine mt_eq (fun _ => ?_) (fun _ => ?_)) <;> (conv => whnf)) | ((with_reducible refine mt_ne (fun _ => ?_) (fun _ => ?_)) <;> (conv => whnf)) | ((with_reducible refine mt_not (fun _ => ?_) (fun _ => ?_)) <;> (conv => whnf)) | ((with_reducible refine mt_any (fun _ => ?_) (fun _ => ?_)) <;> (conv => whnf)))
  · rename_i hx; exact absurd hx (by omega)
  refine (behind_ok d hw.len hw.pars hw.low i hc ⟨by omega, by omega⟩ done hdl hdr).mono ?_
  rintro _ _ ⟨rfl, rfl⟩
  conv => whnf
  exact ⟨rfl, rfl⟩
theorem rTop_ok (d : Dag) (hd : few d.certs) : ACalls Try.prog 25 [d.av] [] (fun av L => av = .d (.int .i64 (topR d.certs)) ∧ L = []) := by
  have hcl := certsD_length d.certs
  unfold few at hd
  refine acalls_go ttOk zOk foOk Try.func25 rfl Try.ntmps25 rfl false rfl ?_
  conv => whnf
  repeat' (first | ((with_reducible apply rd_intro); (focus (intro K hK; (conv => whnf); first | exact hK | (intro z hz; rw [wrapI (by omega)] at hz; subst hz; exact hK))); (conv => whnf)) | ((with_reducible apply gd_and); (focus ((conv => whnf) <;> first | rfl | (intro K hK; (conv => whnf); first | exact hK | (intro z hz; rw [wrapI (by omega)] at hz; subst hz; exact hK)))); (conv => whnf)) | ((with_reducible apply z_wrap); (focus omega); (conv => whnf)) | ((with_reducible refine mt_dec (fun _ => ?_) (fun _ => ?_)) <;> (conv => whnf)) | ((with_reducible refine mt_eq (fun _ => ?_) (fun _ => ?_)) <;> (conv => whnf)) | ((with_reducible refine mt_ne (fun _ => ?_) (fun _ => ?_)) <;> (conv => whnf)) | ((with_reducible refine mt_not (fun _ => ?_) (fun _ => ?_)) <;> (conv => whnf)) | ((with_reducible refine mt_any (fun _ => ?_) (fun _ => ?_)) <;> (conv => whnf)))
  · rename_i hx
    have : d.certs = [] := List.eq_nil_of_length_eq_zero (by omega)
    rw [this]
    exact ⟨rfl, rfl⟩
  · rename_i hx
    obtain ⟨c, hc⟩ : ∃ c, d.certs[d.certs.length - 1]? = some c := ⟨_, List.getElem?_eq_getElem (by omega)⟩
    refine ⟨by omega, c.cs, (by rw [show (((certsD d.certs).length : Int) - 1).toNat = d.certs.length - 1 by omega]; exact certsD_at hc), ?_⟩
    conv => whnf
    have : topR d.certs = c.round := by
      unfold topR
      rw [List.getLast?_eq_getElem?, hc]; rfl
    rw [this]
    exact ⟨rfl, rfl⟩
end Go.Proofs.Ytoeppembokpjkaa

namespace Go.Proofs.Ytoeppembokpjkaa
open Go.Ab Go.RowKit Go.MapKept
attribute [local irreducible] ACalls AW ADraw Into fltB fnear
set_option maxRecDepth 100000
/-! ## the page's With, of a number that is not there -/
theorem copyNumbers_row (xs : List Int) (hm : tiny xs) : ACalls Try.prog 21 [.d (.sl 1 (nums xs))] [] (fun av L => av = .arr 0 ∧ L = [.row 3 1 (nums xs) false]) := by
  have hx := nums_length xs
  unfold tiny at hm
  refine acalls_go ttOk zOk foOk Try.func21 rfl Try.ntmps21 rfl true rfl ?_
  conv => whnf
  refine loop_go ttOk zOk foOk (σ := Nat) (fun k => ([(0, .d (.sl 1 (nums xs))), (3, .arr 0), (4, .d (.int .i64 k))], [.row 3 1 (nums (xs.take k)) false])) (fun k => k ≤ xs.length) (fun k => xs.length - k) [0, 3, 4] ?_ ?_
  · conv => whnf
    exact ⟨0, rfl, rfl, by omega⟩
  · intro k hk
    conv => whnf
    rw [hx]
    repeat' (first | ((with_reducible apply z_wrap); (focus omega); (conv => whnf)) | ((with_reducible refine mt_dec (fun _ => ?_) (fun _ => ?_)) <;> (conv => whnf)) | ((with_reducible refine mt_eq (fun _ => ?_) (fun _ => ?_)) <;> (conv => whnf)) | ((with_reducible refine mt_ne (fun _ => ?_) (fun _ => ?_)) <;> (conv => whnf)) | ((with_reducible refine mt_not (fun _ => ?_) (fun _ => ?_)) <;> (conv => whnf)) | ((with_reducible refine mt_any (fun _ => ?_) (fun _ => ?_)) <;> (conv => whnf)))
    · rename_i h
      refine Exists.elim (⟨_, List.getElem?_eq_getElem (by omega)⟩ : ∃ a, xs[k]? = some a) fun a ha => ?_
      have hkn := nums_length (xs.take k)
      refine ⟨by omega, [.int .i64 a], nums_at ha, ?_⟩
      conv => whnf
      repeat' (first | ((with_reducible apply z_wrap); (focus omega); (conv => whnf)) | ((with_reducible refine mt_dec (fun _ => ?_) (fun _ => ?_)) <;> (conv => whnf)) | ((with_reducible refine mt_eq (fun _ => ?_) (fun _ => ?_)) <;> (conv => whnf)) | ((with_reducible refine mt_ne (fun _ => ?_) (fun _ => ?_)) <;> (conv => whnf)) | ((with_reducible refine mt_not (fun _ => ?_) (fun _ => ?_)) <;> (conv => whnf)) | ((with_reducible refine mt_any (fun _ => ?_) (fun _ => ?_)) <;> (conv => whnf)))
      refine ⟨by simp [hkn]; omega, ?_⟩
      conv => whnf
      repeat' (first | ((with_reducible apply z_wrap); (focus omega); (conv => whnf)) | ((with_reducible refine mt_dec (fun _ => ?_) (fun _ => ?_)) <;> (conv => whnf)) | ((with_reducible refine mt_eq (fun _ => ?_) (fun _ => ?_)) <;> (conv => whnf)) | ((with_reducible refine mt_ne (fun _ => ?_) (fun _ => ?_)) <;> (conv => whnf)) | ((with_reducible refine mt_not (fun _ => ?_) (fun _ => ?_)) <;> (conv => whnf)) | ((with_reducible refine mt_any (fun _ => ?_) (fun _ => ?_)) <;> (conv => whnf)))
      refine ⟨k + 1, rfl, ?_, by omega, by omega⟩
      rw [List.take_add_one, ha, ← nums_apps]
      rfl
    · rename_i h
      rw [List.take_of_length_le (by omega)]
      exact ⟨rfl, rfl⟩
theorem nums_take' (l : List Int) (n : Nat) : (nums l).take n = nums (l.take n) := by simp [nums]
theorem nums_drop' (l : List Int) (n : Nat) : (nums l).drop n = nums (l.drop n) := by simp [nums]
def insI (l : List Int) (n : Int) : List Int := l.filter (fun x => decide (x < n)) ++ n :: l.filter (fun x => !decide (x < n))
theorem insI_at {l : List Int} {n : Int} {i : Nat} (h1 : ∀ x ∈ l.take i, x < n) (h2 : ∀ x ∈ l.drop i, ¬ x < n) : insI l n = l.take i ++ n :: l.drop i := by
  have e : l = l.take i ++ l.drop i := (List.take_append_drop ..).symm
  unfold insI
  conv => lhs; rw [e]
  rw [List.filter_append, List.filter_append, List.filter_eq_self.2 (by simpa using h1), List.filter_eq_nil_iff.2 (by simpa using h2), List.filter_eq_nil_iff.2 (fun x hx => by simp [h1 x hx]), List.filter_eq_self.2 (fun x hx => by simp [h2 x hx]), List.append_nil, List.nil_append]
theorem insI_mem {l : List Int} {n x : Int} : x ∈ insI l n ↔ x ∈ l ∨ x = n := by
  unfold insI
  rw [List.mem_append, List.mem_cons, List.mem_filter, List.mem_filter]
  by_cases h : x < n <;> simp [h] <;> constructor <;> rintro (h1 | h1) <;> simp [h1]
theorem insI_rising {l : List Int} {n : Int} (h : risingI l) (hn : n ∉ l) : risingI (insI l n) := by
  unfold insI
  refine List.pairwise_append.2 ⟨h.sublist List.filter_sublist, List.pairwise_cons.2 ⟨fun y hy => ?_, h.sublist List.filter_sublist⟩, fun x hx y hy => ?_⟩
  · have h1 := List.mem_filter.1 hy
    have h2 : ¬ y < n := by simpa using h1.2
    have h3 : y ≠ n := fun e => hn (by rw [← e]; exact h1.1)
    omega
  · have h1 : x < n := by simpa using (List.mem_filter.1 hx).2
    rcases List.mem_cons.1 hy with rfl | hy
    · exact h1
    · have h2 : ¬ y < n := by simpa using (List.mem_filter.1 hy).2
      omega
theorem filt_len {α : Type} (p : α → Bool) : ∀ l : List α, (l.filter p).length + (l.filter fun x => !p x).length = l.length
  | [] => rfl
  | x :: l => by
    have ih := filt_len p l
    rw [List.filter_cons, List.filter_cons]
    cases hp : p x <;> simp <;> omega
theorem insI_len (l : List Int) (n : Int) : (insI l n).length = l.length + 1 := by
  unfold insI
  rw [List.length_append, List.length_cons]
  have := filt_len (fun x => decide (x < n)) l
  omega
theorem with_ok (l : List Int) (hl : tiny l) (hs : risingI l) (n : Int) (hn : n ∉ l) : ACalls Try.prog 29 [.d (.sl 1 (nums l)), .d (.int .i64 n)] [] (fun av L => av = .d (.sl 1 (nums (insI l n))) ∧ L = []) := by
  have hll := nums_length l
  have hin := in_ok l (by unfold few; unfold tiny at hl; omega) n
  rw [inI_not hn] at hin
  unfold tiny at hl
  refine acalls_go ttOk zOk foOk Try.func29 rfl Try.ntmps29 rfl false rfl ?_
  conv => whnf
  refine hin.mono ?_
  rintro _ _ ⟨rfl, rfl⟩
  conv => whnf
  repeat' (first | ((with_reducible apply z_wrap); (focus omega); (conv => whnf)) | ((with_reducible refine mt_dec (fun _ => ?_) (fun _ => ?_)) <;> (conv => whnf)) | ((with_reducible refine mt_eq (fun _ => ?_) (fun _ => ?_)) <;> (conv => whnf)) | ((with_reducible refine mt_ne (fun _ => ?_) (fun _ => ?_)) <;> (conv => whnf)) | ((with_reducible refine mt_not (fun _ => ?_) (fun _ => ?_)) <;> (conv => whnf)) | ((with_reducible refine mt_any (fun _ => ?_) (fun _ => ?_)) <;> (conv => whnf)))
  refine loop_go ttOk zOk foOk (σ := Nat) (fun i => ([(0, .d (.sl 1 (nums l))), (1, .d (.int .i64 n)), (5, .d (.int .i64 i))], [])) (fun i => i ≤ l.length ∧ ∀ x ∈ l.take i, x < n) (fun i => l.length - i) [0, 1, 5] ?_ ?_
  · conv => whnf
    exact ⟨0, rfl, rfl, Nat.zero_le _, by simp⟩
  · rintro i ⟨hi, hall⟩
    have hdj : List.drop (Int.toNat 0) (List.take ((i : Int)).toNat (nums l)) = nums (l.take i) := by
      rw [show ((i : Int)).toNat = i from rfl, show Int.toNat 0 = 0 from rfl, List.drop_zero, nums_take']
    have hdj2 : List.drop ((i : Int)).toNat (List.take (((nums l).length : Int)).toNat (nums l)) = nums (l.drop i) := by
      rw [show ((i : Int)).toNat = i from rfl, show (((nums l).length : Int)).toNat = (nums l).length from rfl, List.take_length, nums_drop']
    have hcp : ACalls Try.prog 21 [.d (.sl 1 (List.drop (Int.toNat 0) (List.take ((i : Int)).toNat (nums l))))] [] (fun av L => av = .arr 0 ∧ L = [.row 3 1 (nums (l.take i)) false]) := by
      rw [hdj]
      exact copyNumbers_row _ (by unfold tiny; have := List.length_take_le' i l; omega)
    have hlt := List.length_take_le' i l
    have hld : (l.drop i).length ≤ l.length := by rw [List.length_drop]; omega
    conv => whnf
    repeat' (first | ((with_reducible apply z_wrap); (focus omega); (conv => whnf)) | ((with_reducible refine mt_dec (fun _ => ?_) (fun _ => ?_)) <;> (conv => whnf)) | ((with_reducible refine mt_eq (fun _ => ?_) (fun _ => ?_)) <;> (conv => whnf)) | ((with_reducible refine mt_ne (fun _ => ?_) (fun _ => ?_)) <;> (conv => whnf)) | ((with_reducible refine mt_not (fun _ => ?_) (fun _ => ?_)) <;> (conv => whnf)) | ((with_reducible refine mt_any (fun _ => ?_) (fun _ => ?_)) <;> (conv => whnf)))
    · rename_i hil
      refine Exists.elim (⟨_, List.getElem?_eq_getElem (by omega)⟩ : ∃ y, l[i]? = some y) fun y hy => ?_
      refine ⟨by omega, [.int .i64 y], nums_at hy, ?_⟩
      conv => whnf
      repeat' (first | ((with_reducible apply z_wrap); (focus omega); (conv => whnf)) | ((with_reducible refine mt_dec (fun _ => ?_) (fun _ => ?_)) <;> (conv => whnf)) | ((with_reducible refine mt_eq (fun _ => ?_) (fun _ => ?_)) <;> (conv => whnf)) | ((with_reducible refine mt_ne (fun _ => ?_) (fun _ => ?_)) <;> (conv => whnf)) | ((with_reducible refine mt_not (fun _ => ?_) (fun _ => ?_)) <;> (conv => whnf)) | ((with_reducible refine mt_any (fun _ => ?_) (fun _ => ?_)) <;> (conv => whnf)))
      · rename_i hyn
        refine ⟨i + 1, rfl, rfl, ⟨by omega, fun x hx => ?_⟩, by omega⟩
        rw [List.take_add_one, hy] at hx
        rcases List.mem_append.1 hx with hx | hx
        · exact hall x hx
        · simp at hx; rw [hx]; exact hyn
      · rename_i hyn
        have hge : ∀ x ∈ l.drop i, ¬ x < n := by
          intro x hx
          obtain ⟨h1, rfl⟩ := List.getElem?_eq_some_iff.1 hy
          obtain ⟨j, hj, rfl⟩ := List.mem_drop_iff_getElem.1 hx
          rcases Nat.eq_zero_or_pos j with rfl | h2
          · simpa using hyn
          · have := List.pairwise_iff_getElem.1 hs i (i + j) h1 (by omega) (by omega)
            omega
        rw [insI_at hall hge]
        refine ⟨by omega, by omega, by omega, ?_⟩
        conv => whnf
        refine hcp.mono ?_
        rintro _ _ ⟨rfl, rfl⟩
        conv => whnf
        refine ⟨by rw [nums_length, List.length_singleton]; show (_ + 1) * 8 ≤ _; omega, ?_⟩
        conv => whnf
        rw [nums_app]
        refine ⟨by omega, by omega, by omega, ?_⟩
        conv => whnf
        refine ⟨by rw [hdj2, nums_length, nums_length, List.length_append, List.length_singleton]; show (_ + 1 + _) * 8 ≤ _; omega, ?_⟩
        conv => whnf
        refine ⟨?_, rfl⟩
        rw [hdj2, nums_apps, List.append_assoc]
        rfl
    · rename_i hil
      have hge : ∀ x ∈ l.drop i, ¬ x < n := by
        intro x hx
        rw [List.drop_of_length_le (by omega)] at hx
        cases hx
      rw [insI_at hall hge]
      refine ⟨by omega, by omega, by omega, ?_⟩
      conv => whnf
      refine hcp.mono ?_
      rintro _ _ ⟨rfl, rfl⟩
      conv => whnf
      refine ⟨by rw [nums_length, List.length_singleton]; show (_ + 1) * 8 ≤ _; omega, ?_⟩
      conv => whnf
      rw [nums_app]
      refine ⟨by omega, by omega, by omega, ?_⟩
      conv => whnf
      refine ⟨by rw [hdj2, nums_length, nums_length, List.length_append, List.length_singleton]; show (_ + 1 + _) * 8 ≤ _; omega, ?_⟩
      conv => whnf
      refine ⟨?_, rfl⟩
      rw [hdj2, nums_apps, List.append_assoc]
      rfl
end Go.Proofs.Ytoeppembokpjkaa

namespace Go.Proofs.Ytoeppembokpjkaa
open Go.Ab Go.RowKit
/-! ## anchor by anchor -/
/-- with all that was put out in place of what is kept it is the same -/
theorem Once.behind_all {d : Dag} (h : Valid d) {w : Wk} (hw : Once d w) {i : Nat} {c : Cert} (hi : d.certs[i]? = some c) (hr : w.c.round < c.round) {done : List Int} (hdn : ∀ x, x ∈ done ↔ x ∈ w.outs) : behindI d i c.round done = behindI d i c.round w.c.done := by
  refine List.filter_congr fun x hx => ?_
  obtain ⟨cx, h1, h2, _⟩ := rise_mem h hi hx
  congr 1
  refine decide_eq_decide.2 ?_
  rw [hdn]
  exact ⟨fun h3 => hw.kept x h3 cx h1 (by omega), hw.fresh x⟩
/-- settled rounds that were passed by -/
def quiet (d : Dag) (after r : Int) : Prop := ∀ q, after < q → q < r → q % 2 = 0 → settled d q = false
theorem next_is {d : Dag} (h : Valid d) (h0 : d.low = 0) {after r : Int} (ha : 0 ≤ after) (ha2 : after % 2 = 0) (hr : after < r) (hr2 : r % 2 = 0) (hs : settled d r = true) (hq : quiet d after r) : nextC d after = r := by
  obtain ⟨h1, h2⟩ := nextR_le h hs (after + 2) (by omega) (by omega) (by omega)
  rw [← nextC_low h0 ha] at h1 h2
  have hsp := nextC_spec h.well ha ha2 h1
  rcases Int.lt_or_eq_of_le h2 with h3 | h3
  · have := hq _ hsp.1 h3 hsp.2.2.2.1
    rw [hsp.2.2.1] at this; cases this
  · exact h3
theorem next_no {d : Dag} (h : Valid d) (h0 : d.low = 0) {after r : Int} (ha : 0 ≤ after) (ha2 : after % 2 = 0) (hq : quiet d after r) (hr : topR d.certs < r) : ¬ nextC d after > 0 := by
  intro hp
  have hsp := nextC_spec h.well ha ha2 hp
  have := hq _ hsp.1 (by omega) hsp.2.2.2.1
  rw [hsp.2.2.1] at this; cases this
/-- where the law stands: at a round -/
structure Hist (d : Dag) (fin : Wk) (w : Wk) (done : List Int) : Prop where
  once : Once d w
  okay : w.okay d
  rise : risingI done
  mem : ∀ x, x ∈ done ↔ x ∈ w.outs
structure HistR (d : Dag) (fin : Wk) (w : Wk) (done : List Int) (r : Int) : Prop where
  hist : Hist d fin w done
  even : r % 2 = 0
  evenW : w.c.round % 2 = 0
  pos : 0 ≤ w.c.round
  lo : w.c.round < r
  runs : run d w = fin
  quiet : quiet d w.c.round r
theorem Hist.len {d : Dag} {fin w : Wk} {done : List Int} (h : Hist d fin w done) (hw : d.well) : done.length ≤ 4294967296 := by
  have h1 := h.okay.outs' hw
  have h2 := sub_len (rising_nodup h.rise) fun x hx => (h.mem x).1 hx
  omega
theorem quiet_on {d : Dag} {after r : Int} (h : quiet d after r) (hr : r % 2 = 0) (hs : settled d r = false) : quiet d after (r + 2) := by
  intro q h1 h2 h3
  by_cases h4 : q < r
  · exact h q h1 h4 h3
  · rw [show q = r by omega]; exact hs
theorem quiet_new {d : Dag} {r : Int} (hr : r % 2 = 0) : quiet d r (r + 2) := by
  intro q h1 h2 h3
  omega
theorem HistR.step {d : Dag} (h : Valid d) (h0 : d.low = 0) {fin w : Wk} {done : List Int} {r : Int} (hh : HistR d fin w done r) (hs : settled d r = true) : nextC d w.c.round = r ∧ anchorI d r ≠ 0 ∧ (w.putL d (backI d w.c.round r)).c.round = r ∧ run d (w.putL d (backI d w.c.round r)) = fin := by
  have hn := next_is h h0 hh.pos hh.evenW hh.lo hh.even hs hh.quiet
  have hp : nextC d w.c.round > 0 := by rw [hn]; have := hh.pos; have := hh.lo; omega
  have hsp := nextC_spec h.well hh.pos hh.evenW hp
  have hrs := run_step h hh.pos hh.evenW hp
  rw [hn] at hsp hrs
  exact ⟨hn, hsp.2.2.2.2.1, putL_round h hsp.2.2.2.2.1 (backI_all h.well hh.lo hsp.2.2.2.2.1).2.2, hrs.symm.trans hh.runs⟩
theorem HistR.fin {d : Dag} (h : Valid d) (h0 : d.low = 0) {fin w : Wk} {done : List Int} {r : Int} (hh : HistR d fin w done r) (hr : topR d.certs < r) : fin = w := by
  have hn := next_no h h0 hh.pos hh.evenW hh.quiet hr
  rw [← hh.runs]
  exact goF_end hn _
/-- an anchor of the chain -/
theorem chain_at {d : Dag} (h : Valid d) {fin w : Wk} {done : List Int} {r : Int} (hh : HistR d fin w done r) (h0 : anchorI d r ≠ 0) {j : Nat} {x : Int} (hx : (backI d w.c.round r)[j]? = some x) : ∃ c i, getC d.certs c.digest = some i ∧ d.certs[i]? = some c ∧ c.digest = x ∧ (w.putL d ((backI d w.c.round r).take j)).c.round < c.round ∧ w.putL d ((backI d w.c.round r).take (j + 1)) = (w.putL d ((backI d w.c.round r).take j)).put d i c := by
  obtain ⟨g1, g2, g3⟩ := backI_all h.well hh.lo h0
  obtain ⟨q, q1, q2, rfl, q3⟩ := g1 x (List.mem_of_getElem? hx)
  obtain ⟨c, hc, hcr, _⟩ := anchor_cert h.well q3
  obtain ⟨hcm, hcd, i, hi1, hi2⟩ := certOf_some hc
  refine ⟨c, i, by rw [hcd]; exact hi1, hi2, hcd, ?_, ?_⟩
  · cases j with
    | zero => show w.c.round < c.round; omega
    | succ j =>
      have hjl := (List.getElem?_eq_some_iff.1 hx).1
      obtain ⟨y, hy⟩ : ∃ y, (backI d w.c.round r)[j]? = some y := ⟨_, List.getElem?_eq_getElem (by omega)⟩
      obtain ⟨q', p1, p2, rfl, p3⟩ := g1 y (List.mem_of_getElem? hy)
      have e : (backI d w.c.round r).take (j + 1) = (backI d w.c.round r).take j ++ [anchorI d q'] := by rw [List.take_add_one, hy]; rfl
      have hr := putL_round h (w := w) (l := (backI d w.c.round r).take (j + 1)) p3 (by rw [e]; simp)
      rw [hr]
      have hlt : roundOf d (anchorI d q') < roundOf d (anchorI d q) := by
        obtain ⟨a1, a2⟩ := List.getElem?_eq_some_iff.1 hx
        obtain ⟨b1, b2⟩ := List.getElem?_eq_some_iff.1 hy
        rw [← a2, ← b2]
        exact List.pairwise_iff_getElem.1 g2 j (j + 1) b1 a1 (by omega)
      rw [anchor_round h.well p3, anchor_round h.well q3] at hlt
      omega
  · rw [List.take_add_one, hx]
    show w.putL d (_ ++ [anchorI d q]) = _
    rw [putL_app]
    exact putA_eq hi1 hi2
theorem Hist.put {d : Dag} (h : Valid d) (h0 : d.low = 0) {fin w : Wk} {done done' : List Int} (hh : Hist d fin w done) {i : Nat} {c : Cert} (hi : d.certs[i]? = some c) (hr : w.c.round < c.round) (hrise : risingI done') (hmem : ∀ x, x ∈ done' ↔ x ∈ done ∨ x ∈ behindI d i c.round w.c.done) : Hist d fin (w.put d i c) done' := by
  refine ⟨hh.once.put h h0 hi hr, hh.okay.put h.well hi hr, hrise, fun x => ?_⟩
  rw [hmem, hh.mem]
  show _ ↔ x ∈ w.outs ++ _
  rw [List.mem_append]
end Go.Proofs.Ytoeppembokpjkaa

namespace Go.Proofs.Ytoeppembokpjkaa
open Go.Ab Go.RowKit Go.MapKept
attribute [local irreducible] ACalls AW ADraw Into fltB fnear
set_option maxRecDepth 100000
def histSt (p : AskG) (fin : Wk) : Wk × List Int × Int → AF × List AB
  | (w, done, r) => ([(1, .ptr 0 0), (3, .ptr 1 0), (4, .d (.sl 1 (nums fin.outs))), (6, .d (.sl 1 (nums done))), (7, .arr 2), (8, .d (.int .i64 w.c.round)), (9, .d (.int .i64 (topR p.d.certs))), (10, .d (.int .i64 r))], [.cells p.cells, .cells fin.c.cells, .row 3 1 (nums w.outs) false])
def histC (p : AskG) (fin w : Wk) (r : Int) (l : List Int) : List Int × Nat → AF × List AB
  | (done, j) => ([(1, .ptr 0 0), (3, .ptr 1 0), (4, .d (.sl 1 (nums fin.outs))), (6, .d (.sl 1 (nums done))), (7, .arr 2), (8, .d (.int .i64 w.c.round)), (9, .d (.int .i64 (topR p.d.certs))), (10, .d (.int .i64 r)), (13, .d (.sl 1 (nums l))), (15, .d (.int .i64 j))], [.cells p.cells, .cells fin.c.cells, .row 3 1 (nums (w.putL p.d (l.take j)).outs) false])
def histL (p : AskG) (fin : Wk) (wr r : Int) (l os l2 : List Int) (j : Nat) : List Int × Nat → AF × List AB
  | (done, k) => ([(1, .ptr 0 0), (3, .ptr 1 0), (4, .d (.sl 1 (nums fin.outs))), (6, .d (.sl 1 (nums done))), (7, .arr 2), (8, .d (.int .i64 wr)), (9, .d (.int .i64 (topR p.d.certs))), (10, .d (.int .i64 r)), (13, .d (.sl 1 (nums l))), (15, .d (.int .i64 j)), (16, .d (.sl 1 (nums l2))), (18, .d (.int .i64 k))], [.cells p.cells, .cells fin.c.cells, .row 3 1 (nums os) false])
set_option maxHeartbeats 1000000 in
theorem cursorHistory_ok (p : AskG) (hp : p.ok) : ACalls Try.prog 9 [p.av] [] (fun av L => av = .d (.bool true) ∧ L = []) := by
  have hcl := certsD_length p.d.certs
  refine acalls_go ttOk zOk foOk Try.func9 rfl Try.ntmps9 rfl false rfl ?_
  conv => whnf
  refine (heavy_ok p hp).mono ?_
  rintro _ _ ⟨⟨b, rfl, hb⟩, rfl⟩
  cases b with
  | true =>
    conv => whnf
    exact ⟨rfl, rfl⟩
  | false =>
    obtain ⟨hl80, hi60⟩ := hb rfl
    conv => whnf
    refine (rMayDag_ok p.d hp.d).mono ?_
    rintro _ _ ⟨⟨b, rfl, hv⟩, rfl⟩
    cases b with
    | false =>
      conv => whnf
      exact ⟨rfl, rfl⟩
    | true =>
      replace hv := hv rfl
      conv => whnf
      repeat' (first | ((with_reducible apply rd_intro); (focus (intro K hK; (conv => whnf); first | exact hK | (intro z hz; rw [wrapI (by omega)] at hz; subst hz; exact hK))); (conv => whnf)) | ((with_reducible apply gd_and); (focus ((conv => whnf) <;> first | rfl | (intro K hK; (conv => whnf); first | exact hK | (intro z hz; rw [wrapI (by omega)] at hz; subst hz; exact hK)))); (conv => whnf)) | ((with_reducible apply z_wrap); (focus omega); (conv => whnf)) | ((with_reducible refine mt_dec (fun _ => ?_) (fun _ => ?_)) <;> (conv => whnf)) | ((with_reducible refine mt_eq (fun _ => ?_) (fun _ => ?_)) <;> (conv => whnf)) | ((with_reducible refine mt_ne (fun _ => ?_) (fun _ => ?_)) <;> (conv => whnf)) | ((with_reducible refine mt_not (fun _ => ?_) (fun _ => ?_)) <;> (conv => whnf)) | ((with_reducible refine mt_any (fun _ => ?_) (fun _ => ?_)) <;> (conv => whnf)))
      · exact ⟨rfl, rfl⟩
      · rename_i h0
        replace h0 : p.d.low = 0 := by omega
        have hlen := hv.len
        have hwl := hv.well
        have htop := hwl.top
        have hfl := fin_len hv
        refine (any_data p.d hv h0 c0 .nils (.inl ⟨rfl, rfl⟩) c0_may).mono ?_
        rintro _ _ ⟨rfl, rfl⟩
        rw [Wk.out]
        have hst : HistR p.d (finW p.d c0) ⟨c0, []⟩ [] 2 := ⟨⟨⟨fun x hx => (by cases hx), List.nodup_nil, fun x hx => (by cases hx), fun x hx => (by cases hx), fun x hx => (by cases hx), List.Pairwise.nil⟩, start_okay c0_may, List.Pairwise.nil, fun x => Iff.rfl⟩, rfl, rfl, by decide, by decide, rfl, fun q h1 h2 h3 => by have h1 : 0 < q := h1; omega⟩
        obtain ⟨fin, hw⟩ : ∃ w, finW p.d c0 = w := ⟨_, rfl⟩
        rw [hw] at hfl hst ⊢
        clear hw
        have hnl := nums_length fin.outs
        conv => whnf
        refine (num_ok 0).mono ?_
        rintro _ _ ⟨rfl, rfl⟩
        conv => whnf
        repeat' (first | ((with_reducible apply rd_intro); (focus (intro K hK; (conv => whnf); first | exact hK | (intro z hz; rw [wrapI (by omega)] at hz; subst hz; exact hK))); (conv => whnf)) | ((with_reducible apply gd_and); (focus ((conv => whnf) <;> first | rfl | (intro K hK; (conv => whnf); first | exact hK | (intro z hz; rw [wrapI (by omega)] at hz; subst hz; exact hK)))); (conv => whnf)) | ((with_reducible apply z_wrap); (focus omega); (conv => whnf)) | ((with_reducible refine mt_dec (fun _ => ?_) (fun _ => ?_)) <;> (conv => whnf)) | ((with_reducible refine mt_eq (fun _ => ?_) (fun _ => ?_)) <;> (conv => whnf)) | ((with_reducible refine mt_ne (fun _ => ?_) (fun _ => ?_)) <;> (conv => whnf)) | ((with_reducible refine mt_not (fun _ => ?_) (fun _ => ?_)) <;> (conv => whnf)) | ((with_reducible refine mt_any (fun _ => ?_) (fun _ => ?_)) <;> (conv => whnf)))
        refine (rTop_ok p.d hwl.fit.few).mono ?_
        rintro _ _ ⟨rfl, rfl⟩
        conv => whnf
        refine aw_seal 6 ?_
        conv => whnf
        refine loop_go ttOk zOk foOk (σ := Wk × List Int × Int) (histSt p fin) (fun s => HistR p.d fin s.1 s.2.1 s.2.2) (fun s => (topR p.d.certs + 4 - s.2.2).toNat) [1, 3, 4, 6, 7, 8, 9, 10] ?_ ?_
        · conv => whnf
          exact ⟨(⟨c0, []⟩, [], 2), rfl, rfl, hst⟩
        · rintro ⟨w, done, r⟩ hh
          replace hh : HistR p.d fin w done r := hh
          have hrp := hh.pos
          have hrl := hh.lo
          conv => whnf
          repeat' (first | ((with_reducible apply rd_intro); (focus (intro K hK; (conv => whnf); first | exact hK | (intro z hz; rw [wrapI (by omega)] at hz; subst hz; exact hK))); (conv => whnf)) | ((with_reducible apply gd_and); (focus ((conv => whnf) <;> first | rfl | (intro K hK; (conv => whnf); first | exact hK | (intro z hz; rw [wrapI (by omega)] at hz; subst hz; exact hK)))); (conv => whnf)) | ((with_reducible apply z_wrap); (focus omega); (conv => whnf)) | ((with_reducible refine mt_dec (fun _ => ?_) (fun _ => ?_)) <;> (conv => whnf)) | ((with_reducible refine mt_eq (fun _ => ?_) (fun _ => ?_)) <;> (conv => whnf)) | ((with_reducible refine mt_ne (fun _ => ?_) (fun _ => ?_)) <;> (conv => whnf)) | ((with_reducible refine mt_not (fun _ => ?_) (fun _ => ?_)) <;> (conv => whnf)) | ((with_reducible refine mt_any (fun _ => ?_) (fun _ => ?_)) <;> (conv => whnf)))
          · rename_i hrt
            refine (direct_ok p.d hv r ⟨by have := hh.even; omega, by omega⟩ hh.even).mono ?_
            rintro _ _ ⟨rfl, rfl⟩
            cases hsr : settled p.d r with
            | false =>
              conv => whnf
              refine (num_ok 0).mono ?_
              rintro _ _ ⟨rfl, rfl⟩
              conv => whnf
              repeat' (first | ((with_reducible apply rd_intro); (focus (intro K hK; (conv => whnf); first | exact hK | (intro z hz; rw [wrapI (by omega)] at hz; subst hz; exact hK))); (conv => whnf)) | ((with_reducible apply gd_and); (focus ((conv => whnf) <;> first | rfl | (intro K hK; (conv => whnf); first | exact hK | (intro z hz; rw [wrapI (by omega)] at hz; subst hz; exact hK)))); (conv => whnf)) | ((with_reducible apply z_wrap); (focus omega); (conv => whnf)) | ((with_reducible refine mt_dec (fun _ => ?_) (fun _ => ?_)) <;> (conv => whnf)) | ((with_reducible refine mt_eq (fun _ => ?_) (fun _ => ?_)) <;> (conv => whnf)) | ((with_reducible refine mt_ne (fun _ => ?_) (fun _ => ?_)) <;> (conv => whnf)) | ((with_reducible refine mt_not (fun _ => ?_) (fun _ => ?_)) <;> (conv => whnf)) | ((with_reducible refine mt_any (fun _ => ?_) (fun _ => ?_)) <;> (conv => whnf)))
              exact ⟨(w, done, r + 2), rfl, rfl, ⟨hh.hist, by have := hh.even; show (r + 2) % 2 = 0; omega, hh.evenW, hh.pos, by show w.c.round < r + 2; omega, hh.runs, quiet_on hh.quiet hh.even hsr⟩, by show (topR p.d.certs + 4 - (r + 2)).toNat < (topR p.d.certs + 4 - r).toNat; omega⟩
            | true =>
              conv => whnf
              refine (num_ok 0).mono ?_
              rintro _ _ ⟨rfl, rfl⟩
              conv => whnf
              repeat' (first | ((with_reducible apply rd_intro); (focus (intro K hK; (conv => whnf); first | exact hK | (intro z hz; rw [wrapI (by omega)] at hz; subst hz; exact hK))); (conv => whnf)) | ((with_reducible apply gd_and); (focus ((conv => whnf) <;> first | rfl | (intro K hK; (conv => whnf); first | exact hK | (intro z hz; rw [wrapI (by omega)] at hz; subst hz; exact hK)))); (conv => whnf)) | ((with_reducible apply z_wrap); (focus omega); (conv => whnf)) | ((with_reducible refine mt_dec (fun _ => ?_) (fun _ => ?_)) <;> (conv => whnf)) | ((with_reducible refine mt_eq (fun _ => ?_) (fun _ => ?_)) <;> (conv => whnf)) | ((with_reducible refine mt_ne (fun _ => ?_) (fun _ => ?_)) <;> (conv => whnf)) | ((with_reducible refine mt_not (fun _ => ?_) (fun _ => ?_)) <;> (conv => whnf)) | ((with_reducible refine mt_any (fun _ => ?_) (fun _ => ?_)) <;> (conv => whnf)))
              obtain ⟨hn1, hn2, hn3, hn4⟩ := hh.step hv h0 hsr
              refine (chain_ok p.d hv w.c.round r hrp hh.evenW hrl ⟨by have := hh.even; omega, by omega⟩ hh.even hn2).mono ?_
              rintro _ _ ⟨rfl, rfl⟩
              have hba := backI_all hwl hrl hn2
              have hchl := (show Chain p.d w (backI p.d w.c.round r) from ⟨by rw [hn1]; exact hba.1, hba.2.1, by rw [hn1]; exact hba.2.2⟩).len hwl
              clear hba
              have hca := fun {j : Nat} {x : Int} => chain_at hv hh hn2 (j := j) (x := x)
              obtain ⟨l, hl⟩ : ∃ l, backI p.d w.c.round r = l := ⟨_, rfl⟩
              rw [hl] at hca hn3 hn4 hchl ⊢
              have hll := nums_length l
              conv => whnf
              refine (num_ok 0).mono ?_
              rintro _ _ ⟨rfl, rfl⟩
              conv => whnf
              repeat' (first | ((with_reducible apply rd_intro); (focus (intro K hK; (conv => whnf); first | exact hK | (intro z hz; rw [wrapI (by omega)] at hz; subst hz; exact hK))); (conv => whnf)) | ((with_reducible apply gd_and); (focus ((conv => whnf) <;> first | rfl | (intro K hK; (conv => whnf); first | exact hK | (intro z hz; rw [wrapI (by omega)] at hz; subst hz; exact hK)))); (conv => whnf)) | ((with_reducible apply z_wrap); (focus omega); (conv => whnf)) | ((with_reducible refine mt_dec (fun _ => ?_) (fun _ => ?_)) <;> (conv => whnf)) | ((with_reducible refine mt_eq (fun _ => ?_) (fun _ => ?_)) <;> (conv => whnf)) | ((with_reducible refine mt_ne (fun _ => ?_) (fun _ => ?_)) <;> (conv => whnf)) | ((with_reducible refine mt_not (fun _ => ?_) (fun _ => ?_)) <;> (conv => whnf)) | ((with_reducible refine mt_any (fun _ => ?_) (fun _ => ?_)) <;> (conv => whnf)))
              refine loop_go ttOk zOk foOk (σ := List Int × Nat) (histC p fin w r l) (fun s => s.2 ≤ l.length ∧ Hist p.d fin (w.putL p.d (l.take s.2)) s.1) (fun s => l.length - s.2) [1, 3, 4, 6, 7, 8, 9, 10, 13, 15] ?_ ?_
              · conv => whnf
                exact ⟨(done, 0), rfl, rfl, Nat.zero_le _, hh.hist⟩
              · rintro ⟨dn, j⟩ ⟨hj, hjh⟩
                replace hj : j ≤ l.length := hj
                replace hjh : Hist p.d fin (w.putL p.d (l.take j)) dn := hjh
                conv => whnf
                repeat' (first | ((with_reducible apply rd_intro); (focus (intro K hK; (conv => whnf); first | exact hK | (intro z hz; rw [wrapI (by omega)] at hz; subst hz; exact hK))); (conv => whnf)) | ((with_reducible apply gd_and); (focus ((conv => whnf) <;> first | rfl | (intro K hK; (conv => whnf); first | exact hK | (intro z hz; rw [wrapI (by omega)] at hz; subst hz; exact hK)))); (conv => whnf)) | ((with_reducible apply z_wrap); (focus omega); (conv => whnf)) | ((with_reducible refine mt_dec (fun _ => ?_) (fun _ => ?_)) <;> (conv => whnf)) | ((with_reducible refine mt_eq (fun _ => ?_) (fun _ => ?_)) <;> (conv => whnf)) | ((with_reducible refine mt_ne (fun _ => ?_) (fun _ => ?_)) <;> (conv => whnf)) | ((with_reducible refine mt_not (fun _ => ?_) (fun _ => ?_)) <;> (conv => whnf)) | ((with_reducible refine mt_any (fun _ => ?_) (fun _ => ?_)) <;> (conv => whnf)))
                · rename_i hjl
                  refine Exists.elim (⟨_, List.getElem?_eq_getElem (by omega)⟩ : ∃ x, l[j]? = some x) fun x hx => ?_
                  refine Exists.elim (@hca j x hx) fun c hca1 => Exists.elim hca1 fun i hca2 => ?_
                  have hg := hca2.1
                  have hc := hca2.2.1
                  have hcd := hca2.2.2.1
                  have hcr := hca2.2.2.2.1
                  have hnx := hca2.2.2.2.2
                  clear hca1 hca2
                  have hdl := hjh.len hwl
                  have hdc := hjh.once.fresh
                  have hor := order_ok p.d hv h0 hg hc dn (by unfold few; omega) hjh.rise
                  have hbn := behind_nodup hv.dig i c.round (w.putL p.d (l.take j)).c.done
                  have hba := hjh.once.behind_all hv hc hcr hjh.mem
                  have hpu := fun {d2 : List Int} => hjh.put hv h0 (done' := d2) hc hcr
                  have hno : ∀ y ∈ behindI p.d i c.round (w.putL p.d (l.take j)).c.done, y ∉ dn := by
                    intro y hy
                    rw [← hba] at hy
                    exact (behind_nodup hv.dig i c.round dn).2 y hy
                  have hfl2 := (hjh.okay.put hwl hc hcr).outs' hwl
                  rw [hba] at hor
                  rw [hcd] at hor
                  have hoe : ((w.putL p.d (l.take j)).put p.d i c).outs = (w.putL p.d (l.take j)).outs ++ behindI p.d i c.round (w.putL p.d (l.take j)).c.done := rfl
                  rw [← hnx] at hoe hfl2 hpu
                  refine Exists.elim (⟨_, rfl⟩ : ∃ l2, behindI p.d i c.round (w.putL p.d (l.take j)).c.done = l2) fun l2 hl2 => ?_
                  rw [hl2] at hor hbn hno hoe hpu
                  have hl2l := nums_length l2
                  have hol := congrArg List.length hoe
                  rw [List.length_append] at hol
                  ((with_reducible refine draw_pl ttOk zOk foOk mixedOk pl9x23 ?_ ?_); (focus kernel_rfl); (conv => whnf))
                  repeat' (first | ((with_reducible apply rd_intro); (focus (intro K hK; (conv => whnf); first | exact hK | (intro z hz; rw [wrapI (by omega)] at hz; subst hz; exact hK))); (conv => whnf)) | ((with_reducible apply gd_and); (focus ((conv => whnf) <;> first | rfl | (intro K hK; (conv => whnf); first | exact hK | (intro z hz; rw [wrapI (by omega)] at hz; subst hz; exact hK)))); (conv => whnf)) | ((with_reducible apply z_wrap); (focus omega); (conv => whnf)) | ((with_reducible refine mt_dec (fun _ => ?_) (fun _ => ?_)) <;> (conv => whnf)) | ((with_reducible refine mt_eq (fun _ => ?_) (fun _ => ?_)) <;> (conv => whnf)) | ((with_reducible refine mt_ne (fun _ => ?_) (fun _ => ?_)) <;> (conv => whnf)) | ((with_reducible refine mt_not (fun _ => ?_) (fun _ => ?_)) <;> (conv => whnf)) | ((with_reducible refine mt_any (fun _ => ?_) (fun _ => ?_)) <;> (conv => whnf)))
                  ((with_reducible apply rd_intro); (focus (intro K hK; (conv => whnf); exact ⟨by omega, [.int .i64 x], nums_at hx, hK⟩)); (conv => whnf))
                  repeat' (first | ((with_reducible apply rd_intro); (focus (intro K hK; (conv => whnf); first | exact hK | (intro z hz; rw [wrapI (by omega)] at hz; subst hz; exact hK))); (conv => whnf)) | ((with_reducible apply gd_and); (focus ((conv => whnf) <;> first | rfl | (intro K hK; (conv => whnf); first | exact hK | (intro z hz; rw [wrapI (by omega)] at hz; subst hz; exact hK)))); (conv => whnf)) | ((with_reducible apply z_wrap); (focus omega); (conv => whnf)) | ((with_reducible refine mt_dec (fun _ => ?_) (fun _ => ?_)) <;> (conv => whnf)) | ((with_reducible refine mt_eq (fun _ => ?_) (fun _ => ?_)) <;> (conv => whnf)) | ((with_reducible refine mt_ne (fun _ => ?_) (fun _ => ?_)) <;> (conv => whnf)) | ((with_reducible refine mt_not (fun _ => ?_) (fun _ => ?_)) <;> (conv => whnf)) | ((with_reducible refine mt_any (fun _ => ?_) (fun _ => ?_)) <;> (conv => whnf)))
                  refine hor.mono ?_
                  rintro _ _ ⟨rfl, rfl⟩
                  conv => whnf
                  repeat' (first | ((with_reducible apply rd_intro); (focus (intro K hK; (conv => whnf); first | exact hK | (intro z hz; rw [wrapI (by omega)] at hz; subst hz; exact hK))); (conv => whnf)) | ((with_reducible apply gd_and); (focus ((conv => whnf) <;> first | rfl | (intro K hK; (conv => whnf); first | exact hK | (intro z hz; rw [wrapI (by omega)] at hz; subst hz; exact hK)))); (conv => whnf)) | ((with_reducible apply z_wrap); (focus omega); (conv => whnf)) | ((with_reducible refine mt_dec (fun _ => ?_) (fun _ => ?_)) <;> (conv => whnf)) | ((with_reducible refine mt_eq (fun _ => ?_) (fun _ => ?_)) <;> (conv => whnf)) | ((with_reducible refine mt_ne (fun _ => ?_) (fun _ => ?_)) <;> (conv => whnf)) | ((with_reducible refine mt_not (fun _ => ?_) (fun _ => ?_)) <;> (conv => whnf)) | ((with_reducible refine mt_any (fun _ => ?_) (fun _ => ?_)) <;> (conv => whnf)))
                  refine (num_ok 0).mono ?_
                  rintro _ _ ⟨rfl, rfl⟩
                  conv => whnf
                  repeat' (first | ((with_reducible apply rd_intro); (focus (intro K hK; (conv => whnf); first | exact hK | (intro z hz; rw [wrapI (by omega)] at hz; subst hz; exact hK))); (conv => whnf)) | ((with_reducible apply gd_and); (focus ((conv => whnf) <;> first | rfl | (intro K hK; (conv => whnf); first | exact hK | (intro z hz; rw [wrapI (by omega)] at hz; subst hz; exact hK)))); (conv => whnf)) | ((with_reducible apply z_wrap); (focus omega); (conv => whnf)) | ((with_reducible refine mt_dec (fun _ => ?_) (fun _ => ?_)) <;> (conv => whnf)) | ((with_reducible refine mt_eq (fun _ => ?_) (fun _ => ?_)) <;> (conv => whnf)) | ((with_reducible refine mt_ne (fun _ => ?_) (fun _ => ?_)) <;> (conv => whnf)) | ((with_reducible refine mt_not (fun _ => ?_) (fun _ => ?_)) <;> (conv => whnf)) | ((with_reducible refine mt_any (fun _ => ?_) (fun _ => ?_)) <;> (conv => whnf)))
                  refine loop_go ttOk zOk foOk (σ := List Int × Nat) (histL p fin w.c.round r l (w.putL p.d (l.take j)).outs l2 j) (fun s => s.2 ≤ l2.length ∧ risingI s.1 ∧ ∀ x, x ∈ s.1 ↔ x ∈ dn ∨ x ∈ l2.take s.2) (fun s => l2.length - s.2) [1, 3, 4, 6, 7, 8, 9, 10, 13, 15, 16, 18] ?_ ?_
                  · conv => whnf
                    exact ⟨(dn, 0), rfl, rfl, Nat.zero_le _, hjh.rise, fun x => by simp⟩
                  · rintro ⟨d2, k⟩ ⟨hk, hd2, hm2⟩
                    replace hk : k ≤ l2.length := hk
                    replace hd2 : risingI d2 := hd2
                    replace hm2 : ∀ x, x ∈ d2 ↔ x ∈ dn ∨ x ∈ l2.take k := hm2
                    conv => whnf
                    repeat' (first | ((with_reducible apply rd_intro); (focus (intro K hK; (conv => whnf); first | exact hK | (intro z hz; rw [wrapI (by omega)] at hz; subst hz; exact hK))); (conv => whnf)) | ((with_reducible apply gd_and); (focus ((conv => whnf) <;> first | rfl | (intro K hK; (conv => whnf); first | exact hK | (intro z hz; rw [wrapI (by omega)] at hz; subst hz; exact hK)))); (conv => whnf)) | ((with_reducible apply z_wrap); (focus omega); (conv => whnf)) | ((with_reducible refine mt_dec (fun _ => ?_) (fun _ => ?_)) <;> (conv => whnf)) | ((with_reducible refine mt_eq (fun _ => ?_) (fun _ => ?_)) <;> (conv => whnf)) | ((with_reducible refine mt_ne (fun _ => ?_) (fun _ => ?_)) <;> (conv => whnf)) | ((with_reducible refine mt_not (fun _ => ?_) (fun _ => ?_)) <;> (conv => whnf)) | ((with_reducible refine mt_any (fun _ => ?_) (fun _ => ?_)) <;> (conv => whnf)))
                    · rename_i hkl
                      refine Exists.elim (⟨_, List.getElem?_eq_getElem (by omega)⟩ : ∃ y, l2[k]? = some y) fun y hy => ?_
                      have hyn : y ∉ d2 := by
                        rw [hm2]
                        rintro (h1 | h1)
                        · exact hno y (List.mem_of_getElem? hy) h1
                        · obtain ⟨hkl2, rfl⟩ := List.getElem?_eq_some_iff.1 hy
                          obtain ⟨m, hm, e⟩ := List.mem_take_iff_getElem.1 h1
                          exact List.pairwise_iff_getElem.1 hbn.1 m k (by omega) hkl2 (by omega) e
                      have hd2l : d2.length ≤ 1099511627776 := by
                        have := sub_len (m := dn ++ l2.take k) (rising_nodup hd2) fun x hx => List.mem_append.2 ((hm2 x).1 hx)
                        rw [List.length_append] at this
                        have := List.length_take_le' k l2
                        omega
                      refine ⟨by omega, [.int .i64 y], nums_at hy, ?_⟩
                      conv => whnf
                      refine (with_ok d2 hd2l hd2 y hyn).mono ?_
                      rintro _ _ ⟨rfl, rfl⟩
                      conv => whnf
                      repeat' (first | ((with_reducible apply rd_intro); (focus (intro K hK; (conv => whnf); first | exact hK | (intro z hz; rw [wrapI (by omega)] at hz; subst hz; exact hK))); (conv => whnf)) | ((with_reducible apply gd_and); (focus ((conv => whnf) <;> first | rfl | (intro K hK; (conv => whnf); first | exact hK | (intro z hz; rw [wrapI (by omega)] at hz; subst hz; exact hK)))); (conv => whnf)) | ((with_reducible apply z_wrap); (focus omega); (conv => whnf)) | ((with_reducible refine mt_dec (fun _ => ?_) (fun _ => ?_)) <;> (conv => whnf)) | ((with_reducible refine mt_eq (fun _ => ?_) (fun _ => ?_)) <;> (conv => whnf)) | ((with_reducible refine mt_ne (fun _ => ?_) (fun _ => ?_)) <;> (conv => whnf)) | ((with_reducible refine mt_not (fun _ => ?_) (fun _ => ?_)) <;> (conv => whnf)) | ((with_reducible refine mt_any (fun _ => ?_) (fun _ => ?_)) <;> (conv => whnf)))
                      refine ⟨(insI d2 y, k + 1), rfl, rfl, ⟨by show k + 1 ≤ _; omega, insI_rising hd2 hyn, fun x => ?_⟩, by show _ - (k + 1) < _ - k; omega⟩
                      show x ∈ insI d2 y ↔ _ ∨ x ∈ l2.take (k + 1)
                      rw [insI_mem, hm2, List.take_add_one, hy, List.mem_append, or_assoc]
                      simp
                    · rename_i hkl
                      have hk2 : l2.take k = l2 := List.take_of_length_le (by omega)
                      rw [hk2] at hm2
                      refine ⟨by rw [nums_length, nums_length]; show (_ + _) * 8 ≤ _; omega, ?_⟩
                      conv => whnf
                      repeat' (first | ((with_reducible apply rd_intro); (focus (intro K hK; (conv => whnf); first | exact hK | (intro z hz; rw [wrapI (by omega)] at hz; subst hz; exact hK))); (conv => whnf)) | ((with_reducible apply gd_and); (focus ((conv => whnf) <;> first | rfl | (intro K hK; (conv => whnf); first | exact hK | (intro z hz; rw [wrapI (by omega)] at hz; subst hz; exact hK)))); (conv => whnf)) | ((with_reducible apply z_wrap); (focus omega); (conv => whnf)) | ((with_reducible refine mt_dec (fun _ => ?_) (fun _ => ?_)) <;> (conv => whnf)) | ((with_reducible refine mt_eq (fun _ => ?_) (fun _ => ?_)) <;> (conv => whnf)) | ((with_reducible refine mt_ne (fun _ => ?_) (fun _ => ?_)) <;> (conv => whnf)) | ((with_reducible refine mt_not (fun _ => ?_) (fun _ => ?_)) <;> (conv => whnf)) | ((with_reducible refine mt_any (fun _ => ?_) (fun _ => ?_)) <;> (conv => whnf)))
                      refine ⟨(d2, j + 1), rfl, ?_, ⟨by show j + 1 ≤ _; omega, hpu hd2 hm2⟩, by show _ - (j + 1) < _ - j; omega⟩
                      show _ = [AB.cells p.cells, AB.cells fin.c.cells, AB.row 3 1 (nums (w.putL p.d (l.take (j + 1))).outs) false]
                      rw [hoe, ← nums_apps]
                      rfl
                · rename_i hjl
                  have hjl2 : l.take j = l := List.take_of_length_le (by omega)
                  rw [hjl2] at hjh ⊢
                  have hev := hh.even
                  refine ⟨(w.putL p.d l, dn, r + 2), ?_, rfl, ⟨hjh, by show (r + 2) % 2 = 0; omega, by show (w.putL p.d l).c.round % 2 = 0; rw [hn3]; exact hev, by show 0 ≤ (w.putL p.d l).c.round; rw [hn3]; omega, by show (w.putL p.d l).c.round < r + 2; rw [hn3]; omega, hn4, by show quiet p.d (w.putL p.d l).c.round (r + 2); rw [hn3]; exact quiet_new hev⟩, by show (topR p.d.certs + 4 - (r + 2)).toNat < (topR p.d.certs + 4 - r).toNat; omega⟩
                  show _ = [(1, AV.ptr 0 0), (3, .ptr 1 0), (4, .d (.sl 1 (nums fin.outs))), (6, .d (.sl 1 (nums dn))), (7, .arr 2), (8, .d (.int .i64 (w.putL p.d l).c.round)), (9, .d (.int .i64 (topR p.d.certs))), (10, .d (.int .i64 (r + 2)))]
                  rw [hn3]
          · rename_i hrt
            obtain rfl := hh.fin hv h0 (by omega)
            (refine Or.inl ?_; (conv => whnf))
            refine (eqNumbers_ok fin.outs fin.outs (by unfold few; omega)).mono ?_
            rintro _ _ ⟨rfl, rfl⟩
            rw [show decide (fin.outs = fin.outs) = true from decide_eq_true rfl]
            conv => whnf
            rw [show (fin.c.round == fin.c.round) = true from beq_self_eq_true _]
            conv => whnf
            refine wakes_ok.mono ?_
            rintro _ _ ⟨rfl, rfl⟩
            conv => whnf
            exact ⟨rfl, rfl⟩
end Go.Proofs.Ytoeppembokpjkaa

/- CursorHistory: for every Ask the law returns true, and its argument reads behind the call as it read before. No condition of ours. -/
namespace Go.Proofs.Ytoeppembokpjkaa
open Go.Ab Go.RowKit Go.ChangeShapes Go.WideShapes Go.ChangeAt
theorem own : ownKnob Try.prog.godebug = none := by kernel_rfl
theorem laidOut : laidOutB Try.prog = true := by kernel_rfl
set_option maxRecDepth 100000 in
theorem cursorHistory_lifted (os : Os) (started : os.Started) (H : Type) (enc : TypeId × Value → H) :
    ReturnsInHanded {} Try.checked os 9 .any (Rows.cursorHistorySpec.pre6 enc Try.prog Try.f9 Rows.cursorHistoryRow.domain false) (Rows.cursorHistorySpec.post enc Try.prog Try.f9 false true false false) := by
  refine returnsInHanded_of_change_sized (C := Try.checked) own started (by kernel_rfl) Try.func9
    (ChangeSpec.witness6 (enc := enc) (C := Try.checked) false ⟨#[], #[.agg #[.int .i64 0, .int .i64 0, .slice none 0 0, .slice none 0 0, .slice none 0 0]], []⟩ 8 (by kernel_rfl) (by kernel_rfl) (by kernel_rfl) (by kernel_rfl)) ?_
  intro W base args ds gs before hval hW _ hsz _
  exact law_contract ttOk (f := Try.f9) (tb := 4) (t := 28) rfl rfl Try.underlying4 rfl (fun _ _ => rfl) laidOut (by kernel_rfl) (of_decide_eq_true (by kernel_rfl)) 7 (by kernel_rfl) argS
    (fun W base v ds h1 h2 => argS_ok Try.underlying28 h1 h2)
    (fun ds hd => by
      obtain ⟨p, hp, hok⟩ := ask_of hd
      rw [hp]
      exact cursorHistory_ok p hok) hval hW hsz
theorem cursorHistory_holds : Rows.CursorHistorySaid :=
  OpenClaim.holds_of_wide 9 Try.f9 rfl rfl rfl rfl rfl rfl rfl ⟨rfl, rfl, rfl, rfl, rfl⟩ rfl rfl rfl rfl rfl (by kernel_rfl) Try.func9 (by kernel_rfl)
    (of_decide_eq_true (by kernel_rfl)) (by unfold Func.isWrapper; first | (rw [if_pos (by decide +kernel)]; kernel_rfl) | (rw [if_neg (by decide +kernel)]; exact ⟨rfl, rfl⟩))
    (fun os started H enc _ => cursorHistory_lifted os started H enc)
#print axioms cursorHistory_holds
end Go.Proofs.Ytoeppembokpjkaa
