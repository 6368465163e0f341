/- Part of the proof of AuditBatches: the contracts of the functions. -/
import Derived.Test.YtoeppembokpjkaaGreatAuditBatchesCodD

set_option linter.unusedVariables false
set_option linter.unusedSimpArgs false
namespace Go.Proofs.YtoeppembokpjkaaGreat
open Go.Ab Go.RowKit Go.MapKept
attribute [local irreducible] ACalls AW ADraw Into fltB fnear
set_option maxRecDepth 100000
end Go.Proofs.YtoeppembokpjkaaGreat

namespace Go.Proofs.YtoeppembokpjkaaGreat
open Go.Ab Go.RowKit
/-! ## what lies below a certificate -/
theorem mem_addS {x : Int} : ∀ {ps ks : List Int}, x ∈ addS ks ps ↔ x ∈ ks ∨ x ∈ ps
  | [], ks => by simp [addS]
  | p :: ps, ks => by
    show x ∈ addS (insS ks p) ps ↔ _
    rw [mem_addS, mem_insS, List.mem_cons]
    constructor
    · rintro ((h | h) | h)
      · exact .inl h
      · exact .inr (.inl h)
      · exact .inr (.inr h)
    · rintro (h | h | h)
      · exact .inl (.inl h)
      · exact .inl (.inr h)
      · exact .inr h
def desc (l : List Cert) : Prop := l.Pairwise fun x y => y.round ≤ x.round
theorem downL_low {dl low : Int} : ∀ {l : List Cert} {ks : List Int}, (∀ c ∈ l, c.round ≤ low) → downL dl low l ks = []
  | [], _, _ => rfl
  | c :: r, ks, h => by rw [downL, if_pos (h c (by simp))]
theorem downL_skip {dl low : Int} : ∀ {l1 l2 : List Cert} {ks : List Int}, desc (l1 ++ l2) → (∀ c ∈ l1, c.digest ∉ ks) → downL dl low (l1 ++ l2) ks = downL dl low l2 ks
  | [], _, _, _, _ => rfl
  | c :: r, l2, ks, hd, h => by
    have hd' := List.pairwise_cons.1 hd
    rw [List.cons_append, downL]
    by_cases h1 : c.round ≤ low
    · rw [if_pos h1, downL_low]
      intro y hy
      have := hd'.1 y (List.mem_append_right _ hy)
      omega
    · rw [if_neg h1, if_neg (h c (by simp))]
      exact downL_skip hd'.2 fun y hy => h y (by simp [hy])
theorem desc_rev {l : List Cert} (h : sortedC l) : desc l.reverse := by
  unfold desc
  rw [List.pairwise_reverse]
  exact h.imp fun h => by have := before_iff.1 h; omega
theorem dig_at {d : Dag} (hd : (d.certs.map (·.digest)).Nodup) {i : Nat} {c : Cert} (h : d.certs[i]? = some c) : ∀ x ∈ d.certs.drop (i + 1), x.digest ≠ c.digest := by
  intro x hx e
  obtain ⟨hi, rfl⟩ := List.getElem?_eq_some_iff.1 h
  have h1 : d.certs = d.certs.take (i + 1) ++ d.certs.drop (i + 1) := (List.take_append_drop ..).symm
  rw [h1, List.map_append, List.nodup_append] at hd
  exact hd.2.2 d.certs[i].digest (List.mem_map.2 ⟨d.certs[i], List.mem_take_iff_getElem.2 ⟨i, by omega, rfl⟩, rfl⟩) x.digest (List.mem_map.2 ⟨x, hx, rfl⟩) e.symm
theorem downI_eq {d : Dag} (hs : sortedC d.certs) (hd : (d.certs.map (·.digest)).Nodup) {i : Nat} {c : Cert} (h : d.certs[i]? = some c) (low : Int) : downI d i low = downL d.low low d.certs.reverse [c.digest] := by
  unfold downI
  rw [h]
  have e : d.certs.reverse = (d.certs.drop (i + 1)).reverse ++ (d.certs.take (i + 1)).reverse := by
    rw [← List.reverse_append, List.take_append_drop]
  have hdsc := desc_rev hs
  rw [e] at hdsc ⊢
  rw [downL_skip hdsc]
  · rfl
  · intro x hx
    have := dig_at hd h x (List.mem_reverse.1 hx)
    simpa using this
/-- certificates that are no one's below do not matter -/
theorem downL_filter {dl low : Int} (S : Int → Bool) : ∀ {l : List Cert} {ks : List Int}, (∀ k ∈ ks, S k = true) → (∀ c ∈ l, S c.digest = true → c.round > dl + 1 → ∀ x ∈ c.pars, S x = true) → desc l → downL dl low l ks = downL dl low (l.filter fun c => S c.digest) ks
  | [], _, _, _, _ => rfl
  | c :: r, ks, hk, hc, hd => by
    have hd' := List.pairwise_cons.1 hd
    by_cases h1 : c.round ≤ low
    · rw [downL_low, downL_low]
      · intro y hy
        rcases List.mem_cons.1 (List.mem_filter.1 hy).1 with rfl | hy
        · exact h1
        · have := hd'.1 y hy; omega
      · intro y hy
        rcases List.mem_cons.1 hy with rfl | hy
        · exact h1
        · have := hd'.1 y hy; omega
    · have hr : ∀ y ∈ r, S y.digest = true → y.round > dl + 1 → ∀ x ∈ y.pars, S x = true := fun y hy => hc y (by simp [hy])
      cases hS : S c.digest with
      | false =>
        rw [List.filter_cons, hS]
        rw [downL, if_neg h1, if_neg (fun h => by rw [hk _ h] at hS; cases hS)]
        exact downL_filter S hk hr hd'.2
      | true =>
        rw [List.filter_cons, hS, if_pos rfl, downL, downL, if_neg h1, if_neg h1]
        by_cases h2 : c.digest ∈ ks
        · rw [if_pos h2, if_pos h2]
          congr 1
          refine downL_filter S ?_ hr hd'.2
          split
          · rename_i h3
            intro k hk'
            rcases mem_addS.1 hk' with h4 | h4
            · exact hk k h4
            · exact hc c (by simp) hS h3 k h4
          · exact hk
        · rw [if_neg h2, if_neg h2]
          exact downL_filter S hk hr hd'.2
/-- a certificate's ancestors -/
inductive Anc (d : Dag) (x : Cert) : Cert → Prop
  | refl : Anc d x x
  | step {z y : Cert} : Anc d x z → z.round > d.low + 1 → y ∈ d.certs → y.digest ∈ z.pars → y.round < z.round → Anc d x y
theorem Anc.cons {d : Dag} {x p y : Cert} (hx : x.round > d.low + 1) (hp : p ∈ d.certs) (hxp : p.digest ∈ x.pars) (hr : p.round < x.round) (h : Anc d p y) : Anc d x y := by
  induction h with
  | refl => exact .step .refl hx hp hxp hr
  | step _ h1 h2 h3 h4 ih => exact .step ih h1 h2 h3 h4
end Go.Proofs.YtoeppembokpjkaaGreat

namespace Go.Proofs.YtoeppembokpjkaaGreat
open Go.Ab Go.RowKit
/-! ## a part of a DAG -/
structure Sub (A D : Dag) : Prop where
  va : Valid A
  vd : Valid D
  la : A.low = 0
  ld : D.low = 0
  nodes : A.nodes = D.nodes
  sub : A.certs.Sublist D.certs
theorem place_inj {l : List Cert} (hs : sortedC l) {x y : Cert} (hx : x ∈ l) (hy : y ∈ l) (hr : x.round = y.round) (ha : x.author = y.author) : x = y := by
  obtain ⟨i, hi⟩ := List.getElem?_of_mem hx
  obtain ⟨j, hj⟩ := List.getElem?_of_mem hy
  obtain ⟨hi', rfl⟩ := List.getElem?_eq_some_iff.1 hi
  obtain ⟨hj', rfl⟩ := List.getElem?_eq_some_iff.1 hj
  rcases Nat.lt_trichotomy i j with h | h | h
  · have := before_iff.1 (List.pairwise_iff_getElem.1 hs i j hi' hj' h); omega
  · subst h; rfl
  · have := before_iff.1 (List.pairwise_iff_getElem.1 hs j i hj' hi' h); omega
theorem atC_some {l : List Cert} (hs : sortedC l) {r a : Int} {c : Cert} : atC l r a = some c ↔ c ∈ l ∧ c.round = r ∧ c.author = a := by
  constructor
  · intro h
    have h1 := List.find?_some h
    simp only [decide_eq_true_eq] at h1
    exact ⟨List.mem_of_find?_eq_some h, h1⟩
  · rintro ⟨h1, h2, h3⟩
    cases hc : atC l r a with
    | none =>
      unfold atC at hc
      rw [List.find?_eq_none] at hc
      have := hc c h1
      simp [h2, h3] at this
    | some c' =>
      have h4 := List.find?_some hc
      simp only [decide_eq_true_eq] at h4
      rw [place_inj hs h1 (List.mem_of_find?_eq_some hc) (by omega) (by omega)]
theorem sub_filter {l m : List Cert} (h : l.Sublist m) (hn : (m.map (·.digest)).Nodup) : l = m.filter fun c => decide (c.digest ∈ l.map (·.digest)) := by
  induction h with
  | slnil => rfl
  | @cons l m x h ih =>
    have hn' := List.nodup_cons.1 hn
    have hx : x.digest ∉ l.map (·.digest) := fun hx => hn'.1 ((h.map _).subset hx)
    rw [List.filter_cons, if_neg (by simpa using hx)]
    exact ih hn'.2
  | @cons_cons l m x h ih =>
    have hn' := List.nodup_cons.1 hn
    rw [List.filter_cons, if_pos (by simp)]
    congr 1
    refine (ih hn'.2).trans (List.filter_congr fun c hc => ?_)
    have : c.digest ≠ x.digest := fun e => hn'.1 (List.mem_map.2 ⟨c, hc, e⟩)
    simp [this]
theorem Sub.mem {A D : Dag} (h : Sub A D) {c : Cert} (hc : c ∈ A.certs) : c ∈ D.certs := h.sub.subset hc
theorem Sub.cert {A D : Dag} (h : Sub A D) {x : Int} {c : Cert} (hc : certOf A x = some c) : certOf D x = some c := by
  obtain ⟨h1, rfl, _⟩ := certOf_some hc
  exact certOf_mem h.vd.dig (h.mem h1)
/-- what lies below a certificate of the part is the same in the whole -/
theorem Sub.down {A D : Dag} (h : Sub A D) {i j : Nat} {c : Cert} (hi : A.certs[i]? = some c) (hj : D.certs[j]? = some c) (low : Int) : downI A i low = downI D j low := by
  rw [downI_eq h.va.sorted h.va.dig hi, downI_eq h.vd.sorted h.vd.dig hj, h.la, h.ld]
  have hf := sub_filter h.sub h.vd.dig
  have hmem : ∀ {y : Cert}, y ∈ D.certs → y.digest ∈ A.certs.map (·.digest) → y ∈ A.certs := by
    intro y hy hy2
    obtain ⟨z, hz, e⟩ := List.mem_map.1 hy2
    rw [← dig_inj h.vd.dig (h.mem hz) hy e]; exact hz
  have h1 := downL_filter (dl := 0) (low := low) (fun x => decide (x ∈ A.certs.map (·.digest))) (l := D.certs.reverse) (ks := [c.digest]) (fun k hk => by
      simp only [List.mem_singleton] at hk
      rw [hk, decide_eq_true_eq]
      exact List.mem_map.2 ⟨c, List.mem_of_getElem? hi, rfl⟩) (fun y hy hy2 hyr x hx => by
      have hyA := hmem (List.mem_reverse.1 hy) (of_decide_eq_true hy2)
      obtain ⟨c', h3, h4, _⟩ := h.va.here y hyA (by rw [h.la]; exact hyr) x hx
      exact decide_eq_true (List.mem_map.2 ⟨c', h3, h4⟩)) (desc_rev h.vd.sorted)
  rw [h1, List.filter_reverse, ← hf]
theorem Sub.behind {A D : Dag} (h : Sub A D) {i j : Nat} {c : Cert} (hi : A.certs[i]? = some c) (hj : D.certs[j]? = some c) (done : List Int) : behindI A i c.round done = behindI D j c.round done := by
  unfold behindI riseI
  rw [h.down hi hj]
theorem Sub.keepB {A D : Dag} (h : Sub A D) {x : Int} (hx : x ∈ A.certs.map (·.digest)) (r : Int) : keepB A r x = keepB D r x := by
  obtain ⟨c, hc, rfl⟩ := List.mem_map.1 hx
  have h1 := certOf_mem h.va.dig hc
  have h2 := h.cert h1
  unfold certOf at h1 h2
  unfold Go.Proofs.YtoeppembokpjkaaGreat.keepB
  rw [h1, h2]
theorem behind_digs {A : Dag} {i : Nat} {r : Int} {done : List Int} : ∀ x ∈ behindI A i r done, x ∈ A.certs.map (·.digest) := by
  intro x hx
  have h1 := List.mem_reverse.1 (List.mem_filter.1 hx).1
  have h2 := (down_sub A.low (r - 8) (A.certs.take (i + 1)).reverse ((A.certs[i]?).toList.map (·.digest))).subset h1
  rw [List.map_reverse, List.mem_reverse] at h2
  exact ((List.take_sublist ..).map _).subset h2
def inDag (A : Dag) (w : Wk) : Prop := ∀ x ∈ w.c.done, x ∈ A.certs.map (·.digest)
theorem Wk.put_in {A : Dag} {w : Wk} (hw : inDag A w) (i : Nat) (c : Cert) : inDag A (w.put A i c) := by
  intro x hx
  have h1 : x ∈ sortI (keepI A c.round (w.c.done ++ behindI A i c.round w.c.done)) := hx
  rw [sortI, List.mem_mergeSort] at h1
  have h2 := (List.mem_filter.1 h1).1
  rcases List.mem_append.1 h2 with h2 | h2
  · exact hw x h2
  · exact behind_digs x h2
theorem Sub.put {A D : Dag} (h : Sub A D) {w : Wk} (hw : inDag A w) {i j : Nat} {c : Cert} (hi : A.certs[i]? = some c) (hj : D.certs[j]? = some c) : w.put A i c = w.put D j c := by
  unfold Wk.put
  rw [h.behind hi hj]
  have : keepI A c.round (w.c.done ++ behindI D j c.round w.c.done) = keepI D c.round (w.c.done ++ behindI D j c.round w.c.done) := by
    refine List.filter_congr fun x hx => ?_
    refine h.keepB ?_ c.round
    rcases List.mem_append.1 hx with h2 | h2
    · exact hw x h2
    · rw [← h.behind hi hj] at h2; exact behind_digs x h2
  rw [this]
theorem Sub.putA {A D : Dag} (h : Sub A D) {w : Wk} (hw : inDag A w) {a : Int} {c : Cert} (ha : certOf A a = some c) : w.putA A a = w.putA D a ∧ inDag A (w.putA A a) := by
  obtain ⟨_, _, i, h1, h2⟩ := certOf_some ha
  obtain ⟨_, _, j, h3, h4⟩ := certOf_some (h.cert ha)
  rw [putA_eq h1 h2, putA_eq h3 h4]
  exact ⟨h.put hw h2 h4, Wk.put_in hw i c⟩
theorem Sub.putL {A D : Dag} (h : Sub A D) : ∀ {l : List Int} {w : Wk}, inDag A w → (∀ a ∈ l, ∃ c, certOf A a = some c) → w.putL A l = w.putL D l ∧ inDag A (w.putL A l)
  | [], w, hw, _ => ⟨rfl, hw⟩
  | a :: l, w, hw, ha => by
    obtain ⟨c, hc⟩ := ha a (by simp)
    obtain ⟨h1, h2⟩ := h.putA hw hc
    obtain ⟨h3, h4⟩ := h.putL (l := l) h2 fun b hb => ha b (by simp [hb])
    refine ⟨?_, h4⟩
    show (w.putA A a).putL A l = (w.putA D a).putL D l
    rw [← h1]; exact h3
/-- anchors -/
theorem anchor_at {d : Dag} (h : Valid d) {r : Int} : anchorI d r ≠ 0 ↔ ∃ c ∈ d.certs, c.round = r ∧ c.author = leadI d.nodes r := by
  rw [anchor_pos h.well]
  constructor
  · intro h1
    obtain ⟨c, hc⟩ := Option.isSome_iff_exists.1 h1
    exact ⟨c, (atC_some h.sorted).1 hc⟩
  · rintro ⟨c, hc⟩
    rw [(atC_some h.sorted).2 hc]; rfl
theorem anchor_is {d : Dag} (h : Valid d) {c : Cert} (hc : c ∈ d.certs) (ha : c.author = leadI d.nodes c.round) : anchorI d c.round = c.digest := by
  unfold anchorI
  rw [(atC_some h.sorted).2 ⟨hc, rfl, ha⟩]; rfl
theorem Sub.anchor {A D : Dag} (h : Sub A D) {r : Int} (ha : anchorI A r ≠ 0) : anchorI D r = anchorI A r := by
  obtain ⟨c, h1, rfl, h3⟩ := (anchor_at h.va).1 ha
  rw [anchor_is h.va h1 h3, anchor_is h.vd (h.mem h1) (by rw [← h.nodes]; exact h3)]
theorem votes_pos {d : Dag} {r : Int} (h : votes d r ≠ 0) : anchorI d r > 0 := by
  have h1 : 0 < ((ofR d.certs (r + 1)).filter fun c => decide (anchorI d r > 0 ∧ anchorI d r ∈ c.pars)).length := Nat.pos_of_ne_zero h
  obtain ⟨c, hc⟩ := List.exists_mem_of_length_pos h1
  have := (List.mem_filter.1 hc).2
  simp only [decide_eq_true_eq] at this
  exact this.1
theorem Sub.votes {A D : Dag} (h : Sub A D) (r : Int) : votes A r ≤ votes D r := by
  rcases Nat.eq_zero_or_pos (Go.Proofs.YtoeppembokpjkaaGreat.votes A r) with h0 | h0
  · omega
  · have h1 := votes_pos (Nat.ne_of_gt h0)
    have h2 := h.anchor (r := r) (by omega)
    unfold Go.Proofs.YtoeppembokpjkaaGreat.votes
    rw [h2]
    exact ((h.sub.filter _).filter _).length_le
theorem settled_votes {d : Dag} (h : Valid d) {r : Int} (hs : settled d r = true) : (votes d r : Int) > (d.nodes - 1) / 3 ∧ votes d r ≠ 0 := by
  have hn := of_decide_eq_true h.nodes
  have := of_decide_eq_true hs
  exact ⟨this, by omega⟩
theorem Sub.settled {A D : Dag} (h : Sub A D) {r : Int} (hs : settled A r = true) : settled D r = true := by
  have h1 := (settled_votes h.va hs).1
  have h2 := h.votes r
  have h3 := h.nodes
  exact decide_eq_true (by rw [← h3]; omega)
end Go.Proofs.YtoeppembokpjkaaGreat

namespace Go.Proofs.YtoeppembokpjkaaGreat
open Go.Ab Go.RowKit
theorem anchor_idx {d : Dag} (h : Valid d) {r : Int} (ha : anchorI d r ≠ 0) : ∃ k a, getC d.certs (anchorI d r) = some k ∧ d.certs[k]? = some a ∧ a.digest = anchorI d r ∧ a.round = r ∧ a.author = leadI d.nodes r := by
  obtain ⟨c, h1, h2, h3⟩ := anchor_cert h.well ha
  obtain ⟨_, h4, k, h5, h6⟩ := certOf_some h1
  exact ⟨k, c, h5, h6, h4, h2, h3⟩
theorem Sub.backR {A D : Dag} (h : Sub A D) (after : Int) : ∀ (r : Int) (i j : Nat) (x : Cert), A.certs[i]? = some x → D.certs[j]? = some x → backR A after r i = backR D after r j := by
  intro r i
  induction r, i using backR.induct (d := A) (after := after) with
  | case1 r i h1 =>
    intro j x hi hj
    rw [back_end h1, back_end (by rw [h.ld, ← h.la]; exact h1)]
  | case2 r i h1 h2 ih =>
    intro j x hi hj
    have h1' : ¬ (r - 2 ≤ after ∨ r - 2 ≤ D.low) := by rw [h.ld, ← h.la]; exact h1
    rw [back_no h1 h2, ih j x hi hj]
    by_cases h3 : anchorI D (r - 2) = 0
    · rw [back_no h1' h3]
    · obtain ⟨k, a, k1, k2, k3, k4, k5⟩ := anchor_idx h.vd h3
      rw [back_yes h1' h3 k1, if_neg]
      intro hre
      unfold reachJ at hre
      rw [k2] at hre
      have hre := of_decide_eq_true hre
      rw [← h.down hi hj] at hre
      have h4 := (down_sub A.low (a.round - 1) (A.certs.take (i + 1)).reverse ((A.certs[i]?).toList.map (·.digest))).subset hre
      rw [List.map_reverse, List.mem_reverse] at h4
      have h5 := ((List.take_sublist ..).map _).subset h4
      obtain ⟨z, hz, hze⟩ := List.mem_map.1 h5
      have hza := dig_inj h.vd.dig (h.mem hz) (List.mem_of_getElem? k2) hze
      subst hza
      exact (anchor_at h.va).2 ⟨z, hz, k4, by rw [h.nodes]; exact k5⟩ h2
  | case3 r i h1 h2 h3 =>
    obtain ⟨j, c, h4, _⟩ := anchor_get h2
    rw [h3] at h4; cases h4
  | case4 r i h1 h2 k h3 h4 ih =>
    intro j x hi hj
    have h1' : ¬ (r - 2 ≤ after ∨ r - 2 ≤ D.low) := by rw [h.ld, ← h.la]; exact h1
    obtain ⟨k', a, k1, k2, k3, k4, k5⟩ := anchor_idx h.va h2
    rw [h3] at k1; cases k1
    have h5 := h.anchor h2
    obtain ⟨m, b, m1, m2, m3, m4, m5⟩ := anchor_idx h.vd (r := r - 2) (by rw [h5]; exact h2)
    have hab := dig_inj h.vd.dig (h.mem (List.mem_of_getElem? k2)) (List.mem_of_getElem? m2) (by rw [k3, m3, h5])
    subst hab
    rw [back_yes h1 h2 h3, if_pos h4, back_yes h1' (by rw [h5]; exact h2) m1, if_pos, h5, ih m a k2 m2]
    unfold reachJ at h4 ⊢
    rw [k2] at h4; rw [m2]
    have h4 := of_decide_eq_true h4
    rw [h.down hi hj] at h4
    exact decide_eq_true h4
  | case5 r i h1 h2 k h3 h4 ih =>
    intro j x hi hj
    have h1' : ¬ (r - 2 ≤ after ∨ r - 2 ≤ D.low) := by rw [h.ld, ← h.la]; exact h1
    obtain ⟨k', a, k1, k2, k3, k4, k5⟩ := anchor_idx h.va h2
    rw [h3] at k1; cases k1
    have h5 := h.anchor h2
    obtain ⟨m, b, m1, m2, m3, m4, m5⟩ := anchor_idx h.vd (r := r - 2) (by rw [h5]; exact h2)
    have hab := dig_inj h.vd.dig (h.mem (List.mem_of_getElem? k2)) (List.mem_of_getElem? m2) (by rw [k3, m3, h5])
    subst hab
    rw [back_yes h1 h2 h3, if_neg h4, back_yes h1' (by rw [h5]; exact h2) m1, if_neg, ih j x hi hj]
    intro h6
    refine h4 ?_
    unfold reachJ at h6 ⊢
    rw [m2] at h6; rw [k2]
    have h6 := of_decide_eq_true h6
    rw [← h.down hi hj] at h6
    exact decide_eq_true h6
theorem Sub.backI {A D : Dag} (h : Sub A D) (after : Int) {r : Int} (ha : anchorI A r ≠ 0) : backI A after r = backI D after r := by
  have h5 := h.anchor ha
  obtain ⟨k, a, k1, k2, k3, k4, k5⟩ := anchor_idx h.va ha
  obtain ⟨m, b, m1, m2, m3, m4, m5⟩ := anchor_idx h.vd (r := r) (by rw [h5]; exact ha)
  have hab := dig_inj h.vd.dig (h.mem (List.mem_of_getElem? k2)) (List.mem_of_getElem? m2) (by rw [k3, m3, h5])
  subst hab
  unfold Go.Proofs.YtoeppembokpjkaaGreat.backI
  rw [k1, m1, h5]
  rw [Option.getD_some, Option.getD_some, h.backR after r k m a k2 m2]
def run (d : Dag) (w : Wk) : Wk := Wk.goF d (topR d.certs).toNat w
end Go.Proofs.YtoeppembokpjkaaGreat

namespace Go.Proofs.YtoeppembokpjkaaGreat
open Go.Ab Go.RowKit
/-- what was put out ahead stands ahead -/
def Wk.pre (o : List Int) (w : Wk) : Wk := ⟨w.c, o ++ w.outs⟩
theorem Sub.refl {d : Dag} (h : Valid d) (h0 : d.low = 0) : Sub d d := ⟨h, h, h0, h0, rfl, List.Sublist.refl _⟩
end Go.Proofs.YtoeppembokpjkaaGreat

namespace Go.Proofs.YtoeppembokpjkaaGreat
open Go.Ab Go.RowKit Go.MapKept
attribute [local irreducible] ACalls AW ADraw Into fltB fnear
set_option maxRecDepth 100000
def bools (l : List Bool) : List (List DV) := l.map fun b => [.bool b]
end Go.Proofs.YtoeppembokpjkaaGreat

namespace Go.Proofs.YtoeppembokpjkaaGreat
open Go.Ab Go.RowKit Go.MapKept
attribute [local irreducible] ACalls AW ADraw Into fltB fnear
set_option maxRecDepth 100000
theorem take_snoc' {α : Type} {l : List α} {j : Nat} {c : α} (hc : l[j]? = some c) : l.take (j + 1) = l.take j ++ [c] := by rw [List.take_add_one, hc]; rfl
end Go.Proofs.YtoeppembokpjkaaGreat

namespace Go.Proofs.YtoeppembokpjkaaGreat
open Go.Ab Go.RowKit Go.MapKept
attribute [local irreducible] ACalls AW ADraw Into fltB fnear
set_option maxRecDepth 100000
end Go.Proofs.YtoeppembokpjkaaGreat
