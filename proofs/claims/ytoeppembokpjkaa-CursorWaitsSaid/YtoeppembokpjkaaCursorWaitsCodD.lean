/- Part of the proof of CursorWaits: the contracts of the functions. -/
import Derived.Test.YtoeppembokpjkaaCursorWaitsCodC

set_option linter.unusedVariables false
set_option linter.unusedSimpArgs false
namespace Go.Proofs.Ytoeppembokpjkaa
open Go.Ab Go.RowKit
/-! ## a part of a DAG -/
structure Sub (A D : Dag) : Prop where
  va : Valid A
  vd : Valid D
  la : A.low = 0
  ld : D.low = 0
  nodes : A.nodes = D.nodes
  sub : A.certs.Sublist D.certs
theorem place_inj {l : List Cert} (hs : sortedC l) {x y : Cert} (hx : x ∈ l) (hy : y ∈ l) (hr : x.round = y.round) (ha : x.author = y.author) : x = y := by
  obtain ⟨i, hi⟩ := List.getElem?_of_mem hx
  obtain ⟨j, hj⟩ := List.getElem?_of_mem hy
  obtain ⟨hi', rfl⟩ := List.getElem?_eq_some_iff.1 hi
  obtain ⟨hj', rfl⟩ := List.getElem?_eq_some_iff.1 hj
  rcases Nat.lt_trichotomy i j with h | h | h
  · have := before_iff.1 (List.pairwise_iff_getElem.1 hs i j hi' hj' h); omega
  · subst h; rfl
  · have := before_iff.1 (List.pairwise_iff_getElem.1 hs j i hj' hi' h); omega
theorem atC_some {l : List Cert} (hs : sortedC l) {r a : Int} {c : Cert} : atC l r a = some c ↔ c ∈ l ∧ c.round = r ∧ c.author = a := by
  constructor
  · intro h
    have h1 := List.find?_some h
    simp only [decide_eq_true_eq] at h1
    exact ⟨List.mem_of_find?_eq_some h, h1⟩
  · rintro ⟨h1, h2, h3⟩
    cases hc : atC l r a with
    | none =>
      unfold atC at hc
      rw [List.find?_eq_none] at hc
      have := hc c h1
      simp [h2, h3] at this
    | some c' =>
      have h4 := List.find?_some hc
      simp only [decide_eq_true_eq] at h4
      rw [place_inj hs h1 (List.mem_of_find?_eq_some hc) (by omega) (by omega)]
theorem sub_filter {l m : List Cert} (h : l.Sublist m) (hn : (m.map (·.digest)).Nodup) : l = m.filter fun c => decide (c.digest ∈ l.map (·.digest)) := by
  induction h with
  | slnil => rfl
  | @cons l m x h ih =>
    have hn' := List.nodup_cons.1 hn
    have hx : x.digest ∉ l.map (·.digest) := fun hx => hn'.1 ((h.map _).subset hx)
    rw [List.filter_cons, if_neg (by simpa using hx)]
    exact ih hn'.2
  | @cons_cons l m x h ih =>
    have hn' := List.nodup_cons.1 hn
    rw [List.filter_cons, if_pos (by simp)]
    congr 1
    refine (ih hn'.2).trans (List.filter_congr fun c hc => ?_)
    have : c.digest ≠ x.digest := fun e => hn'.1 (List.mem_map.2 ⟨c, hc, e⟩)
    simp [this]
theorem Sub.mem {A D : Dag} (h : Sub A D) {c : Cert} (hc : c ∈ A.certs) : c ∈ D.certs := h.sub.subset hc
theorem Sub.cert {A D : Dag} (h : Sub A D) {x : Int} {c : Cert} (hc : certOf A x = some c) : certOf D x = some c := by
  obtain ⟨h1, rfl, _⟩ := certOf_some hc
  exact certOf_mem h.vd.dig (h.mem h1)
/-- what lies below a certificate of the part is the same in the whole -/
theorem Sub.down {A D : Dag} (h : Sub A D) {i j : Nat} {c : Cert} (hi : A.certs[i]? = some c) (hj : D.certs[j]? = some c) (low : Int) : downI A i low = downI D j low := by
  rw [downI_eq h.va.sorted h.va.dig hi, downI_eq h.vd.sorted h.vd.dig hj, h.la, h.ld]
  have hf := sub_filter h.sub h.vd.dig
  have hmem : ∀ {y : Cert}, y ∈ D.certs → y.digest ∈ A.certs.map (·.digest) → y ∈ A.certs := by
    intro y hy hy2
    obtain ⟨z, hz, e⟩ := List.mem_map.1 hy2
    rw [← dig_inj h.vd.dig (h.mem hz) hy e]; exact hz
  have h1 := downL_filter (dl := 0) (low := low) (fun x => decide (x ∈ A.certs.map (·.digest))) (l := D.certs.reverse) (ks := [c.digest]) (fun k hk => by
      simp only [List.mem_singleton] at hk
      rw [hk, decide_eq_true_eq]
      exact List.mem_map.2 ⟨c, List.mem_of_getElem? hi, rfl⟩) (fun y hy hy2 hyr x hx => by
      have hyA := hmem (List.mem_reverse.1 hy) (of_decide_eq_true hy2)
      obtain ⟨c', h3, h4, _⟩ := h.va.here y hyA (by rw [h.la]; exact hyr) x hx
      exact decide_eq_true (List.mem_map.2 ⟨c', h3, h4⟩)) (desc_rev h.vd.sorted)
  rw [h1, List.filter_reverse, ← hf]
theorem Sub.behind {A D : Dag} (h : Sub A D) {i j : Nat} {c : Cert} (hi : A.certs[i]? = some c) (hj : D.certs[j]? = some c) (done : List Int) : behindI A i c.round done = behindI D j c.round done := by
  unfold behindI riseI
  rw [h.down hi hj]
theorem Sub.keepB {A D : Dag} (h : Sub A D) {x : Int} (hx : x ∈ A.certs.map (·.digest)) (r : Int) : keepB A r x = keepB D r x := by
  obtain ⟨c, hc, rfl⟩ := List.mem_map.1 hx
  have h1 := certOf_mem h.va.dig hc
  have h2 := h.cert h1
  unfold certOf at h1 h2
  unfold Go.Proofs.Ytoeppembokpjkaa.keepB
  rw [h1, h2]
theorem behind_digs {A : Dag} {i : Nat} {r : Int} {done : List Int} : ∀ x ∈ behindI A i r done, x ∈ A.certs.map (·.digest) := by
  intro x hx
  have h1 := List.mem_reverse.1 (List.mem_filter.1 hx).1
  have h2 := (down_sub A.low (r - 8) (A.certs.take (i + 1)).reverse ((A.certs[i]?).toList.map (·.digest))).subset h1
  rw [List.map_reverse, List.mem_reverse] at h2
  exact ((List.take_sublist ..).map _).subset h2
def inDag (A : Dag) (w : Wk) : Prop := ∀ x ∈ w.c.done, x ∈ A.certs.map (·.digest)
theorem Wk.put_in {A : Dag} {w : Wk} (hw : inDag A w) (i : Nat) (c : Cert) : inDag A (w.put A i c) := by
  intro x hx
  have h1 : x ∈ sortI (keepI A c.round (w.c.done ++ behindI A i c.round w.c.done)) := hx
  rw [sortI, List.mem_mergeSort] at h1
  have h2 := (List.mem_filter.1 h1).1
  rcases List.mem_append.1 h2 with h2 | h2
  · exact hw x h2
  · exact behind_digs x h2
theorem Sub.put {A D : Dag} (h : Sub A D) {w : Wk} (hw : inDag A w) {i j : Nat} {c : Cert} (hi : A.certs[i]? = some c) (hj : D.certs[j]? = some c) : w.put A i c = w.put D j c := by
  unfold Wk.put
  rw [h.behind hi hj]
  have : keepI A c.round (w.c.done ++ behindI D j c.round w.c.done) = keepI D c.round (w.c.done ++ behindI D j c.round w.c.done) := by
    refine List.filter_congr fun x hx => ?_
    refine h.keepB ?_ c.round
    rcases List.mem_append.1 hx with h2 | h2
    · exact hw x h2
    · rw [← h.behind hi hj] at h2; exact behind_digs x h2
  rw [this]
theorem Sub.putA {A D : Dag} (h : Sub A D) {w : Wk} (hw : inDag A w) {a : Int} {c : Cert} (ha : certOf A a = some c) : w.putA A a = w.putA D a ∧ inDag A (w.putA A a) := by
  obtain ⟨_, _, i, h1, h2⟩ := certOf_some ha
  obtain ⟨_, _, j, h3, h4⟩ := certOf_some (h.cert ha)
  rw [putA_eq h1 h2, putA_eq h3 h4]
  exact ⟨h.put hw h2 h4, Wk.put_in hw i c⟩
theorem Sub.putL {A D : Dag} (h : Sub A D) : ∀ {l : List Int} {w : Wk}, inDag A w → (∀ a ∈ l, ∃ c, certOf A a = some c) → w.putL A l = w.putL D l ∧ inDag A (w.putL A l)
  | [], w, hw, _ => ⟨rfl, hw⟩
  | a :: l, w, hw, ha => by
    obtain ⟨c, hc⟩ := ha a (by simp)
    obtain ⟨h1, h2⟩ := h.putA hw hc
    obtain ⟨h3, h4⟩ := h.putL (l := l) h2 fun b hb => ha b (by simp [hb])
    refine ⟨?_, h4⟩
    show (w.putA A a).putL A l = (w.putA D a).putL D l
    rw [← h1]; exact h3
/-- anchors -/
theorem anchor_at {d : Dag} (h : Valid d) {r : Int} : anchorI d r ≠ 0 ↔ ∃ c ∈ d.certs, c.round = r ∧ c.author = leadI d.nodes r := by
  rw [anchor_pos h.well]
  constructor
  · intro h1
    obtain ⟨c, hc⟩ := Option.isSome_iff_exists.1 h1
    exact ⟨c, (atC_some h.sorted).1 hc⟩
  · rintro ⟨c, hc⟩
    rw [(atC_some h.sorted).2 hc]; rfl
theorem anchor_is {d : Dag} (h : Valid d) {c : Cert} (hc : c ∈ d.certs) (ha : c.author = leadI d.nodes c.round) : anchorI d c.round = c.digest := by
  unfold anchorI
  rw [(atC_some h.sorted).2 ⟨hc, rfl, ha⟩]; rfl
theorem Sub.anchor {A D : Dag} (h : Sub A D) {r : Int} (ha : anchorI A r ≠ 0) : anchorI D r = anchorI A r := by
  obtain ⟨c, h1, rfl, h3⟩ := (anchor_at h.va).1 ha
  rw [anchor_is h.va h1 h3, anchor_is h.vd (h.mem h1) (by rw [← h.nodes]; exact h3)]
theorem votes_pos {d : Dag} {r : Int} (h : votes d r ≠ 0) : anchorI d r > 0 := by
  have h1 : 0 < ((ofR d.certs (r + 1)).filter fun c => decide (anchorI d r > 0 ∧ anchorI d r ∈ c.pars)).length := Nat.pos_of_ne_zero h
  obtain ⟨c, hc⟩ := List.exists_mem_of_length_pos h1
  have := (List.mem_filter.1 hc).2
  simp only [decide_eq_true_eq] at this
  exact this.1
theorem Sub.votes {A D : Dag} (h : Sub A D) (r : Int) : votes A r ≤ votes D r := by
  rcases Nat.eq_zero_or_pos (Go.Proofs.Ytoeppembokpjkaa.votes A r) with h0 | h0
  · omega
  · have h1 := votes_pos (Nat.ne_of_gt h0)
    have h2 := h.anchor (r := r) (by omega)
    unfold Go.Proofs.Ytoeppembokpjkaa.votes
    rw [h2]
    exact ((h.sub.filter _).filter _).length_le
theorem settled_votes {d : Dag} (h : Valid d) {r : Int} (hs : settled d r = true) : (votes d r : Int) > (d.nodes - 1) / 3 ∧ votes d r ≠ 0 := by
  have hn := of_decide_eq_true h.nodes
  have := of_decide_eq_true hs
  exact ⟨this, by omega⟩
theorem Sub.settled {A D : Dag} (h : Sub A D) {r : Int} (hs : settled A r = true) : settled D r = true := by
  have h1 := (settled_votes h.va hs).1
  have h2 := h.votes r
  have h3 := h.nodes
  exact decide_eq_true (by rw [← h3]; omega)
theorem top_le {d : Dag} (h : Valid d) {c : Cert} (hc : c ∈ d.certs) : c.round ≤ topR d.certs := by
  unfold topR
  cases hg : d.certs.getLast? with
  | none => rw [List.getLast?_eq_none_iff] at hg; rw [hg] at hc; cases hc
  | some z =>
    show c.round ≤ z.round
    obtain ⟨m, hm⟩ := List.getLast?_eq_some_iff.1 hg
    have hs := h.sorted
    rw [hm] at hs hc
    rcases List.mem_append.1 hc with hc | hc
    · have := before_iff.1 ((List.pairwise_append.1 hs).2.2 c hc z (by simp))
      omega
    · simp at hc; rw [hc]; exact Int.le_refl _
theorem settled_top {d : Dag} (h : Valid d) {r : Int} (hs : settled d r = true) : r < topR d.certs := by
  have h1 := (settled_votes h hs).2
  have h2 : 0 < ((ofR d.certs (r + 1)).filter fun c => decide (anchorI d r > 0 ∧ anchorI d r ∈ c.pars)).length := Nat.pos_of_ne_zero h1
  obtain ⟨c, hc⟩ := List.exists_mem_of_length_pos h2
  have h3 := List.mem_filter.1 (List.mem_filter.1 hc).1
  have h4 := top_le h h3.1
  have := of_decide_eq_true h3.2
  omega
/-- the next settled round is the least one -/
theorem nextR_le {d : Dag} (h : Valid d) {q : Int} (hq : settled d q = true) : ∀ r : Int, 0 < r → r ≤ q → r % 2 = q % 2 → nextR d r > 0 ∧ nextR d r ≤ q := by
  intro r
  induction r using nextR.induct (d := d) with
  | case1 r hr => intro _ h1 _; have := settled_top h hq; omega
  | case2 r hr hs => intro h0 h1 _; rw [next_here hr hs]; exact ⟨h0, h1⟩
  | case3 r hr hs ih =>
    intro h0 h1 h2
    have hs' : settled d r = false := by simpa using hs
    rw [next_on hr hs']
    refine ih (by omega) ?_ (by omega)
    rcases Int.lt_or_eq_of_le h1 with h3 | h3
    · omega
    · subst h3; rw [hq] at hs'; cases hs'
end Go.Proofs.Ytoeppembokpjkaa

namespace Go.Proofs.Ytoeppembokpjkaa
open Go.Ab Go.RowKit
theorem round_len {d : Dag} (h : Valid d) (r : Int) : ((ofR d.certs r).length : Int) ≤ d.nodes := by
  have hn := of_decide_eq_true h.nodes
  have h1 : ((ofR d.certs r).map (·.author)).Nodup := by
    unfold List.Nodup
    rw [List.pairwise_map]
    refine List.Pairwise.imp_of_mem ?_ (h.sorted.filter fun c => decide (c.round = r))
    intro a b ha hb hab e
    have h1 := before_iff.1 hab
    have h2 := of_decide_eq_true (List.mem_filter.1 ha).2
    have h3 := of_decide_eq_true (List.mem_filter.1 hb).2
    omega
  have h2 := sub_len (m := (List.range d.nodes.toNat).map fun n : Nat => (n : Int) + 1) h1 fun x hx => by
    obtain ⟨c, hc, rfl⟩ := List.mem_map.1 hx
    have := (h.certs c (List.mem_filter.1 hc).1).head.author
    exact List.mem_map.2 ⟨(c.author - 1).toNat, by simp; omega, by omega⟩
  simp at h2
  omega
/-- each certificate two rounds above a settled anchor has it below itself -/
theorem settled_anc {d : Dag} (h : Valid d) (h0 : d.low = 0) {r : Int} (hs : settled d r = true) {a : Cert} (ha : a ∈ d.certs) (har : a.round = r) (had : a.digest = anchorI d r) : ∀ (n : Nat) (x : Cert), x ∈ d.certs → x.round = r + 2 + n → Anc d x a := by
  have hn := of_decide_eq_true h.nodes
  have hr1 := (h.certs a ha).head.round
  intro n
  induction n with
  | zero =>
    intro x hx hxr
    have hp := (h.certs x hx).head
    have hq := hp.many (by omega)
    have hpn := rising_nodup hp.pars.2.1
    have hin := h.here x hx (by omega)
    have hv := (settled_votes h hs).1
    have hrl := round_len h (r + 1)
    have hvn : (((ofR d.certs (r + 1)).filter fun c => decide (anchorI d r > 0 ∧ anchorI d r ∈ c.pars)).map (·.digest)).Nodup := h.dig.sublist (((List.filter_sublist.trans List.filter_sublist)).map _)
    have hex : ∃ p ∈ x.pars, p ∈ ((ofR d.certs (r + 1)).filter fun c => decide (anchorI d r > 0 ∧ anchorI d r ∈ c.pars)).map (·.digest) := by
      refine Classical.byContradiction fun hno => ?_
      have hnd : (x.pars ++ ((ofR d.certs (r + 1)).filter fun c => decide (anchorI d r > 0 ∧ anchorI d r ∈ c.pars)).map (·.digest)).Nodup :=
        List.nodup_append.2 ⟨hpn, hvn, fun p hp q hq e => hno ⟨p, hp, by rw [e]; exact hq⟩⟩
      have hle := sub_len (m := (ofR d.certs (r + 1)).map (·.digest)) hnd fun y hy => by
        rcases List.mem_append.1 hy with hy | hy
        · obtain ⟨c', h1, h2, h3⟩ := hin y hy
          exact List.mem_map.2 ⟨c', List.mem_filter.2 ⟨h1, decide_eq_true (by omega)⟩, h2⟩
        · exact (List.filter_sublist.map _).subset hy
      rw [List.length_append, List.length_map, List.length_map] at hle
      have hve : ((ofR d.certs (r + 1)).filter fun c => decide (anchorI d r > 0 ∧ anchorI d r ∈ c.pars)).length = votes d r := rfl
      rw [hve] at hle
      unfold quo at hq
      omega
    obtain ⟨p, hp1, hp2⟩ := hex
    obtain ⟨v, hv1, rfl⟩ := List.mem_map.1 hp2
    have h1 := List.mem_filter.1 hv1
    have h2 := List.mem_filter.1 h1.1
    have h3 := of_decide_eq_true h1.2
    have h4 := of_decide_eq_true h2.2
    exact .step (.step .refl (by omega) h2.1 hp1 (by omega)) (by omega) ha (by rw [had]; exact h3.2) (by omega)
  | succ n ih =>
    intro x hx hxr
    have hp := (h.certs x hx).head
    have hq := hp.many (by omega)
    unfold quo at hq
    have hlen : 0 < x.pars.length := by omega
    obtain ⟨p, hp1⟩ := List.exists_mem_of_length_pos hlen
    obtain ⟨c', h1, h2, h3⟩ := h.here x hx (by omega) p hp1
    exact (ih c' h1 (by omega)).cons (by omega) h1 (by rw [h2]; exact hp1) (by omega)
theorem reachJ_of {d : Dag} (h : Valid d) (h0 : d.low = 0) {r : Int} (hs : settled d r = true) {i k : Nat} {x a : Cert} (hx : d.certs[i]? = some x) (ha : d.certs[k]? = some a) (har : a.round = r) (had : a.digest = anchorI d r) (hxr : r + 2 ≤ x.round) : reachJ d i k = true := by
  have h1 := settled_anc h h0 hs (List.mem_of_getElem? ha) har had (x.round - (r + 2)).toNat x (List.mem_of_getElem? hx) (by omega)
  unfold reachJ
  rw [ha]
  exact decide_eq_true (anc_down h.sorted h.dig hx h1 (by omega)).1
theorem anchor_idx {d : Dag} (h : Valid d) {r : Int} (ha : anchorI d r ≠ 0) : ∃ k a, getC d.certs (anchorI d r) = some k ∧ d.certs[k]? = some a ∧ a.digest = anchorI d r ∧ a.round = r ∧ a.author = leadI d.nodes r := by
  obtain ⟨c, h1, h2, h3⟩ := anchor_cert h.well ha
  obtain ⟨_, h4, k, h5, h6⟩ := certOf_some h1
  exact ⟨k, c, h5, h6, h4, h2, h3⟩
theorem Sub.backR {A D : Dag} (h : Sub A D) (after : Int) : ∀ (r : Int) (i j : Nat) (x : Cert), A.certs[i]? = some x → D.certs[j]? = some x → backR A after r i = backR D after r j := by
  intro r i
  induction r, i using backR.induct (d := A) (after := after) with
  | case1 r i h1 =>
    intro j x hi hj
    rw [back_end h1, back_end (by rw [h.ld, ← h.la]; exact h1)]
  | case2 r i h1 h2 ih =>
    intro j x hi hj
    have h1' : ¬ (r - 2 ≤ after ∨ r - 2 ≤ D.low) := by rw [h.ld, ← h.la]; exact h1
    rw [back_no h1 h2, ih j x hi hj]
    by_cases h3 : anchorI D (r - 2) = 0
    · rw [back_no h1' h3]
    · obtain ⟨k, a, k1, k2, k3, k4, k5⟩ := anchor_idx h.vd h3
      rw [back_yes h1' h3 k1, if_neg]
      intro hre
      unfold reachJ at hre
      rw [k2] at hre
      have hre := of_decide_eq_true hre
      rw [← h.down hi hj] at hre
      have h4 := (down_sub A.low (a.round - 1) (A.certs.take (i + 1)).reverse ((A.certs[i]?).toList.map (·.digest))).subset hre
      rw [List.map_reverse, List.mem_reverse] at h4
      have h5 := ((List.take_sublist ..).map _).subset h4
      obtain ⟨z, hz, hze⟩ := List.mem_map.1 h5
      have hza := dig_inj h.vd.dig (h.mem hz) (List.mem_of_getElem? k2) hze
      subst hza
      exact (anchor_at h.va).2 ⟨z, hz, k4, by rw [h.nodes]; exact k5⟩ h2
  | case3 r i h1 h2 h3 =>
    obtain ⟨j, c, h4, _⟩ := anchor_get h2
    rw [h3] at h4; cases h4
  | case4 r i h1 h2 k h3 h4 ih =>
    intro j x hi hj
    have h1' : ¬ (r - 2 ≤ after ∨ r - 2 ≤ D.low) := by rw [h.ld, ← h.la]; exact h1
    obtain ⟨k', a, k1, k2, k3, k4, k5⟩ := anchor_idx h.va h2
    rw [h3] at k1; cases k1
    have h5 := h.anchor h2
    obtain ⟨m, b, m1, m2, m3, m4, m5⟩ := anchor_idx h.vd (r := r - 2) (by rw [h5]; exact h2)
    have hab := dig_inj h.vd.dig (h.mem (List.mem_of_getElem? k2)) (List.mem_of_getElem? m2) (by rw [k3, m3, h5])
    subst hab
    rw [back_yes h1 h2 h3, if_pos h4, back_yes h1' (by rw [h5]; exact h2) m1, if_pos, h5, ih m a k2 m2]
    unfold reachJ at h4 ⊢
    rw [k2] at h4; rw [m2]
    have h4 := of_decide_eq_true h4
    rw [h.down hi hj] at h4
    exact decide_eq_true h4
  | case5 r i h1 h2 k h3 h4 ih =>
    intro j x hi hj
    have h1' : ¬ (r - 2 ≤ after ∨ r - 2 ≤ D.low) := by rw [h.ld, ← h.la]; exact h1
    obtain ⟨k', a, k1, k2, k3, k4, k5⟩ := anchor_idx h.va h2
    rw [h3] at k1; cases k1
    have h5 := h.anchor h2
    obtain ⟨m, b, m1, m2, m3, m4, m5⟩ := anchor_idx h.vd (r := r - 2) (by rw [h5]; exact h2)
    have hab := dig_inj h.vd.dig (h.mem (List.mem_of_getElem? k2)) (List.mem_of_getElem? m2) (by rw [k3, m3, h5])
    subst hab
    rw [back_yes h1 h2 h3, if_neg h4, back_yes h1' (by rw [h5]; exact h2) m1, if_neg, ih j x hi hj]
    intro h6
    refine h4 ?_
    unfold reachJ at h6 ⊢
    rw [m2] at h6; rw [k2]
    have h6 := of_decide_eq_true h6
    rw [← h.down hi hj] at h6
    exact decide_eq_true h6
theorem Sub.backI {A D : Dag} (h : Sub A D) (after : Int) {r : Int} (ha : anchorI A r ≠ 0) : backI A after r = backI D after r := by
  have h5 := h.anchor ha
  obtain ⟨k, a, k1, k2, k3, k4, k5⟩ := anchor_idx h.va ha
  obtain ⟨m, b, m1, m2, m3, m4, m5⟩ := anchor_idx h.vd (r := r) (by rw [h5]; exact ha)
  have hab := dig_inj h.vd.dig (h.mem (List.mem_of_getElem? k2)) (List.mem_of_getElem? m2) (by rw [k3, m3, h5])
  subst hab
  unfold Go.Proofs.Ytoeppembokpjkaa.backI
  rw [k1, m1, h5]
  rw [Option.getD_some, Option.getD_some, h.backR after r k m a k2 m2]
/-- the chain passes by each settled anchor -/
theorem backR_pass {d : Dag} (h : Valid d) (h0 : d.low = 0) {s after : Int} (hs : settled d s = true) (has : after < s) {k : Nat} {a : Cert} (hk1 : getC d.certs (anchorI d s) = some k) (hk2 : d.certs[k]? = some a) (hk3 : a.digest = anchorI d s) (hk4 : a.round = s) (hne : anchorI d s ≠ 0) :
    ∀ (r : Int) (i : Nat) (x : Cert), d.certs[i]? = some x → r ≤ x.round → s < r → s % 2 = r % 2 → backR d after r i = backR d s r i ++ anchorI d s :: backR d after s k := by
  have hs1 := (h.certs a (List.mem_of_getElem? hk2)).head.round
  intro r i
  induction r, i using backR.induct (d := d) (after := after) with
  | case1 r i h1 => intro x hi hx hsr hp; omega
  | case2 r i h1 h2 ih =>
    intro x hi hx hsr hp
    have hne2 : r - 2 ≠ s := by intro e; rw [e] at h2; exact hne h2
    rw [back_no h1 h2, back_no (by rw [h0]; omega) h2]
    exact ih x hi (by omega) (by omega) (by omega)
  | case3 r i h1 h2 h3 =>
    obtain ⟨j, c, h4, _⟩ := anchor_get h2
    rw [h3] at h4; cases h4
  | case4 r i h1 h2 m h3 h4 ih =>
    intro x hi hx hsr hp
    rcases Int.lt_or_eq_of_le (show s ≤ r - 2 by omega) with h5 | h5
    · rw [back_yes h1 h2 h3, if_pos h4, back_yes (after := s) (by rw [h0]; omega) h2 h3, if_pos h4]
      obtain ⟨m', b, m1, m2, m3, m4, m5⟩ := anchor_idx h h2
      rw [h3] at m1; cases m1
      rw [ih b m2 (by omega) (by omega) (by omega)]
      rfl
    · subst h5
      rw [hk1] at h3; cases h3
      rw [back_yes h1 h2 hk1, if_pos h4, back_end (after := r - 2) (by omega)]
      rfl
  | case5 r i h1 h2 m h3 h4 ih =>
    intro x hi hx hsr hp
    rcases Int.lt_or_eq_of_le (show s ≤ r - 2 by omega) with h5 | h5
    · rw [back_yes h1 h2 h3, if_neg h4, back_yes (after := s) (by rw [h0]; omega) h2 h3, if_neg h4]
      exact ih x hi (by omega) (by omega) (by omega)
    · subst h5
      rw [hk1] at h3; cases h3
      exact absurd (reachJ_of h h0 hs hi hk2 hk4 hk3 (by omega)) h4
theorem backI_pass {d : Dag} (h : Valid d) (h0 : d.low = 0) {s after r : Int} (hs : settled d s = true) (has : after < s) (hsr : s < r) (hp : s % 2 = r % 2) (ha : anchorI d r ≠ 0) : backI d after r = backI d after s ++ backI d s r := by
  have hn := of_decide_eq_true h.nodes
  have hne := settled_anchor (show 0 < d.nodes by omega) hs
  obtain ⟨k, a, k1, k2, k3, k4, k5⟩ := anchor_idx h hne
  obtain ⟨m, b, m1, m2, m3, m4, m5⟩ := anchor_idx h ha
  unfold Go.Proofs.Ytoeppembokpjkaa.backI
  rw [k1, m1, Option.getD_some, Option.getD_some, backR_pass h h0 hs has k1 k2 k3 k4 hne r m b m2 (by omega) hsr hp]
  simp
/-! ## going on -/
theorem putL_app (d : Dag) (w : Wk) (l m : List Int) : w.putL d (l ++ m) = (w.putL d l).putL d m := List.foldl_append ..
theorem putL_round {d : Dag} (h : Valid d) {w : Wk} {l : List Int} {s : Int} (ha : anchorI d s ≠ 0) (hl : l.getLast? = some (anchorI d s)) : (w.putL d l).c.round = s := by
  obtain ⟨m, rfl⟩ := List.getLast?_eq_some_iff.1 hl
  obtain ⟨k, a, k1, k2, k3, k4, k5⟩ := anchor_idx h ha
  rw [putL_app]
  show (Wk.putA d (w.putL d m) (anchorI d s)).c.round = s
  rw [putA_eq k1 k2]
  exact k4
theorem goF_fuel {d : Dag} (h : Valid d) : ∀ (n m : Nat) (w : Wk), 0 ≤ w.c.round → w.c.round % 2 = 0 → topR d.certs - w.c.round ≤ n → topR d.certs - w.c.round ≤ m → Wk.goF d n w = Wk.goF d m w := by
  intro n
  induction n with
  | zero =>
    intro m w h0 h2 hn hm
    by_cases hp : nextC d w.c.round > 0
    · have := nextC_spec h.well h0 h2 hp; omega
    · rw [goF_end hp, goF_end hp]
  | succ n ih =>
    intro m w h0 h2 hn hm
    by_cases hp : nextC d w.c.round > 0
    · have hsp := nextC_spec h.well h0 h2 hp
      cases m with
      | zero => omega
      | succ m =>
        rw [Wk.goF, Wk.goF, if_pos hp, if_pos hp]
        have hr : (w.putL d (Go.Proofs.Ytoeppembokpjkaa.backI d w.c.round (nextC d w.c.round))).c.round = nextC d w.c.round := putL_round h hsp.2.2.2.2.1 (backI_all h.well hsp.1 hsp.2.2.2.2.1).2.2
        exact ih m _ (by rw [hr]; omega) (by rw [hr]; exact hsp.2.2.2.1) (by rw [hr]; omega) (by rw [hr]; omega)
    · rw [goF_end hp, goF_end hp]
def run (d : Dag) (w : Wk) : Wk := Wk.goF d (topR d.certs).toNat w
theorem run_step {d : Dag} (h : Valid d) {w : Wk} (h0 : 0 ≤ w.c.round) (h2 : w.c.round % 2 = 0) (hp : nextC d w.c.round > 0) : run d w = run d (w.putL d (backI d w.c.round (nextC d w.c.round))) := by
  have hsp := nextC_spec h.well h0 h2 hp
  have hr : (w.putL d (backI d w.c.round (nextC d w.c.round))).c.round = nextC d w.c.round := putL_round h hsp.2.2.2.2.1 (backI_all h.well hsp.1 hsp.2.2.2.2.1).2.2
  obtain ⟨n, hn⟩ : ∃ n, (topR d.certs).toNat = n + 1 := ⟨(topR d.certs).toNat - 1, by omega⟩
  unfold run
  rw [hn, Wk.goF, if_pos hp]
  exact goF_fuel h _ _ _ (by rw [hr]; omega) (by rw [hr]; exact hsp.2.2.2.1) (by rw [hr]; omega) (by rw [hr]; omega)
theorem nextC_low {d : Dag} (h0 : d.low = 0) {r : Int} (hr : 0 ≤ r) : nextC d r = nextR d (r + 2) := by
  unfold nextC
  rw [h0, show max r (0 - 0 % 2) = r by omega]
theorem run_pass {d : Dag} (h : Valid d) (hl : d.low = 0) {s : Int} (hs : settled d s = true) (hse : s % 2 = 0) : ∀ (n : Nat) (w : Wk), (s - w.c.round).toNat ≤ n → 0 ≤ w.c.round → w.c.round % 2 = 0 → w.c.round < s → run d w = run d (w.putL d (backI d w.c.round s)) := by
  have hn := of_decide_eq_true h.nodes
  have hne := settled_anchor (show 0 < d.nodes by omega) hs
  intro n
  induction n with
  | zero => intro w h1 h2 h3 h4; omega
  | succ n ih =>
    intro w h1 h2 h3 h4
    obtain ⟨h5, h6⟩ := nextR_le h hs (w.c.round + 2) (by omega) (by omega) (by omega)
    rw [← nextC_low hl h2] at h5 h6
    have hsp := nextC_spec h.well h2 h3 h5
    rw [run_step h h2 h3 h5]
    rcases Int.lt_or_eq_of_le h6 with h7 | h7
    · have hr : (w.putL d (backI d w.c.round (nextC d w.c.round))).c.round = nextC d w.c.round := putL_round h hsp.2.2.2.2.1 (backI_all h.well hsp.1 hsp.2.2.2.2.1).2.2
      rw [ih _ (by rw [hr]; omega) (by rw [hr]; omega) (by rw [hr]; exact hsp.2.2.2.1) (by rw [hr]; exact h7), hr, ← putL_app, ← backI_pass h hl hsp.2.2.1 hsp.1 h7 (by omega) hne]
    · rw [h7]
theorem sub_run {A D : Dag} (h : Sub A D) : ∀ (n : Nat) (w : Wk), inDag A w → 0 ≤ w.c.round → w.c.round % 2 = 0 → run D (Wk.goF A n w) = run D w ∧ inDag A (Wk.goF A n w) := by
  intro n
  induction n with
  | zero => intro w h1 _ _; exact ⟨rfl, h1⟩
  | succ n ih =>
    intro w h1 h2 h3
    rw [Wk.goF]
    split
    · rename_i hp
      have hsp := nextC_spec h.va.well h2 h3 hp
      have hall := backI_all h.va.well hsp.1 hsp.2.2.2.2.1
      obtain ⟨p1, p2⟩ := h.putL (l := Go.Proofs.Ytoeppembokpjkaa.backI A w.c.round (nextC A w.c.round)) h1 fun a ha => by
        obtain ⟨q, _, _, rfl, q2⟩ := hall.1 a ha
        obtain ⟨c, hc, _⟩ := anchor_cert h.va.well q2
        exact ⟨c, hc⟩
      have hr : (w.putL A (Go.Proofs.Ytoeppembokpjkaa.backI A w.c.round (nextC A w.c.round))).c.round = nextC A w.c.round := putL_round h.va hsp.2.2.2.2.1 hall.2.2
      obtain ⟨i1, i2⟩ := ih _ p2 (by rw [hr]; omega) (by rw [hr]; exact hsp.2.2.2.1)
      refine ⟨?_, i2⟩
      rw [i1, p1, h.backI _ hsp.2.2.2.2.1]
      exact (run_pass h.vd h.ld (h.settled hsp.2.2.1) hsp.2.2.2.1 _ w (Nat.le_refl _) h2 h3 hsp.1).symm
    · exact ⟨rfl, h1⟩
theorem put_outs (d : Dag) (w : Wk) (a : Int) : w.outs <+: (w.putA d a).outs := by
  unfold Wk.putA
  split
  · split
    · exact List.prefix_append ..
    · exact List.prefix_refl _
  · exact List.prefix_refl _
theorem putL_outs (d : Dag) : ∀ (l : List Int) (w : Wk), w.outs <+: (w.putL d l).outs
  | [], w => List.prefix_refl _
  | a :: l, w => (put_outs d w a).trans (putL_outs d l (w.putA d a))
theorem goF_outs (d : Dag) : ∀ (n : Nat) (w : Wk), w.outs <+: (Wk.goF d n w).outs
  | 0, w => List.prefix_refl _
  | n + 1, w => by
    rw [Wk.goF]
    split
    · exact (putL_outs d _ w).trans (goF_outs d n _)
    · exact List.prefix_refl _
end Go.Proofs.Ytoeppembokpjkaa

namespace Go.Proofs.Ytoeppembokpjkaa
open Go.Ab Go.RowKit Go.MapKept
attribute [local irreducible] ACalls AW ADraw Into fltB fnear
set_option maxRecDepth 100000
structure curMay (c : Cursor) : Prop where
  round : 0 ≤ c.round ∧ c.round ≤ 1099511627776 ∧ c.round % 2 = 0
  done : riseB c.done 1 65536
  count : 0 ≤ c.count ∧ c.count ≤ 1099511627776
theorem rise_len2 {l : List Int} (h : riseB l 1 65536) : l.length ≤ 65536 := by
  have := sub_len (m := (List.range 65536).map fun n : Nat => (n : Int) + 1) (rising_nodup h.1) fun x hx => by
    have := h.2 x hx
    exact List.mem_map.2 ⟨(x - 1).toNat, by simp; omega, by omega⟩
  simpa using this
theorem digests_true (l : List Int) (h : riseB l 1 65536) : ACalls Try.prog 59 [.d (.sl 1 (nums l))] [] (fun av L => av = .d (.bool true) ∧ L = []) := by
  refine (digests_ok l (by have := rise_len2 h; unfold few; omega)).mono ?_
  rintro _ _ ⟨rfl, rfl⟩
  exact ⟨by rw [@decide_eq_true _ (Classical.propDecidable _) h], rfl⟩
/-- how a cursor's list comes -/
def isDone (dn : DV) (done : List Int) : Prop := (dn = .nils ∧ done = []) ∨ dn = .sl 1 (nums done)
theorem curMay_ok (c : Cursor) (dn : DV) (hdn : isDone dn c.done) (h : curMay c) : ACalls Try.prog 36 [.agg [.d (.int .i64 c.round), .d dn, .d (.int .i64 c.count)]] [] (fun av L => av = .d (.bool true) ∧ L = []) := by
  have hr := h.round
  have hct := h.count
  have hdt := digests_true c.done h.done
  rcases hdn with ⟨rfl, hd⟩ | rfl
  · rw [hd] at hdt
    refine acalls_go ttOk zOk foOk Try.func36 rfl Try.ntmps36 rfl false rfl ?_
    conv => whnf
    repeat' (first | ((with_reducible apply z_wrap); (focus omega); (conv => whnf)) | ((with_reducible refine mt_dec (fun _ => ?_) (fun _ => ?_)) <;> (conv => whnf)) | ((with_reducible refine mt_eq (fun _ => ?_) (fun _ => ?_)) <;> (conv => whnf)) | ((with_reducible refine mt_ne (fun _ => ?_) (fun _ => ?_)) <;> (conv => whnf)) | ((with_reducible refine mt_not (fun _ => ?_) (fun _ => ?_)) <;> (conv => whnf)) | ((with_reducible refine mt_any (fun _ => ?_) (fun _ => ?_)) <;> (conv => whnf)))
    · refine ⟨by decide, ?_⟩
      intro z hz
      have hz2 : z = c.round % 2 := tmod_pos (by omega) hz
      clear hz
      subst hz2
      conv => whnf
      repeat' (first | ((with_reducible apply z_wrap); (focus omega); (conv => whnf)) | ((with_reducible refine mt_dec (fun _ => ?_) (fun _ => ?_)) <;> (conv => whnf)) | ((with_reducible refine mt_eq (fun _ => ?_) (fun _ => ?_)) <;> (conv => whnf)) | ((with_reducible refine mt_ne (fun _ => ?_) (fun _ => ?_)) <;> (conv => whnf)) | ((with_reducible refine mt_not (fun _ => ?_) (fun _ => ?_)) <;> (conv => whnf)) | ((with_reducible refine mt_any (fun _ => ?_) (fun _ => ?_)) <;> (conv => whnf)))
      · refine hdt.mono ?_
        rintro _ _ ⟨rfl, rfl⟩
        conv => whnf
        repeat' (first | ((with_reducible apply z_wrap); (focus omega); (conv => whnf)) | ((with_reducible refine mt_dec (fun _ => ?_) (fun _ => ?_)) <;> (conv => whnf)) | ((with_reducible refine mt_eq (fun _ => ?_) (fun _ => ?_)) <;> (conv => whnf)) | ((with_reducible refine mt_ne (fun _ => ?_) (fun _ => ?_)) <;> (conv => whnf)) | ((with_reducible refine mt_not (fun _ => ?_) (fun _ => ?_)) <;> (conv => whnf)) | ((with_reducible refine mt_any (fun _ => ?_) (fun _ => ?_)) <;> (conv => whnf)))
        · exact ⟨boolEq (by simp; omega), rfl⟩
        · rename_i h; exact absurd hct.1 h
      · rename_i h; exact absurd hr.2.2 h
    · rename_i h1 h2; exact absurd hr.2.1 h2
    · rename_i h1; exact absurd hr.1 h1
  · refine acalls_go ttOk zOk foOk Try.func36 rfl Try.ntmps36 rfl false rfl ?_
    conv => whnf
    repeat' (first | ((with_reducible apply z_wrap); (focus omega); (conv => whnf)) | ((with_reducible refine mt_dec (fun _ => ?_) (fun _ => ?_)) <;> (conv => whnf)) | ((with_reducible refine mt_eq (fun _ => ?_) (fun _ => ?_)) <;> (conv => whnf)) | ((with_reducible refine mt_ne (fun _ => ?_) (fun _ => ?_)) <;> (conv => whnf)) | ((with_reducible refine mt_not (fun _ => ?_) (fun _ => ?_)) <;> (conv => whnf)) | ((with_reducible refine mt_any (fun _ => ?_) (fun _ => ?_)) <;> (conv => whnf)))
    · refine ⟨by decide, ?_⟩
      intro z hz
      have hz2 : z = c.round % 2 := tmod_pos (by omega) hz
      clear hz
      subst hz2
      conv => whnf
      repeat' (first | ((with_reducible apply z_wrap); (focus omega); (conv => whnf)) | ((with_reducible refine mt_dec (fun _ => ?_) (fun _ => ?_)) <;> (conv => whnf)) | ((with_reducible refine mt_eq (fun _ => ?_) (fun _ => ?_)) <;> (conv => whnf)) | ((with_reducible refine mt_ne (fun _ => ?_) (fun _ => ?_)) <;> (conv => whnf)) | ((with_reducible refine mt_not (fun _ => ?_) (fun _ => ?_)) <;> (conv => whnf)) | ((with_reducible refine mt_any (fun _ => ?_) (fun _ => ?_)) <;> (conv => whnf)))
      · refine hdt.mono ?_
        rintro _ _ ⟨rfl, rfl⟩
        conv => whnf
        repeat' (first | ((with_reducible apply z_wrap); (focus omega); (conv => whnf)) | ((with_reducible refine mt_dec (fun _ => ?_) (fun _ => ?_)) <;> (conv => whnf)) | ((with_reducible refine mt_eq (fun _ => ?_) (fun _ => ?_)) <;> (conv => whnf)) | ((with_reducible refine mt_ne (fun _ => ?_) (fun _ => ?_)) <;> (conv => whnf)) | ((with_reducible refine mt_not (fun _ => ?_) (fun _ => ?_)) <;> (conv => whnf)) | ((with_reducible refine mt_any (fun _ => ?_) (fun _ => ?_)) <;> (conv => whnf)))
        · exact ⟨boolEq (by simp; omega), rfl⟩
        · rename_i h; exact absurd hct.1 h
      · rename_i h; exact absurd hr.2.2 h
    · rename_i h1 h2; exact absurd hr.2.1 h2
    · rename_i h1; exact absurd hr.1 h1
/-- how far a cursor goes, and what is put out -/
def finW (d : Dag) (c : Cursor) : Wk := Wk.goF d (topR d.certs).toNat ⟨c, []⟩
theorem start_okay {d : Dag} {c : Cursor} (h : curMay c) : (Wk.mk c []).okay d := ⟨⟨h.done.1, rise_len2 h.done, h.count⟩, Nat.zero_le _⟩
def old (d : Dag) (c : Cursor) : Prop := d.low > 0 ∧ d.low > c.round - 8
def zCurAV : AV := .agg [.d (.int .i64 0), .d .nils, .d (.int .i64 0)]
/-- what a step hands back -/
def Wk.res (w : Wk) : AV := .tup [.agg [.d (.int .i64 w.c.round), .arr 0, .d (.int .i64 w.c.count)], .d (.sl 1 (nums w.outs)), .d (.int .i64 0)]
set_option maxHeartbeats 1000000 in
theorem step_ok (d : Dag) (hw : d.well) (hmay : ACalls Try.prog 35 [d.av] [] (fun av L => av = .d (.bool true) ∧ L = [])) (c : Cursor) (dn : DV) (hdn : isDone dn c.done) (h : curMay c) :
    ACalls Try.prog 12 [d.av, .agg [.d (.int .i64 c.round), .d dn, .d (.int .i64 c.count)]] [] (fun av L => (old d c ∧ av = .tup [zCurAV, .d (.sl 1 []), .d (.int .i64 6)] ∧ L = []) ∨ (¬ old d c ∧ av = (finW d c).res ∧ L = [.row 3 1 (nums (finW d c).c.done) false])) := by
  have hcm := curMay_ok c dn hdn h
  have hfew := rise_len2 h.done
  have hcl := clone_ok c.done (by omega)
  have hr := h.round
  have hgo := go_ok d hw c ⟨hr.1, hr.2.1⟩ hr.2.2 (start_okay h) (finW d c) rfl
  obtain ⟨fw, hfw⟩ : ∃ fw, finW d c = fw := ⟨_, rfl⟩
  rw [hfw] at hgo ⊢
  have hlow := hw.low
  rcases hdn with ⟨rfl, hd⟩ | rfl
  · rw [hd] at hcl hgo
    refine acalls_go ttOk zOk foOk Try.func12 rfl Try.ntmps12 rfl false rfl ?_
    conv => whnf
    refine hmay.mono ?_
    rintro _ _ ⟨rfl, rfl⟩
    conv => whnf
    repeat' (first | ((with_reducible apply z_wrap); (focus omega); (conv => whnf)) | ((with_reducible refine mt_dec (fun _ => ?_) (fun _ => ?_)) <;> (conv => whnf)) | ((with_reducible refine mt_eq (fun _ => ?_) (fun _ => ?_)) <;> (conv => whnf)) | ((with_reducible refine mt_ne (fun _ => ?_) (fun _ => ?_)) <;> (conv => whnf)) | ((with_reducible refine mt_not (fun _ => ?_) (fun _ => ?_)) <;> (conv => whnf)) | ((with_reducible refine mt_any (fun _ => ?_) (fun _ => ?_)) <;> (conv => whnf)))
    refine hcm.mono ?_
    rintro _ _ ⟨rfl, rfl⟩
    conv => whnf
    repeat' (first | ((with_reducible apply z_wrap); (focus omega); (conv => whnf)) | ((with_reducible refine mt_dec (fun _ => ?_) (fun _ => ?_)) <;> (conv => whnf)) | ((with_reducible refine mt_eq (fun _ => ?_) (fun _ => ?_)) <;> (conv => whnf)) | ((with_reducible refine mt_ne (fun _ => ?_) (fun _ => ?_)) <;> (conv => whnf)) | ((with_reducible refine mt_not (fun _ => ?_) (fun _ => ?_)) <;> (conv => whnf)) | ((with_reducible refine mt_any (fun _ => ?_) (fun _ => ?_)) <;> (conv => whnf)))
    · rename_i h1 h2
      exact .inl ⟨⟨h1, h2⟩, rfl, rfl⟩
    · rename_i h1 h2
      have hno : ¬ old d c := fun h => h2 h.2
      refine hcl.mono ?_
      rintro _ _ ⟨rfl, rfl⟩
      conv => whnf
      repeat' (first | ((with_reducible apply z_wrap); (focus omega); (conv => whnf)) | ((with_reducible refine mt_dec (fun _ => ?_) (fun _ => ?_)) <;> (conv => whnf)) | ((with_reducible refine mt_eq (fun _ => ?_) (fun _ => ?_)) <;> (conv => whnf)) | ((with_reducible refine mt_ne (fun _ => ?_) (fun _ => ?_)) <;> (conv => whnf)) | ((with_reducible refine mt_not (fun _ => ?_) (fun _ => ?_)) <;> (conv => whnf)) | ((with_reducible refine mt_any (fun _ => ?_) (fun _ => ?_)) <;> (conv => whnf)))
      refine hgo.mono ?_
      rintro _ _ (⟨hfd, rfl, rfl⟩ | ⟨rfl, rfl⟩)
      · conv => whnf
        repeat' (first | ((with_reducible apply z_wrap); (focus omega); (conv => whnf)) | ((with_reducible refine mt_dec (fun _ => ?_) (fun _ => ?_)) <;> (conv => whnf)) | ((with_reducible refine mt_eq (fun _ => ?_) (fun _ => ?_)) <;> (conv => whnf)) | ((with_reducible refine mt_ne (fun _ => ?_) (fun _ => ?_)) <;> (conv => whnf)) | ((with_reducible refine mt_not (fun _ => ?_) (fun _ => ?_)) <;> (conv => whnf)) | ((with_reducible refine mt_any (fun _ => ?_) (fun _ => ?_)) <;> (conv => whnf)))
        exact .inr ⟨hno, rfl, rfl⟩
      · conv => whnf
        repeat' (first | ((with_reducible apply z_wrap); (focus omega); (conv => whnf)) | ((with_reducible refine mt_dec (fun _ => ?_) (fun _ => ?_)) <;> (conv => whnf)) | ((with_reducible refine mt_eq (fun _ => ?_) (fun _ => ?_)) <;> (conv => whnf)) | ((with_reducible refine mt_ne (fun _ => ?_) (fun _ => ?_)) <;> (conv => whnf)) | ((with_reducible refine mt_not (fun _ => ?_) (fun _ => ?_)) <;> (conv => whnf)) | ((with_reducible refine mt_any (fun _ => ?_) (fun _ => ?_)) <;> (conv => whnf)))
        exact .inr ⟨hno, rfl, rfl⟩
    · rename_i h1
      have hno : ¬ old d c := fun h => h1 h.1
      refine hcl.mono ?_
      rintro _ _ ⟨rfl, rfl⟩
      conv => whnf
      repeat' (first | ((with_reducible apply z_wrap); (focus omega); (conv => whnf)) | ((with_reducible refine mt_dec (fun _ => ?_) (fun _ => ?_)) <;> (conv => whnf)) | ((with_reducible refine mt_eq (fun _ => ?_) (fun _ => ?_)) <;> (conv => whnf)) | ((with_reducible refine mt_ne (fun _ => ?_) (fun _ => ?_)) <;> (conv => whnf)) | ((with_reducible refine mt_not (fun _ => ?_) (fun _ => ?_)) <;> (conv => whnf)) | ((with_reducible refine mt_any (fun _ => ?_) (fun _ => ?_)) <;> (conv => whnf)))
      refine hgo.mono ?_
      rintro _ _ (⟨hfd, rfl, rfl⟩ | ⟨rfl, rfl⟩)
      · conv => whnf
        repeat' (first | ((with_reducible apply z_wrap); (focus omega); (conv => whnf)) | ((with_reducible refine mt_dec (fun _ => ?_) (fun _ => ?_)) <;> (conv => whnf)) | ((with_reducible refine mt_eq (fun _ => ?_) (fun _ => ?_)) <;> (conv => whnf)) | ((with_reducible refine mt_ne (fun _ => ?_) (fun _ => ?_)) <;> (conv => whnf)) | ((with_reducible refine mt_not (fun _ => ?_) (fun _ => ?_)) <;> (conv => whnf)) | ((with_reducible refine mt_any (fun _ => ?_) (fun _ => ?_)) <;> (conv => whnf)))
        exact .inr ⟨hno, rfl, rfl⟩
      · conv => whnf
        repeat' (first | ((with_reducible apply z_wrap); (focus omega); (conv => whnf)) | ((with_reducible refine mt_dec (fun _ => ?_) (fun _ => ?_)) <;> (conv => whnf)) | ((with_reducible refine mt_eq (fun _ => ?_) (fun _ => ?_)) <;> (conv => whnf)) | ((with_reducible refine mt_ne (fun _ => ?_) (fun _ => ?_)) <;> (conv => whnf)) | ((with_reducible refine mt_not (fun _ => ?_) (fun _ => ?_)) <;> (conv => whnf)) | ((with_reducible refine mt_any (fun _ => ?_) (fun _ => ?_)) <;> (conv => whnf)))
        exact .inr ⟨hno, rfl, rfl⟩
  · refine acalls_go ttOk zOk foOk Try.func12 rfl Try.ntmps12 rfl false rfl ?_
    conv => whnf
    refine hmay.mono ?_
    rintro _ _ ⟨rfl, rfl⟩
    conv => whnf
    repeat' (first | ((with_reducible apply z_wrap); (focus omega); (conv => whnf)) | ((with_reducible refine mt_dec (fun _ => ?_) (fun _ => ?_)) <;> (conv => whnf)) | ((with_reducible refine mt_eq (fun _ => ?_) (fun _ => ?_)) <;> (conv => whnf)) | ((with_reducible refine mt_ne (fun _ => ?_) (fun _ => ?_)) <;> (conv => whnf)) | ((with_reducible refine mt_not (fun _ => ?_) (fun _ => ?_)) <;> (conv => whnf)) | ((with_reducible refine mt_any (fun _ => ?_) (fun _ => ?_)) <;> (conv => whnf)))
    refine hcm.mono ?_
    rintro _ _ ⟨rfl, rfl⟩
    conv => whnf
    repeat' (first | ((with_reducible apply z_wrap); (focus omega); (conv => whnf)) | ((with_reducible refine mt_dec (fun _ => ?_) (fun _ => ?_)) <;> (conv => whnf)) | ((with_reducible refine mt_eq (fun _ => ?_) (fun _ => ?_)) <;> (conv => whnf)) | ((with_reducible refine mt_ne (fun _ => ?_) (fun _ => ?_)) <;> (conv => whnf)) | ((with_reducible refine mt_not (fun _ => ?_) (fun _ => ?_)) <;> (conv => whnf)) | ((with_reducible refine mt_any (fun _ => ?_) (fun _ => ?_)) <;> (conv => whnf)))
    · rename_i h1 h2
      exact .inl ⟨⟨h1, h2⟩, rfl, rfl⟩
    · rename_i h1 h2
      have hno : ¬ old d c := fun h => h2 h.2
      refine hcl.mono ?_
      rintro _ _ ⟨rfl, rfl⟩
      conv => whnf
      repeat' (first | ((with_reducible apply z_wrap); (focus omega); (conv => whnf)) | ((with_reducible refine mt_dec (fun _ => ?_) (fun _ => ?_)) <;> (conv => whnf)) | ((with_reducible refine mt_eq (fun _ => ?_) (fun _ => ?_)) <;> (conv => whnf)) | ((with_reducible refine mt_ne (fun _ => ?_) (fun _ => ?_)) <;> (conv => whnf)) | ((with_reducible refine mt_not (fun _ => ?_) (fun _ => ?_)) <;> (conv => whnf)) | ((with_reducible refine mt_any (fun _ => ?_) (fun _ => ?_)) <;> (conv => whnf)))
      refine hgo.mono ?_
      rintro _ _ (⟨hfd, rfl, rfl⟩ | ⟨rfl, rfl⟩)
      · conv => whnf
        repeat' (first | ((with_reducible apply z_wrap); (focus omega); (conv => whnf)) | ((with_reducible refine mt_dec (fun _ => ?_) (fun _ => ?_)) <;> (conv => whnf)) | ((with_reducible refine mt_eq (fun _ => ?_) (fun _ => ?_)) <;> (conv => whnf)) | ((with_reducible refine mt_ne (fun _ => ?_) (fun _ => ?_)) <;> (conv => whnf)) | ((with_reducible refine mt_not (fun _ => ?_) (fun _ => ?_)) <;> (conv => whnf)) | ((with_reducible refine mt_any (fun _ => ?_) (fun _ => ?_)) <;> (conv => whnf)))
        exact .inr ⟨hno, rfl, rfl⟩
      · conv => whnf
        repeat' (first | ((with_reducible apply z_wrap); (focus omega); (conv => whnf)) | ((with_reducible refine mt_dec (fun _ => ?_) (fun _ => ?_)) <;> (conv => whnf)) | ((with_reducible refine mt_eq (fun _ => ?_) (fun _ => ?_)) <;> (conv => whnf)) | ((with_reducible refine mt_ne (fun _ => ?_) (fun _ => ?_)) <;> (conv => whnf)) | ((with_reducible refine mt_not (fun _ => ?_) (fun _ => ?_)) <;> (conv => whnf)) | ((with_reducible refine mt_any (fun _ => ?_) (fun _ => ?_)) <;> (conv => whnf)))
        exact .inr ⟨hno, rfl, rfl⟩
    · rename_i h1
      have hno : ¬ old d c := fun h => h1 h.1
      refine hcl.mono ?_
      rintro _ _ ⟨rfl, rfl⟩
      conv => whnf
      repeat' (first | ((with_reducible apply z_wrap); (focus omega); (conv => whnf)) | ((with_reducible refine mt_dec (fun _ => ?_) (fun _ => ?_)) <;> (conv => whnf)) | ((with_reducible refine mt_eq (fun _ => ?_) (fun _ => ?_)) <;> (conv => whnf)) | ((with_reducible refine mt_ne (fun _ => ?_) (fun _ => ?_)) <;> (conv => whnf)) | ((with_reducible refine mt_not (fun _ => ?_) (fun _ => ?_)) <;> (conv => whnf)) | ((with_reducible refine mt_any (fun _ => ?_) (fun _ => ?_)) <;> (conv => whnf)))
      refine hgo.mono ?_
      rintro _ _ (⟨hfd, rfl, rfl⟩ | ⟨rfl, rfl⟩)
      · conv => whnf
        repeat' (first | ((with_reducible apply z_wrap); (focus omega); (conv => whnf)) | ((with_reducible refine mt_dec (fun _ => ?_) (fun _ => ?_)) <;> (conv => whnf)) | ((with_reducible refine mt_eq (fun _ => ?_) (fun _ => ?_)) <;> (conv => whnf)) | ((with_reducible refine mt_ne (fun _ => ?_) (fun _ => ?_)) <;> (conv => whnf)) | ((with_reducible refine mt_not (fun _ => ?_) (fun _ => ?_)) <;> (conv => whnf)) | ((with_reducible refine mt_any (fun _ => ?_) (fun _ => ?_)) <;> (conv => whnf)))
        exact .inr ⟨hno, rfl, rfl⟩
      · conv => whnf
        repeat' (first | ((with_reducible apply z_wrap); (focus omega); (conv => whnf)) | ((with_reducible refine mt_dec (fun _ => ?_) (fun _ => ?_)) <;> (conv => whnf)) | ((with_reducible refine mt_eq (fun _ => ?_) (fun _ => ?_)) <;> (conv => whnf)) | ((with_reducible refine mt_ne (fun _ => ?_) (fun _ => ?_)) <;> (conv => whnf)) | ((with_reducible refine mt_not (fun _ => ?_) (fun _ => ?_)) <;> (conv => whnf)) | ((with_reducible refine mt_any (fun _ => ?_) (fun _ => ?_)) <;> (conv => whnf)))
        exact .inr ⟨hno, rfl, rfl⟩
end Go.Proofs.Ytoeppembokpjkaa

namespace Go.Proofs.Ytoeppembokpjkaa
open Go.Ab Go.RowKit
theorem putL_okay {d : Dag} (hw : d.well) {w : Wk} {l : List Int} (h : Chain d w l) (hok : w.okay d) : (w.putL d l).okay d := by
  have : ∀ j, j ≤ l.length → goInI d [] w l false (w.putL d (l.take j)) j := by
    intro j
    induction j with
    | zero =>
      intro _
      exact goInI.start hw h hok (done0 := []) (b := false) (by intro h; cases h)
    | succ j ih =>
      intro hj
      obtain ⟨x, i, c, h1, h2, h3, h4⟩ := h.at hw (show j < l.length by omega)
      have h5 := goInI.step hw h (ih (by omega)) (by omega) h1 h2 h3 h4
      have e := h5.is
      rw [e] at h5
      exact h5
  have := (this l.length (Nat.le_refl _)).okay
  rwa [List.take_length] at this
theorem goF_okay {d : Dag} (h : Valid d) : ∀ (n : Nat) (w : Wk), w.okay d → 0 ≤ w.c.round → w.c.round % 2 = 0 → (Wk.goF d n w).okay d ∧ 0 ≤ (Wk.goF d n w).c.round ∧ (Wk.goF d n w).c.round % 2 = 0 ∧ (Wk.goF d n w).c.round ≤ max w.c.round (topR d.certs) := by
  intro n
  induction n with
  | zero => intro w h1 h2 h3; exact ⟨h1, h2, h3, by show w.c.round ≤ _; omega⟩
  | succ n ih =>
    intro w h1 h2 h3
    rw [Wk.goF]
    split
    · rename_i hp
      have hsp := nextC_spec h.well h2 h3 hp
      have hall := backI_all h.well hsp.1 hsp.2.2.2.2.1
      have hr : (w.putL d (backI d w.c.round (nextC d w.c.round))).c.round = nextC d w.c.round := putL_round h hsp.2.2.2.2.1 hall.2.2
      obtain ⟨i1, i2, i3, i4⟩ := ih _ (putL_okay h.well ⟨hall.1, hall.2.1, hall.2.2⟩ h1) (by rw [hr]; omega) (by rw [hr]; exact hsp.2.2.2.1)
      exact ⟨i1, i2, i3, by rw [hr] at i4; omega⟩
    · exact ⟨h1, h2, h3, by omega⟩
theorem finW_run (d : Dag) (c : Cursor) : finW d c = run d ⟨c, []⟩ := rfl
theorem sub_fin {A D : Dag} (h : Sub A D) {c : Cursor} (hc : inDag A ⟨c, []⟩) (h0 : 0 ≤ c.round) (h2 : c.round % 2 = 0) : run D (finW A c) = finW D c ∧ inDag A (finW A c) := sub_run h _ _ hc h0 h2
/-- what was put out ahead stands ahead -/
def Wk.pre (o : List Int) (w : Wk) : Wk := ⟨w.c, o ++ w.outs⟩
theorem putA_pre (d : Dag) (o : List Int) (w : Wk) (a : Int) : (w.pre o).putA d a = (w.putA d a).pre o := by
  unfold Wk.putA
  split
  · split
    · unfold Wk.put Wk.pre
      simp
    · rfl
  · rfl
theorem putL_pre (d : Dag) (o : List Int) : ∀ (l : List Int) (w : Wk), (w.pre o).putL d l = (w.putL d l).pre o
  | [], w => rfl
  | a :: l, w => by
    show ((w.pre o).putA d a).putL d l = ((w.putA d a).putL d l).pre o
    rw [putA_pre, putL_pre d o l]
theorem goF_pre (d : Dag) (o : List Int) : ∀ (n : Nat) (w : Wk), Wk.goF d n (w.pre o) = (Wk.goF d n w).pre o
  | 0, w => rfl
  | n + 1, w => by
    rw [Wk.goF, Wk.goF]
    show (if nextC d w.c.round > 0 then _ else _) = _
    split
    · show Wk.goF d n ((w.pre o).putL d (backI d w.c.round (nextC d w.c.round))) = _
      rw [putL_pre, goF_pre d o n]
    · rfl
/-- going on from a cursor that a part gave -/
theorem fin_on {A D : Dag} (h : Sub A D) {c : Cursor} (hc : inDag A ⟨c, []⟩) (h0 : 0 ≤ c.round) (h2 : c.round % 2 = 0) : (finW D (finW A c).c).c = (finW D c).c ∧ (finW D c).outs = (finW A c).outs ++ (finW D (finW A c).c).outs := by
  have h1 := (sub_fin h hc h0 h2).1
  have h3 : finW A c = (Wk.mk (finW A c).c []).pre (finW A c).outs := by unfold Wk.pre; rw [List.append_nil]
  have h4 : finW D c = (finW D (finW A c).c).pre (finW A c).outs := by
    rw [← h1]
    have := goF_pre D (finW A c).outs (topR D.certs).toNat (Wk.mk (finW A c).c [])
    rw [← h3] at this
    exact this
  exact ⟨by rw [h4]; rfl, by rw [h4]; rfl⟩
theorem Sub.refl {d : Dag} (h : Valid d) (h0 : d.low = 0) : Sub d d := ⟨h, h, h0, h0, rfl, List.Sublist.refl _⟩
end Go.Proofs.Ytoeppembokpjkaa

namespace Go.Proofs.Ytoeppembokpjkaa
open Go.Ab Go.RowKit
/-! ## nothing twice; each behind its parents -/
theorem rise_mem {d : Dag} (h : Valid d) {i : Nat} {c : Cert} (hi : d.certs[i]? = some c) {low x : Int} (hx : x ∈ riseI d i low) : ∃ cx, certOf d x = some cx ∧ low < cx.round ∧ cx.round ≤ c.round := by
  have h1 : x ∈ downI d i low := List.mem_reverse.1 hx
  have hsub := (down_sub d.low low (d.certs.take (i + 1)).reverse ((d.certs[i]?).toList.map (·.digest))).subset h1
  rw [List.map_reverse, List.mem_reverse] at hsub
  obtain ⟨cx, hcx, rfl⟩ := List.mem_map.1 hsub
  have hm : cx ∈ d.certs := List.mem_of_mem_take hcx
  refine ⟨cx, certOf_mem h.dig hm, ?_, ?_⟩
  · refine Classical.byContradiction fun hno => ?_
    have hall : ∀ {l : List Cert} {ks : List Int}, desc l → (l.map (·.digest)).Nodup → cx ∈ l → cx.digest ∈ downL d.low low l ks → low < cx.round := by
      intro l
      induction l with
      | nil => intro ks _ _ hc _; cases hc
      | cons z r ih =>
        intro ks hd hn hc hdn
        have hd' := List.pairwise_cons.1 hd
        have hn' := List.nodup_cons.1 hn
        rw [downL] at hdn
        split at hdn
        · cases hdn
        · rename_i hz
          rcases List.mem_cons.1 hc with rfl | hc
          · omega
          · have hne : cx.digest ≠ z.digest := fun e => hn'.1 (List.mem_map.2 ⟨cx, hc, e⟩)
            split at hdn
            · rcases List.mem_cons.1 hdn with e | hdn
              · exact absurd e hne
              · exact ih hd'.2 hn'.2 hc hdn
            · exact ih hd'.2 hn'.2 hc hdn
    rw [downI_eq h.sorted h.dig hi] at h1
    exact hno (hall (desc_rev h.sorted) (by rw [List.map_reverse]; exact (List.reverse_perm _).nodup_iff.2 h.dig) (List.mem_reverse.2 hm) h1)
  · obtain ⟨j, hj, rfl⟩ := List.mem_take_iff_getElem.1 hcx
    obtain ⟨hil, rfl⟩ := List.getElem?_eq_some_iff.1 hi
    rcases Nat.lt_or_ge j i with h2 | h2
    · have := before_iff.1 (List.pairwise_iff_getElem.1 h.sorted j i (by omega) hil h2); omega
    · have : j = i := by omega
      subst this; exact Int.le_refl _
/-- by rising places -/
theorem rise_sub (d : Dag) (i : Nat) (low : Int) : (riseI d i low).Sublist (d.certs.map (·.digest)) := by
  have h1 := down_sub d.low low (d.certs.take (i + 1)).reverse ((d.certs[i]?).toList.map (·.digest))
  rw [List.map_reverse] at h1
  have h2 := List.reverse_sublist.2 h1
  rw [List.reverse_reverse] at h2
  exact h2.trans ((List.take_sublist ..).map _)
theorem rise_closed {d : Dag} (h : Valid d) {i : Nat} {c : Cert} (hi : d.certs[i]? = some c) {low : Int} {x p : Cert} (hx : x ∈ d.certs) (hxr : x.digest ∈ riseI d i low) (hx1 : x.round > d.low + 1) (hp : p ∈ d.certs) (hpx : p.digest ∈ x.pars) (hpr : p.round = x.round - 1) (hl : low < p.round) : p.digest ∈ riseI d i low := by
  have h1 : x.digest ∈ downI d i low := List.mem_reverse.1 hxr
  refine List.mem_reverse.2 (show p.digest ∈ downI d i low from ?_)
  rw [downI_eq h.sorted h.dig hi] at h1 ⊢
  exact down_closed (desc_rev h.sorted) (by rw [List.map_reverse]; exact (List.reverse_perm _).nodup_iff.2 h.dig) (List.mem_reverse.2 hx) h1 hx1 (List.mem_reverse.2 hp) hpx hl (by omega)
/-- rounds never fall along the list -/
theorem sub_rounds {d : Dag} (h : Valid d) {l : List Int} (hl : l.Sublist (d.certs.map (·.digest))) : l.Pairwise fun x y => ∀ cx cy, certOf d x = some cx → certOf d y = some cy → cx.round ≤ cy.round := by
  refine List.Pairwise.sublist hl (List.pairwise_map.2 ?_)
  refine List.Pairwise.imp_of_mem ?_ h.sorted
  intro a b ha hb hab ca cb h1 h2
  rw [certOf_mem h.dig ha] at h1
  rw [certOf_mem h.dig hb] at h2
  cases h1; cases h2
  have := before_iff.1 hab
  omega
/-- y is no parent of x -/
def noPar (d : Dag) (x y : Int) : Prop := ∀ c, certOf d x = some c → c.round > 1 → y ∉ c.pars
structure Once (d : Dag) (w : Wk) : Prop where
  digs : ∀ x ∈ w.outs, ∃ c, certOf d x = some c ∧ c.round ≤ w.c.round
  nodup : w.outs.Nodup
  kept : ∀ x ∈ w.outs, ∀ c, certOf d x = some c → c.round > w.c.round - 8 → x ∈ w.c.done
  fresh : ∀ x ∈ w.c.done, x ∈ w.outs
  pars : ∀ x ∈ w.outs, ∀ c, certOf d x = some c → c.round > 1 → ∀ y ∈ c.pars, y ∈ w.outs ∨ ∃ c', certOf d y = some c' ∧ c'.round ≤ w.c.round - 8
  ord : w.outs.Pairwise (noPar d)
theorem parent_cert {d : Dag} (h : Valid d) (h0 : d.low = 0) {c : Cert} (hc : c ∈ d.certs) (hr : c.round > 1) {y : Int} (hy : y ∈ c.pars) : ∃ p, p ∈ d.certs ∧ p.digest = y ∧ certOf d y = some p ∧ p.round = c.round - 1 := by
  obtain ⟨p, h1, h2, h3⟩ := h.here c hc (by rw [h0]; exact hr) y hy
  exact ⟨p, h1, h2, by rw [← h2]; exact certOf_mem h.dig h1, h3⟩
theorem Once.put {d : Dag} (h : Valid d) (h0 : d.low = 0) {w : Wk} (hw : Once d w) {i : Nat} {c : Cert} (hi : d.certs[i]? = some c) (hr : w.c.round < c.round) : Once d (w.put d i c) := by
  have hl : ∀ x ∈ behindI d i c.round w.c.done, ∃ cx, certOf d x = some cx ∧ c.round - 8 < cx.round ∧ cx.round ≤ c.round := fun x hx => rise_mem h hi (List.mem_filter.1 hx).1
  have hnew : ∀ x ∈ behindI d i c.round w.c.done, x ∉ w.outs := by
    intro x hx hxo
    obtain ⟨cx, h1, h2, _⟩ := hl x hx
    exact (behind_nodup h.dig i c.round w.c.done).2 x hx (hw.kept x hxo cx h1 (by omega))
  have hdone : ∀ x, x ∈ (w.put d i c).c.done ↔ (x ∈ w.c.done ∨ x ∈ behindI d i c.round w.c.done) ∧ keepB d c.round x = true := by
    intro x
    show x ∈ sortI (keepI d c.round (w.c.done ++ behindI d i c.round w.c.done)) ↔ _
    rw [sortI, List.mem_mergeSort]
    show x ∈ List.filter _ _ ↔ _
    rw [List.mem_filter, List.mem_append]
  have hkeep : ∀ {x : Int} {cx : Cert}, certOf d x = some cx → cx.round > c.round - 8 → keepB d c.round x = true := by
    intro x cx h1 h2
    show (match certOf d x with | some c' => decide (c'.round > c.round - 8) | none => false) = true
    rw [h1]; exact decide_eq_true h2
  refine ⟨?_, ?_, ?_, ?_, ?_, ?_⟩
  · intro x hx
    show ∃ c' : Cert, certOf d x = some c' ∧ c'.round ≤ c.round
    rcases List.mem_append.1 hx with hx | hx
    · obtain ⟨cx, h1, h2⟩ := hw.digs x hx; exact ⟨cx, h1, by omega⟩
    · obtain ⟨cx, h1, h2, h3⟩ := hl x hx; exact ⟨cx, h1, h3⟩
  · exact List.nodup_append.2 ⟨hw.nodup, (behind_nodup h.dig i c.round w.c.done).1, fun x hx y hy e => hnew y hy (by rw [← e]; exact hx)⟩
  · intro x hx cx h1 h2
    have h2 : cx.round > c.round - 8 := h2
    refine (hdone x).2 ⟨?_, hkeep h1 h2⟩
    rcases List.mem_append.1 hx with hx | hx
    · exact .inl (hw.kept x hx cx h1 (by omega))
    · exact .inr hx
  · intro x hx
    rcases ((hdone x).1 hx).1 with h1 | h1
    · exact List.mem_append_left _ (hw.fresh x h1)
    · exact List.mem_append_right _ h1
  · intro x hx cx h1 h2 y hy
    show _ ∨ ∃ c' : Cert, certOf d y = some c' ∧ c'.round ≤ c.round - 8
    rcases List.mem_append.1 hx with hx | hx
    · rcases hw.pars x hx cx h1 h2 y hy with h3 | ⟨c', h3, h4⟩
      · exact .inl (List.mem_append_left _ h3)
      · exact .inr ⟨c', h3, by omega⟩
    · obtain ⟨hcm, hcd, _⟩ := certOf_some h1
      obtain ⟨p, p1, p2, p3, p4⟩ := parent_cert h h0 hcm h2 hy
      by_cases h5 : p.round ≤ c.round - 8
      · exact .inr ⟨p, p3, h5⟩
      · left
        by_cases h6 : y ∈ w.c.done
        · exact List.mem_append_left _ (hw.fresh y h6)
        · refine List.mem_append_right _ (List.mem_filter.2 ⟨?_, by simpa using h6⟩)
          rw [← p2]
          exact rise_closed h hi hcm (by rw [hcd]; exact (List.mem_filter.1 hx).1) (by rw [h0]; exact h2) p1 (by rw [p2]; exact hy) p4 (by omega)
  · refine List.pairwise_append.2 ⟨hw.ord, ?_, ?_⟩
    · refine List.Pairwise.imp_of_mem ?_ (sub_rounds h (List.filter_sublist.trans (rise_sub d i (c.round - 8))))
      intro x y hx hy hxy cx h1 h2 h3
      obtain ⟨hcm, hcd, _⟩ := certOf_some h1
      obtain ⟨p, p1, p2, p3, p4⟩ := parent_cert h h0 hcm h2 h3
      have := hxy cx p h1 p3
      omega
    · intro x hx y hy cx h1 h2 h3
      rcases hw.pars x hx cx h1 h2 y h3 with h4 | ⟨c', h4, h5⟩
      · exact hnew y hy h4
      · obtain ⟨cy, k1, k2, _⟩ := hl y hy
        rw [h4] at k1; cases k1
        omega
theorem Once.putL {d : Dag} (h : Valid d) (h0 : d.low = 0) : ∀ {l : List Int} {w : Wk}, Once d w → (∀ a ∈ l, ∃ c, certOf d a = some c ∧ w.c.round < c.round) → l.Pairwise (fun x y => roundOf d x < roundOf d y) → Once d (w.putL d l)
  | [], w, hw, _, _ => hw
  | a :: l, w, hw, ha, hp => by
    have hp' := List.pairwise_cons.1 hp
    obtain ⟨c, hc, hr⟩ := ha a (by simp)
    obtain ⟨_, _, i, h1, h2⟩ := certOf_some hc
    show Once d ((w.putA d a).putL d l)
    have e : w.putA d a = w.put d i c := putA_eq h1 h2
    rw [e]
    refine Once.putL h h0 (hw.put h h0 h2 hr) ?_ hp'.2
    intro b hb
    obtain ⟨cb, hcb, _⟩ := ha b (by simp [hb])
    refine ⟨cb, hcb, ?_⟩
    have := hp'.1 b hb
    unfold roundOf at this
    rw [hc, hcb] at this
    exact this
theorem Once.goF {d : Dag} (h : Valid d) (h0 : d.low = 0) : ∀ (n : Nat) (w : Wk), Once d w → 0 ≤ w.c.round → w.c.round % 2 = 0 → Once d (Wk.goF d n w)
  | 0, w, hw, _, _ => hw
  | n + 1, w, hw, h2, h3 => by
    rw [Wk.goF]
    split
    · rename_i hp
      have hsp := nextC_spec h.well h2 h3 hp
      have hall := backI_all h.well hsp.1 hsp.2.2.2.2.1
      have hr : (w.putL d (backI d w.c.round (nextC d w.c.round))).c.round = nextC d w.c.round := putL_round h hsp.2.2.2.2.1 hall.2.2
      refine Once.goF h h0 n _ (hw.putL h h0 ?_ hall.2.1) (by rw [hr]; omega) (by rw [hr]; exact hsp.2.2.2.1)
      intro a ha
      obtain ⟨q, q1, q2, rfl, q3⟩ := hall.1 a ha
      obtain ⟨c, hc, hcr, _⟩ := anchor_cert h.well q3
      exact ⟨c, hc, by omega⟩
    · exact hw
theorem fin_once {d : Dag} (h : Valid d) (h0 : d.low = 0) : Once d (finW d ⟨0, [], 0⟩) :=
  Once.goF h h0 _ ⟨⟨0, [], 0⟩, []⟩ ⟨fun x hx => (by cases hx), List.nodup_nil, fun x hx => (by cases hx), fun x hx => (by cases hx), fun x hx => (by cases hx), List.Pairwise.nil⟩ (by decide) (by decide)
/-- no parent of one stands at it or behind it -/
theorem Once.behind {d : Dag} (h : Valid d) (h0 : d.low = 0) {w : Wk} (hw : Once d w) {i : Nat} {x : Int} (hx : w.outs[i]? = some x) {c : Cert} (hc : certOf d x = some c) (hr : c.round > 1) {y : Int} (hy : y ∈ c.pars) : y ∉ w.outs.drop i := by
  obtain ⟨hil, rfl⟩ := List.getElem?_eq_some_iff.1 hx
  intro hin
  rw [List.drop_eq_getElem_cons hil] at hin
  obtain ⟨hcm, hcd, _⟩ := certOf_some hc
  obtain ⟨p, p1, p2, p3, p4⟩ := parent_cert h h0 hcm hr hy
  rcases List.mem_cons.1 hin with e | hin
  · rw [e, hc] at p3; cases p3; omega
  · obtain ⟨j, hj, e⟩ := List.mem_drop_iff_getElem.1 hin
    exact List.pairwise_iff_getElem.1 hw.ord i (i + 1 + j) hil (by omega) (by omega) c hc hr (by rw [e]; exact hy)
theorem Once.ahead {d : Dag} {w : Wk} (hw : Once d w) {i : Nat} {x : Int} (hx : w.outs[i]? = some x) : x ∉ w.outs.take i := by
  obtain ⟨hil, rfl⟩ := List.getElem?_eq_some_iff.1 hx
  intro hin
  obtain ⟨j, hj, e⟩ := List.mem_take_iff_getElem.1 hin
  exact List.pairwise_iff_getElem.1 hw.nodup j i (by omega) hil (by omega) e
end Go.Proofs.Ytoeppembokpjkaa

namespace Go.Proofs.Ytoeppembokpjkaa
open Go.Ab Go.RowKit Go.MapKept
attribute [local irreducible] ACalls AW ADraw Into fltB fnear
set_option maxRecDepth 100000
def mayS (d : Dag) (j : Nat) : AF × List AB :=
  ([(1, .ptr 0 0), (3, .map 1), (30, .d (.sl 6 (certsD d.certs))), (31, .d (.int .i64 d.certs.length)), (32, .d (.int .i64 j))], [.cells d.cells, .map (mapP (seenP (d.certs.take j)))])
def mayI (d : Dag) (j : Nat) (c : Cert) (m : Nat) : AF × List AB :=
  ([(1, .ptr 0 0), (3, .map 1), (5, .ptr 2 0), (30, .d (.sl 6 (certsD d.certs))), (31, .d (.int .i64 d.certs.length)), (32, .d (.int .i64 j)), (76, .d (.sl 1 (nums c.pars))), (77, .d (.int .i64 c.pars.length)), (78, .d (.int .i64 m))], [.cells d.cells, .map (mapP (seenP (d.certs.take j))), .cells c.cells])
set_option maxHeartbeats 2000000 in
theorem dagMay_ok (d : Dag) (h : Valid d) : ACalls Try.prog 35 [d.av] [] (fun av L => av = .d (.bool true) ∧ L = []) := by
  have hcl := certsD_length d.certs
  have hn := of_decide_eq_true h.nodes
  have hlow := h.low
  have hlen := h.len
  have hwell := h.well
  refine acalls_go ttOk zOk foOk Try.func35 rfl Try.ntmps35 rfl false rfl ?_
  conv => whnf
  refine (is_ok d.nodes).mono ?_
  rintro _ _ ⟨rfl, rfl⟩
  rw [h.nodes]
  conv => whnf
  repeat' (first | ((with_reducible apply rd_intro); (focus (intro K hK; (conv => whnf); first | exact hK | (intro z hz; rw [wrapI (by omega)] at hz; subst hz; exact hK))); (conv => whnf)) | ((with_reducible apply gd_and); (focus ((conv => whnf) <;> first | rfl | (intro K hK; (conv => whnf); first | exact hK | (intro z hz; rw [wrapI (by omega)] at hz; subst hz; exact hK)))); (conv => whnf)) | ((with_reducible apply z_wrap); (focus omega); (conv => whnf)) | ((with_reducible refine mt_dec (fun _ => ?_) (fun _ => ?_)) <;> (conv => whnf)) | ((with_reducible refine mt_eq (fun _ => ?_) (fun _ => ?_)) <;> (conv => whnf)) | ((with_reducible refine mt_ne (fun _ => ?_) (fun _ => ?_)) <;> (conv => whnf)) | ((with_reducible refine mt_not (fun _ => ?_) (fun _ => ?_)) <;> (conv => whnf)) | ((with_reducible refine mt_any (fun _ => ?_) (fun _ => ?_)) <;> (conv => whnf)))
  · rename_i h1; omega
  · rename_i h1 h2; omega
  · rename_i h1 h2 h3; omega
  · skip
    refine loop_go ttOk zOk foOk (σ := Nat) (mayS d) (fun j => j ≤ d.certs.length) (fun j => d.certs.length - j) [1, 3, 30, 31, 32] ?_ ?_
    · conv => whnf
      exact ⟨0, by rw [hcl]; rfl, rfl, Nat.zero_le _⟩
    · intro j hj
      conv => whnf
      repeat' (first | ((with_reducible apply rd_intro); (focus (intro K hK; (conv => whnf); first | exact hK | (intro z hz; rw [wrapI (by omega)] at hz; subst hz; exact hK))); (conv => whnf)) | ((with_reducible apply gd_and); (focus ((conv => whnf) <;> first | rfl | (intro K hK; (conv => whnf); first | exact hK | (intro z hz; rw [wrapI (by omega)] at hz; subst hz; exact hK)))); (conv => whnf)) | ((with_reducible apply z_wrap); (focus omega); (conv => whnf)) | ((with_reducible refine mt_dec (fun _ => ?_) (fun _ => ?_)) <;> (conv => whnf)) | ((with_reducible refine mt_eq (fun _ => ?_) (fun _ => ?_)) <;> (conv => whnf)) | ((with_reducible refine mt_ne (fun _ => ?_) (fun _ => ?_)) <;> (conv => whnf)) | ((with_reducible refine mt_not (fun _ => ?_) (fun _ => ?_)) <;> (conv => whnf)) | ((with_reducible refine mt_any (fun _ => ?_) (fun _ => ?_)) <;> (conv => whnf)))
      · rename_i hjl
        have hjn : j < d.certs.length := Int.ofNat_lt.1 hjl
        refine Exists.elim (⟨_, List.getElem?_eq_getElem hjn⟩ : ∃ c, d.certs[j]? = some c) fun c hc => ?_
        have hcm := List.mem_of_getElem? hc
        have hok := h.certs c hcm
        have hfl := h.fewL hcm
        have hab := h.above c hcm
        have hft := hwell.fit.fit c hcm
        have hrb := hok.head.round
        have hpl := nums_length c.pars
        refine ⟨by omega, c.cs, certsD_at hc, ?_⟩
        conv => whnf
        repeat' (first | ((with_reducible apply rd_intro); (focus (intro K hK; (conv => whnf); first | exact hK | (intro z hz; rw [wrapI (by omega)] at hz; subst hz; exact hK))); (conv => whnf)) | ((with_reducible apply gd_and); (focus ((conv => whnf) <;> first | rfl | (intro K hK; (conv => whnf); first | exact hK | (intro z hz; rw [wrapI (by omega)] at hz; subst hz; exact hK)))); (conv => whnf)) | ((with_reducible apply z_wrap); (focus omega); (conv => whnf)) | ((with_reducible refine mt_dec (fun _ => ?_) (fun _ => ?_)) <;> (conv => whnf)) | ((with_reducible refine mt_eq (fun _ => ?_) (fun _ => ?_)) <;> (conv => whnf)) | ((with_reducible refine mt_ne (fun _ => ?_) (fun _ => ?_)) <;> (conv => whnf)) | ((with_reducible refine mt_not (fun _ => ?_) (fun _ => ?_)) <;> (conv => whnf)) | ((with_reducible refine mt_any (fun _ => ?_) (fun _ => ?_)) <;> (conv => whnf)))
        ((with_reducible refine draw_pl ttOk zOk foOk mixedOk pl35x7 ?_ ?_); (focus kernel_rfl); (conv => whnf))
        repeat' (first | ((with_reducible apply rd_intro); (focus (intro K hK; (conv => whnf); first | exact hK | (intro z hz; rw [wrapI (by omega)] at hz; subst hz; exact hK))); (conv => whnf)) | ((with_reducible apply gd_and); (focus ((conv => whnf) <;> first | rfl | (intro K hK; (conv => whnf); first | exact hK | (intro z hz; rw [wrapI (by omega)] at hz; subst hz; exact hK)))); (conv => whnf)) | ((with_reducible apply z_wrap); (focus omega); (conv => whnf)) | ((with_reducible refine mt_dec (fun _ => ?_) (fun _ => ?_)) <;> (conv => whnf)) | ((with_reducible refine mt_eq (fun _ => ?_) (fun _ => ?_)) <;> (conv => whnf)) | ((with_reducible refine mt_ne (fun _ => ?_) (fun _ => ?_)) <;> (conv => whnf)) | ((with_reducible refine mt_not (fun _ => ?_) (fun _ => ?_)) <;> (conv => whnf)) | ((with_reducible refine mt_any (fun _ => ?_) (fun _ => ?_)) <;> (conv => whnf)))
        refine (mayCert_ok c hfl d.nodes).mono ?_
        rintro _ _ ⟨rfl, rfl⟩
        rw [@decide_eq_true _ (Classical.propDecidable _) hok]
        conv => whnf
        repeat' (first | ((with_reducible apply rd_intro); (focus (intro K hK; (conv => whnf); first | exact hK | (intro z hz; rw [wrapI (by omega)] at hz; subst hz; exact hK))); (conv => whnf)) | ((with_reducible apply gd_and); (focus ((conv => whnf) <;> first | rfl | (intro K hK; (conv => whnf); first | exact hK | (intro z hz; rw [wrapI (by omega)] at hz; subst hz; exact hK)))); (conv => whnf)) | ((with_reducible apply z_wrap); (focus omega); (conv => whnf)) | ((with_reducible refine mt_dec (fun _ => ?_) (fun _ => ?_)) <;> (conv => whnf)) | ((with_reducible refine mt_eq (fun _ => ?_) (fun _ => ?_)) <;> (conv => whnf)) | ((with_reducible refine mt_ne (fun _ => ?_) (fun _ => ?_)) <;> (conv => whnf)) | ((with_reducible refine mt_not (fun _ => ?_) (fun _ => ?_)) <;> (conv => whnf)) | ((with_reducible refine mt_any (fun _ => ?_) (fun _ => ?_)) <;> (conv => whnf)))
        · rename_i h1; exact absurd hab (by omega)
        · rename_i h1
          obtain ⟨q, hq, hq2⟩ := mapP_find c.digest (seenP (d.certs.take j)) 0
          have hqn : q = none := by
            rcases hq2 with ⟨v, i, hv, _⟩ | ⟨_, hv⟩
            · rw [h.fresh hc] at hv; cases hv
            · exact hv
          subst hqn
          ((with_reducible apply rd_intro); (focus (intro K hK; (conv => whnf); exact ⟨none, hq, hK⟩)); (conv => whnf))
          repeat' (first | ((with_reducible apply rd_intro); (focus (intro K hK; (conv => whnf); first | exact hK | (intro z hz; rw [wrapI (by omega)] at hz; subst hz; exact hK))); (conv => whnf)) | ((with_reducible apply gd_and); (focus ((conv => whnf) <;> first | rfl | (intro K hK; (conv => whnf); first | exact hK | (intro z hz; rw [wrapI (by omega)] at hz; subst hz; exact hK)))); (conv => whnf)) | ((with_reducible apply z_wrap); (focus omega); (conv => whnf)) | ((with_reducible refine mt_dec (fun _ => ?_) (fun _ => ?_)) <;> (conv => whnf)) | ((with_reducible refine mt_eq (fun _ => ?_) (fun _ => ?_)) <;> (conv => whnf)) | ((with_reducible refine mt_ne (fun _ => ?_) (fun _ => ?_)) <;> (conv => whnf)) | ((with_reducible refine mt_not (fun _ => ?_) (fun _ => ?_)) <;> (conv => whnf)) | ((with_reducible refine mt_any (fun _ => ?_) (fun _ => ?_)) <;> (conv => whnf)))
          · rename_i hj0
            refine Exists.elim (⟨_, List.getElem?_eq_getElem (show j - 1 < d.certs.length by omega)⟩ : ∃ c, d.certs[j - 1]? = some c) fun c0 hc0 => ?_
            have hft0 := hwell.fit.fit c0 (List.mem_of_getElem? hc0)
            have hbef : c0.before c.round c.author = true := by
              have := List.pairwise_iff_getElem.1 h.sorted (j - 1) j (by omega) hjn (by omega)
              rw [List.getElem?_eq_getElem hjn] at hc
              rw [List.getElem?_eq_getElem (by omega)] at hc0
              rw [← Option.some.inj hc, ← Option.some.inj hc0]
              exact this
            have hls : decide (c0.round < c.round ∨ c0.round = c.round ∧ c0.author < c.author) = true := hbef
            ((with_reducible apply rd_intro); (focus (intro K hK; (conv => whnf); exact ⟨by omega, c0.cs, (by rw [show ((j : Int) - 1).toNat = j - 1 by omega]; exact certsD_at hc0), hK⟩)); (conv => whnf))
            repeat' (first | ((with_reducible apply rd_intro); (focus (intro K hK; (conv => whnf); first | exact hK | (intro z hz; rw [wrapI (by omega)] at hz; subst hz; exact hK))); (conv => whnf)) | ((with_reducible apply gd_and); (focus ((conv => whnf) <;> first | rfl | (intro K hK; (conv => whnf); first | exact hK | (intro z hz; rw [wrapI (by omega)] at hz; subst hz; exact hK)))); (conv => whnf)) | ((with_reducible apply z_wrap); (focus omega); (conv => whnf)) | ((with_reducible refine mt_dec (fun _ => ?_) (fun _ => ?_)) <;> (conv => whnf)) | ((with_reducible refine mt_eq (fun _ => ?_) (fun _ => ?_)) <;> (conv => whnf)) | ((with_reducible refine mt_ne (fun _ => ?_) (fun _ => ?_)) <;> (conv => whnf)) | ((with_reducible refine mt_not (fun _ => ?_) (fun _ => ?_)) <;> (conv => whnf)) | ((with_reducible refine mt_any (fun _ => ?_) (fun _ => ?_)) <;> (conv => whnf)))
            refine (dagPlace_ok c0).mono ?_
            rintro _ _ ⟨rfl, rfl⟩
            conv => whnf
            repeat' (first | ((with_reducible apply rd_intro); (focus (intro K hK; (conv => whnf); first | exact hK | (intro z hz; rw [wrapI (by omega)] at hz; subst hz; exact hK))); (conv => whnf)) | ((with_reducible apply gd_and); (focus ((conv => whnf) <;> first | rfl | (intro K hK; (conv => whnf); first | exact hK | (intro z hz; rw [wrapI (by omega)] at hz; subst hz; exact hK)))); (conv => whnf)) | ((with_reducible apply z_wrap); (focus omega); (conv => whnf)) | ((with_reducible refine mt_dec (fun _ => ?_) (fun _ => ?_)) <;> (conv => whnf)) | ((with_reducible refine mt_eq (fun _ => ?_) (fun _ => ?_)) <;> (conv => whnf)) | ((with_reducible refine mt_ne (fun _ => ?_) (fun _ => ?_)) <;> (conv => whnf)) | ((with_reducible refine mt_not (fun _ => ?_) (fun _ => ?_)) <;> (conv => whnf)) | ((with_reducible refine mt_any (fun _ => ?_) (fun _ => ?_)) <;> (conv => whnf)))
            refine (dagPlace_ok c).mono ?_
            rintro _ _ ⟨rfl, rfl⟩
            conv => whnf
            repeat' (first | ((with_reducible apply rd_intro); (focus (intro K hK; (conv => whnf); first | exact hK | (intro z hz; rw [wrapI (by omega)] at hz; subst hz; exact hK))); (conv => whnf)) | ((with_reducible apply gd_and); (focus ((conv => whnf) <;> first | rfl | (intro K hK; (conv => whnf); first | exact hK | (intro z hz; rw [wrapI (by omega)] at hz; subst hz; exact hK)))); (conv => whnf)) | ((with_reducible apply z_wrap); (focus omega); (conv => whnf)) | ((with_reducible refine mt_dec (fun _ => ?_) (fun _ => ?_)) <;> (conv => whnf)) | ((with_reducible refine mt_eq (fun _ => ?_) (fun _ => ?_)) <;> (conv => whnf)) | ((with_reducible refine mt_ne (fun _ => ?_) (fun _ => ?_)) <;> (conv => whnf)) | ((with_reducible refine mt_not (fun _ => ?_) (fun _ => ?_)) <;> (conv => whnf)) | ((with_reducible refine mt_any (fun _ => ?_) (fun _ => ?_)) <;> (conv => whnf)))
            refine (placeLess_ok hft0.1 hft0.2 hft.1 hft.2).mono ?_
            rintro _ _ ⟨rfl, rfl⟩
            rw [hls]
            conv => whnf
            repeat' (first | ((with_reducible apply rd_intro); (focus (intro K hK; (conv => whnf); first | exact hK | (intro z hz; rw [wrapI (by omega)] at hz; subst hz; exact hK))); (conv => whnf)) | ((with_reducible apply gd_and); (focus ((conv => whnf) <;> first | rfl | (intro K hK; (conv => whnf); first | exact hK | (intro z hz; rw [wrapI (by omega)] at hz; subst hz; exact hK)))); (conv => whnf)) | ((with_reducible apply z_wrap); (focus omega); (conv => whnf)) | ((with_reducible refine mt_dec (fun _ => ?_) (fun _ => ?_)) <;> (conv => whnf)) | ((with_reducible refine mt_eq (fun _ => ?_) (fun _ => ?_)) <;> (conv => whnf)) | ((with_reducible refine mt_ne (fun _ => ?_) (fun _ => ?_)) <;> (conv => whnf)) | ((with_reducible refine mt_not (fun _ => ?_) (fun _ => ?_)) <;> (conv => whnf)) | ((with_reducible refine mt_any (fun _ => ?_) (fun _ => ?_)) <;> (conv => whnf)))
            refine loop_go ttOk zOk foOk (σ := Nat) (mayI d j c) (fun m => m ≤ c.pars.length) (fun m => c.pars.length - m) [1, 3, 5, 30, 31, 32, 76, 77, 78] ?_ ?_
            · conv => whnf
              exact ⟨0, by rw [hpl]; rfl, rfl, Nat.zero_le _⟩
            · intro m hm
              conv => whnf
              repeat' (first | ((with_reducible apply rd_intro); (focus (intro K hK; (conv => whnf); first | exact hK | (intro z hz; rw [wrapI (by omega)] at hz; subst hz; exact hK))); (conv => whnf)) | ((with_reducible apply gd_and); (focus ((conv => whnf) <;> first | rfl | (intro K hK; (conv => whnf); first | exact hK | (intro z hz; rw [wrapI (by omega)] at hz; subst hz; exact hK)))); (conv => whnf)) | ((with_reducible apply z_wrap); (focus omega); (conv => whnf)) | ((with_reducible refine mt_dec (fun _ => ?_) (fun _ => ?_)) <;> (conv => whnf)) | ((with_reducible refine mt_eq (fun _ => ?_) (fun _ => ?_)) <;> (conv => whnf)) | ((with_reducible refine mt_ne (fun _ => ?_) (fun _ => ?_)) <;> (conv => whnf)) | ((with_reducible refine mt_not (fun _ => ?_) (fun _ => ?_)) <;> (conv => whnf)) | ((with_reducible refine mt_any (fun _ => ?_) (fun _ => ?_)) <;> (conv => whnf)))
              · rename_i hml
                have hmn : m < c.pars.length := Int.ofNat_lt.1 hml
                have hpf := hfl.pars
                unfold few at hpf
                refine Exists.elim (⟨_, List.getElem?_eq_getElem hmn⟩ : ∃ x, c.pars[m]? = some x) fun x hx => ?_
                refine ⟨by omega, [.int .i64 x], nums_at hx, ?_⟩
                conv => whnf
                repeat' (first | ((with_reducible apply rd_intro); (focus (intro K hK; (conv => whnf); first | exact hK | (intro z hz; rw [wrapI (by omega)] at hz; subst hz; exact hK))); (conv => whnf)) | ((with_reducible apply gd_and); (focus ((conv => whnf) <;> first | rfl | (intro K hK; (conv => whnf); first | exact hK | (intro z hz; rw [wrapI (by omega)] at hz; subst hz; exact hK)))); (conv => whnf)) | ((with_reducible apply z_wrap); (focus omega); (conv => whnf)) | ((with_reducible refine mt_dec (fun _ => ?_) (fun _ => ?_)) <;> (conv => whnf)) | ((with_reducible refine mt_eq (fun _ => ?_) (fun _ => ?_)) <;> (conv => whnf)) | ((with_reducible refine mt_ne (fun _ => ?_) (fun _ => ?_)) <;> (conv => whnf)) | ((with_reducible refine mt_not (fun _ => ?_) (fun _ => ?_)) <;> (conv => whnf)) | ((with_reducible refine mt_any (fun _ => ?_) (fun _ => ?_)) <;> (conv => whnf)))
                · rename_i hrl
                  have hpa := h.parent hc (by omega) (List.mem_of_getElem? hx)
                  refine Exists.elim (mapP_find x (seenP (d.certs.take j)) 0) fun q hq => ?_
                  have hqs : ∃ i, q = some (i, .v (.one (.int .i64 (c.round - 1)))) := by
                    rcases hq.2 with ⟨v, i, hv, e⟩ | ⟨hv, _⟩
                    · rw [hpa] at hv; cases hv; exact ⟨i, e⟩
                    · rw [hpa] at hv; cases hv
                  refine Exists.elim hqs fun i hqe => ?_
                  have hq1 := hq.1
                  rw [hqe] at hq1
                  refine ⟨_, hq1, ?_⟩
                  conv => whnf
                  repeat' (first | ((with_reducible apply rd_intro); (focus (intro K hK; (conv => whnf); first | exact hK | (intro z hz; rw [wrapI (by omega)] at hz; subst hz; exact hK))); (conv => whnf)) | ((with_reducible apply gd_and); (focus ((conv => whnf) <;> first | rfl | (intro K hK; (conv => whnf); first | exact hK | (intro z hz; rw [wrapI (by omega)] at hz; subst hz; exact hK)))); (conv => whnf)) | ((with_reducible apply z_wrap); (focus omega); (conv => whnf)) | ((with_reducible refine mt_dec (fun _ => ?_) (fun _ => ?_)) <;> (conv => whnf)) | ((with_reducible refine mt_eq (fun _ => ?_) (fun _ => ?_)) <;> (conv => whnf)) | ((with_reducible refine mt_ne (fun _ => ?_) (fun _ => ?_)) <;> (conv => whnf)) | ((with_reducible refine mt_not (fun _ => ?_) (fun _ => ?_)) <;> (conv => whnf)) | ((with_reducible refine mt_any (fun _ => ?_) (fun _ => ?_)) <;> (conv => whnf)))
                  · rename_i hne
                    exfalso
                    revert hne
                    simp
                  · exact ⟨m + 1, rfl, rfl, by omega, by omega⟩
                · exact ⟨m + 1, rfl, rfl, by omega, by omega⟩
              · rename_i hml
                refine Exists.elim (mapP_new (v := c.round) (h.fresh hc)) fun q hq => ?_
                refine ⟨q, hq.1, ?_⟩
                have hnew : mputAt (mapP (seenP (d.certs.take j))) q (.one (.int .i64 c.digest)) (.v (.one (.int .i64 c.round))) = mapP (seenP (d.certs.take (j + 1))) := by
                  rw [hq.2, List.take_add_one, hc]; simp [seenP]
                rw [hnew]
                conv => whnf
                repeat' (first | ((with_reducible apply rd_intro); (focus (intro K hK; (conv => whnf); first | exact hK | (intro z hz; rw [wrapI (by omega)] at hz; subst hz; exact hK))); (conv => whnf)) | ((with_reducible apply gd_and); (focus ((conv => whnf) <;> first | rfl | (intro K hK; (conv => whnf); first | exact hK | (intro z hz; rw [wrapI (by omega)] at hz; subst hz; exact hK)))); (conv => whnf)) | ((with_reducible apply z_wrap); (focus omega); (conv => whnf)) | ((with_reducible refine mt_dec (fun _ => ?_) (fun _ => ?_)) <;> (conv => whnf)) | ((with_reducible refine mt_eq (fun _ => ?_) (fun _ => ?_)) <;> (conv => whnf)) | ((with_reducible refine mt_ne (fun _ => ?_) (fun _ => ?_)) <;> (conv => whnf)) | ((with_reducible refine mt_not (fun _ => ?_) (fun _ => ?_)) <;> (conv => whnf)) | ((with_reducible refine mt_any (fun _ => ?_) (fun _ => ?_)) <;> (conv => whnf)))
                exact ⟨j + 1, rfl, rfl, by omega, by omega⟩
          · rename_i hj0
            refine loop_go ttOk zOk foOk (σ := Nat) (mayI d j c) (fun m => m ≤ c.pars.length) (fun m => c.pars.length - m) [1, 3, 5, 30, 31, 32, 76, 77, 78] ?_ ?_
            · conv => whnf
              exact ⟨0, by rw [hpl]; rfl, rfl, Nat.zero_le _⟩
            · intro m hm
              conv => whnf
              repeat' (first | ((with_reducible apply rd_intro); (focus (intro K hK; (conv => whnf); first | exact hK | (intro z hz; rw [wrapI (by omega)] at hz; subst hz; exact hK))); (conv => whnf)) | ((with_reducible apply gd_and); (focus ((conv => whnf) <;> first | rfl | (intro K hK; (conv => whnf); first | exact hK | (intro z hz; rw [wrapI (by omega)] at hz; subst hz; exact hK)))); (conv => whnf)) | ((with_reducible apply z_wrap); (focus omega); (conv => whnf)) | ((with_reducible refine mt_dec (fun _ => ?_) (fun _ => ?_)) <;> (conv => whnf)) | ((with_reducible refine mt_eq (fun _ => ?_) (fun _ => ?_)) <;> (conv => whnf)) | ((with_reducible refine mt_ne (fun _ => ?_) (fun _ => ?_)) <;> (conv => whnf)) | ((with_reducible refine mt_not (fun _ => ?_) (fun _ => ?_)) <;> (conv => whnf)) | ((with_reducible refine mt_any (fun _ => ?_) (fun _ => ?_)) <;> (conv => whnf)))
              · rename_i hml
                have hmn : m < c.pars.length := Int.ofNat_lt.1 hml
                have hpf := hfl.pars
                unfold few at hpf
                refine Exists.elim (⟨_, List.getElem?_eq_getElem hmn⟩ : ∃ x, c.pars[m]? = some x) fun x hx => ?_
                refine ⟨by omega, [.int .i64 x], nums_at hx, ?_⟩
                conv => whnf
                repeat' (first | ((with_reducible apply rd_intro); (focus (intro K hK; (conv => whnf); first | exact hK | (intro z hz; rw [wrapI (by omega)] at hz; subst hz; exact hK))); (conv => whnf)) | ((with_reducible apply gd_and); (focus ((conv => whnf) <;> first | rfl | (intro K hK; (conv => whnf); first | exact hK | (intro z hz; rw [wrapI (by omega)] at hz; subst hz; exact hK)))); (conv => whnf)) | ((with_reducible apply z_wrap); (focus omega); (conv => whnf)) | ((with_reducible refine mt_dec (fun _ => ?_) (fun _ => ?_)) <;> (conv => whnf)) | ((with_reducible refine mt_eq (fun _ => ?_) (fun _ => ?_)) <;> (conv => whnf)) | ((with_reducible refine mt_ne (fun _ => ?_) (fun _ => ?_)) <;> (conv => whnf)) | ((with_reducible refine mt_not (fun _ => ?_) (fun _ => ?_)) <;> (conv => whnf)) | ((with_reducible refine mt_any (fun _ => ?_) (fun _ => ?_)) <;> (conv => whnf)))
                · rename_i hrl
                  have hpa := h.parent hc (by omega) (List.mem_of_getElem? hx)
                  refine Exists.elim (mapP_find x (seenP (d.certs.take j)) 0) fun q hq => ?_
                  have hqs : ∃ i, q = some (i, .v (.one (.int .i64 (c.round - 1)))) := by
                    rcases hq.2 with ⟨v, i, hv, e⟩ | ⟨hv, _⟩
                    · rw [hpa] at hv; cases hv; exact ⟨i, e⟩
                    · rw [hpa] at hv; cases hv
                  refine Exists.elim hqs fun i hqe => ?_
                  have hq1 := hq.1
                  rw [hqe] at hq1
                  refine ⟨_, hq1, ?_⟩
                  conv => whnf
                  repeat' (first | ((with_reducible apply rd_intro); (focus (intro K hK; (conv => whnf); first | exact hK | (intro z hz; rw [wrapI (by omega)] at hz; subst hz; exact hK))); (conv => whnf)) | ((with_reducible apply gd_and); (focus ((conv => whnf) <;> first | rfl | (intro K hK; (conv => whnf); first | exact hK | (intro z hz; rw [wrapI (by omega)] at hz; subst hz; exact hK)))); (conv => whnf)) | ((with_reducible apply z_wrap); (focus omega); (conv => whnf)) | ((with_reducible refine mt_dec (fun _ => ?_) (fun _ => ?_)) <;> (conv => whnf)) | ((with_reducible refine mt_eq (fun _ => ?_) (fun _ => ?_)) <;> (conv => whnf)) | ((with_reducible refine mt_ne (fun _ => ?_) (fun _ => ?_)) <;> (conv => whnf)) | ((with_reducible refine mt_not (fun _ => ?_) (fun _ => ?_)) <;> (conv => whnf)) | ((with_reducible refine mt_any (fun _ => ?_) (fun _ => ?_)) <;> (conv => whnf)))
                  · rename_i hne
                    exfalso
                    revert hne
                    simp
                  · exact ⟨m + 1, rfl, rfl, by omega, by omega⟩
                · exact ⟨m + 1, rfl, rfl, by omega, by omega⟩
              · rename_i hml
                refine Exists.elim (mapP_new (v := c.round) (h.fresh hc)) fun q hq => ?_
                refine ⟨q, hq.1, ?_⟩
                have hnew : mputAt (mapP (seenP (d.certs.take j))) q (.one (.int .i64 c.digest)) (.v (.one (.int .i64 c.round))) = mapP (seenP (d.certs.take (j + 1))) := by
                  rw [hq.2, List.take_add_one, hc]; simp [seenP]
                rw [hnew]
                conv => whnf
                repeat' (first | ((with_reducible apply rd_intro); (focus (intro K hK; (conv => whnf); first | exact hK | (intro z hz; rw [wrapI (by omega)] at hz; subst hz; exact hK))); (conv => whnf)) | ((with_reducible apply gd_and); (focus ((conv => whnf) <;> first | rfl | (intro K hK; (conv => whnf); first | exact hK | (intro z hz; rw [wrapI (by omega)] at hz; subst hz; exact hK)))); (conv => whnf)) | ((with_reducible apply z_wrap); (focus omega); (conv => whnf)) | ((with_reducible refine mt_dec (fun _ => ?_) (fun _ => ?_)) <;> (conv => whnf)) | ((with_reducible refine mt_eq (fun _ => ?_) (fun _ => ?_)) <;> (conv => whnf)) | ((with_reducible refine mt_ne (fun _ => ?_) (fun _ => ?_)) <;> (conv => whnf)) | ((with_reducible refine mt_not (fun _ => ?_) (fun _ => ?_)) <;> (conv => whnf)) | ((with_reducible refine mt_any (fun _ => ?_) (fun _ => ?_)) <;> (conv => whnf)))
                exact ⟨j + 1, rfl, rfl, by omega, by omega⟩
      · exact ⟨rfl, rfl⟩
end Go.Proofs.Ytoeppembokpjkaa

namespace Go.Proofs.Ytoeppembokpjkaa
open Go.Ab Go.RowKit Go.MapKept
attribute [local irreducible] ACalls AW ADraw Into fltB fnear
set_option maxRecDepth 100000
def tiny {α : Type} (l : List α) : Prop := l.length ≤ 1099511627776
structure Cert.tiny (c : Cert) : Prop where
  bats : Go.Proofs.Ytoeppembokpjkaa.tiny c.bats
  pars : Go.Proofs.Ytoeppembokpjkaa.tiny c.pars
  sigs : Go.Proofs.Ytoeppembokpjkaa.tiny c.sigs
theorem num_ok (n : Int) : ACalls Try.prog 13 [.d (.int .i64 n)] [] (fun av L => av = .d (.int .i64 n) ∧ L = []) := by
  refine acalls_go ttOk zOk foOk Try.func13 rfl Try.ntmps13 rfl false rfl ?_
  conv => whnf
  exact ⟨rfl, rfl⟩
theorem wrap_u64 (i : Int) : IntKind.u64.wrap i = i % 18446744073709551616 := by
  simp [IntKind.wrap, IntKind.signed, IntKind.bits]
theorem within_ok (i n : Int) (hn : 0 < n) (hn2 : n ≤ 1000000) (hi : -9223372036854775808 ≤ i ∧ i < 9223372036854775808) : ACalls Try.prog 14 [.d (.int .i64 i), .d (.int .i64 n)] [] (fun av L => av = .d (.int .i64 ((i % 18446744073709551616) % n)) ∧ L = []) := by
  refine acalls_go ttOk zOk foOk Try.func14 rfl Try.ntmps14 rfl false rfl ?_
  conv => whnf
  intro z hz
  rw [wrap_u64] at hz
  have h0 := Int.emod_nonneg i (show (18446744073709551616 : Int) ≠ 0 by decide)
  rw [← hz] at h0 ⊢
  clear hz
  conv => whnf
  intro m hm
  have hm' : m = n := by rw [hm, wrap_u64]; omega
  clear hm
  subst hm'
  conv => whnf
  refine ⟨by omega, ?_⟩
  intro r hr
  have hr' : r = z % m := by rw [hr, Int.tmod_eq_emod_of_nonneg h0]
  clear hr
  have h1 := Int.emod_nonneg z (show m ≠ 0 by omega)
  have h2 := Int.emod_lt_of_pos z hn
  rw [← hr'] at h1 h2 ⊢
  clear hr'
  conv => whnf
  intro q hq
  have hq' : q = r := by rw [hq, wrapI (by omega)]
  clear hq
  subst hq'
  conv => whnf
  exact ⟨rfl, rfl⟩
theorem take_succ_eq {α : Type} {xs ys : List α} {k : Nat} {a b : α} (hx : xs[k]? = some a) (hy : ys[k]? = some b) (h : xs.take k = ys.take k) : xs.take (k + 1) = ys.take (k + 1) ↔ a = b := by
  rw [List.take_add_one, List.take_add_one, h, hx, hy]
  simp only [Option.toList_some, List.append_cancel_left_eq, List.cons.injEq, and_true]
theorem eqNumbers_ok (xs ys : List Int) (hm : few xs) : ACalls Try.prog 16 [.d (.sl 1 (nums xs)), .d (.sl 1 (nums ys))] [] (fun av L => av = .d (.bool (decide (xs = ys))) ∧ L = []) := by
  have hx := nums_length xs
  have hy := nums_length ys
  unfold few at hm
  refine acalls_go ttOk zOk foOk Try.func16 rfl Try.ntmps16 rfl false rfl ?_
  conv => whnf
  rw [hx, hy]
  repeat' (first | ((with_reducible apply rd_intro); (focus (intro K hK; (conv => whnf); first | exact hK | (intro z hz; rw [wrapI (by omega)] at hz; subst hz; exact hK))); (conv => whnf)) | ((with_reducible apply gd_and); (focus ((conv => whnf) <;> first | rfl | (intro K hK; (conv => whnf); first | exact hK | (intro z hz; rw [wrapI (by omega)] at hz; subst hz; exact hK)))); (conv => whnf)) | ((with_reducible apply z_wrap); (focus omega); (conv => whnf)) | ((with_reducible refine mt_dec (fun _ => ?_) (fun _ => ?_)) <;> (conv => whnf)) | ((with_reducible refine mt_eq (fun _ => ?_) (fun _ => ?_)) <;> (conv => whnf)) | ((with_reducible refine mt_ne (fun _ => ?_) (fun _ => ?_)) <;> (conv => whnf)) | ((with_reducible refine mt_not (fun _ => ?_) (fun _ => ?_)) <;> (conv => whnf)) | ((with_reducible refine mt_any (fun _ => ?_) (fun _ => ?_)) <;> (conv => whnf)))
  · rename_i h
    rw [decide_eq_false (fun e => h (by rw [e]))]
    exact ⟨rfl, rfl⟩
  · rename_i h
    have hl : xs.length = ys.length := by omega
    refine loop_go ttOk zOk foOk (σ := Nat) (fun k => ([(0, .d (.sl 1 (nums xs))), (1, .d (.sl 1 (nums ys))), (5, .d (.int .i64 k))], [])) (fun k => k ≤ xs.length ∧ xs.take k = ys.take k) (fun k => xs.length - k) [0, 1, 5] ?_ ?_
    · conv => whnf
      exact ⟨0, rfl, rfl, by simp⟩
    · rintro k ⟨hk, he⟩
      conv => whnf
      rw [hx]
      repeat' (first | ((with_reducible apply rd_intro); (focus (intro K hK; (conv => whnf); first | exact hK | (intro z hz; rw [wrapI (by omega)] at hz; subst hz; exact hK))); (conv => whnf)) | ((with_reducible apply gd_and); (focus ((conv => whnf) <;> first | rfl | (intro K hK; (conv => whnf); first | exact hK | (intro z hz; rw [wrapI (by omega)] at hz; subst hz; exact hK)))); (conv => whnf)) | ((with_reducible apply z_wrap); (focus omega); (conv => whnf)) | ((with_reducible refine mt_dec (fun _ => ?_) (fun _ => ?_)) <;> (conv => whnf)) | ((with_reducible refine mt_eq (fun _ => ?_) (fun _ => ?_)) <;> (conv => whnf)) | ((with_reducible refine mt_ne (fun _ => ?_) (fun _ => ?_)) <;> (conv => whnf)) | ((with_reducible refine mt_not (fun _ => ?_) (fun _ => ?_)) <;> (conv => whnf)) | ((with_reducible refine mt_any (fun _ => ?_) (fun _ => ?_)) <;> (conv => whnf)))
      · rename_i h
        refine Exists.elim (⟨_, List.getElem?_eq_getElem (by omega)⟩ : ∃ a, xs[k]? = some a) fun a ha => ?_
        refine Exists.elim (⟨_, List.getElem?_eq_getElem (by omega)⟩ : ∃ b, ys[k]? = some b) fun b hb => ?_
        ((with_reducible refine draw_pl ttOk zOk foOk mixedOk pl16x6 ?_ ?_); (focus kernel_rfl); (conv => whnf))
        repeat' (first | ((with_reducible apply rd_intro); (focus (intro K hK; (conv => whnf); first | exact hK | (intro z hz; rw [wrapI (by omega)] at hz; subst hz; exact hK))); (conv => whnf)) | ((with_reducible apply gd_and); (focus ((conv => whnf) <;> first | rfl | (intro K hK; (conv => whnf); first | exact hK | (intro z hz; rw [wrapI (by omega)] at hz; subst hz; exact hK)))); (conv => whnf)) | ((with_reducible apply z_wrap); (focus omega); (conv => whnf)) | ((with_reducible refine mt_dec (fun _ => ?_) (fun _ => ?_)) <;> (conv => whnf)) | ((with_reducible refine mt_eq (fun _ => ?_) (fun _ => ?_)) <;> (conv => whnf)) | ((with_reducible refine mt_ne (fun _ => ?_) (fun _ => ?_)) <;> (conv => whnf)) | ((with_reducible refine mt_not (fun _ => ?_) (fun _ => ?_)) <;> (conv => whnf)) | ((with_reducible refine mt_any (fun _ => ?_) (fun _ => ?_)) <;> (conv => whnf)))
        ((with_reducible apply rd_intro); (focus (intro K hK; (conv => whnf); exact ⟨by omega, [.int .i64 a], nums_at ha, hK⟩)); (conv => whnf))
        repeat' (first | ((with_reducible apply rd_intro); (focus (intro K hK; (conv => whnf); first | exact hK | (intro z hz; rw [wrapI (by omega)] at hz; subst hz; exact hK))); (conv => whnf)) | ((with_reducible apply gd_and); (focus ((conv => whnf) <;> first | rfl | (intro K hK; (conv => whnf); first | exact hK | (intro z hz; rw [wrapI (by omega)] at hz; subst hz; exact hK)))); (conv => whnf)) | ((with_reducible apply z_wrap); (focus omega); (conv => whnf)) | ((with_reducible refine mt_dec (fun _ => ?_) (fun _ => ?_)) <;> (conv => whnf)) | ((with_reducible refine mt_eq (fun _ => ?_) (fun _ => ?_)) <;> (conv => whnf)) | ((with_reducible refine mt_ne (fun _ => ?_) (fun _ => ?_)) <;> (conv => whnf)) | ((with_reducible refine mt_not (fun _ => ?_) (fun _ => ?_)) <;> (conv => whnf)) | ((with_reducible refine mt_any (fun _ => ?_) (fun _ => ?_)) <;> (conv => whnf)))
        ((with_reducible apply rd_intro); (focus (intro K hK; (conv => whnf); exact ⟨by omega, [.int .i64 b], nums_at hb, hK⟩)); (conv => whnf))
        repeat' (first | ((with_reducible apply rd_intro); (focus (intro K hK; (conv => whnf); first | exact hK | (intro z hz; rw [wrapI (by omega)] at hz; subst hz; exact hK))); (conv => whnf)) | ((with_reducible apply gd_and); (focus ((conv => whnf) <;> first | rfl | (intro K hK; (conv => whnf); first | exact hK | (intro z hz; rw [wrapI (by omega)] at hz; subst hz; exact hK)))); (conv => whnf)) | ((with_reducible apply z_wrap); (focus omega); (conv => whnf)) | ((with_reducible refine mt_dec (fun _ => ?_) (fun _ => ?_)) <;> (conv => whnf)) | ((with_reducible refine mt_eq (fun _ => ?_) (fun _ => ?_)) <;> (conv => whnf)) | ((with_reducible refine mt_ne (fun _ => ?_) (fun _ => ?_)) <;> (conv => whnf)) | ((with_reducible refine mt_not (fun _ => ?_) (fun _ => ?_)) <;> (conv => whnf)) | ((with_reducible refine mt_any (fun _ => ?_) (fun _ => ?_)) <;> (conv => whnf)))
        · rename_i h
          rw [decide_eq_false (fun e => by subst e; rw [ha] at hb; cases hb; exact h rfl)]
          exact ⟨rfl, rfl⟩
        · rename_i h
          exact ⟨k + 1, rfl, rfl, ⟨by omega, (take_succ_eq ha hb he).2 (by omega)⟩, by omega⟩
      · rename_i h
        obtain rfl : k = xs.length := by omega
        rw [decide_eq_true (by rw [List.take_length, hl, List.take_length] at he; exact he)]
        exact ⟨rfl, rfl⟩
theorem copyNumbers_ok (xs : List Int) (hm : tiny xs) : ACalls Try.prog 21 [.d (.sl 1 (nums xs))] [] (fun av L => av = .d (.sl 1 (nums xs)) ∧ L = []) := by
  have hx := nums_length xs
  unfold tiny at hm
  refine acalls_go ttOk zOk foOk Try.func21 rfl Try.ntmps21 rfl false rfl ?_
  conv => whnf
  refine loop_go ttOk zOk foOk (σ := Nat) (fun k => ([(0, .d (.sl 1 (nums xs))), (3, .arr 0), (4, .d (.int .i64 k))], [.row 3 1 (nums (xs.take k)) false])) (fun k => k ≤ xs.length) (fun k => xs.length - k) [0, 3, 4] ?_ ?_
  · conv => whnf
    exact ⟨0, rfl, rfl, by omega⟩
  · intro k hk
    conv => whnf
    rw [hx]
    repeat' (first | ((with_reducible apply rd_intro); (focus (intro K hK; (conv => whnf); first | exact hK | (intro z hz; rw [wrapI (by omega)] at hz; subst hz; exact hK))); (conv => whnf)) | ((with_reducible apply gd_and); (focus ((conv => whnf) <;> first | rfl | (intro K hK; (conv => whnf); first | exact hK | (intro z hz; rw [wrapI (by omega)] at hz; subst hz; exact hK)))); (conv => whnf)) | ((with_reducible apply z_wrap); (focus omega); (conv => whnf)) | ((with_reducible refine mt_dec (fun _ => ?_) (fun _ => ?_)) <;> (conv => whnf)) | ((with_reducible refine mt_eq (fun _ => ?_) (fun _ => ?_)) <;> (conv => whnf)) | ((with_reducible refine mt_ne (fun _ => ?_) (fun _ => ?_)) <;> (conv => whnf)) | ((with_reducible refine mt_not (fun _ => ?_) (fun _ => ?_)) <;> (conv => whnf)) | ((with_reducible refine mt_any (fun _ => ?_) (fun _ => ?_)) <;> (conv => whnf)))
    · rename_i h
      refine Exists.elim (⟨_, List.getElem?_eq_getElem (by omega)⟩ : ∃ a, xs[k]? = some a) fun a ha => ?_
      have hkn := nums_length (xs.take k)
      refine ⟨by omega, [.int .i64 a], nums_at ha, ?_⟩
      conv => whnf
      repeat' (first | ((with_reducible apply rd_intro); (focus (intro K hK; (conv => whnf); first | exact hK | (intro z hz; rw [wrapI (by omega)] at hz; subst hz; exact hK))); (conv => whnf)) | ((with_reducible apply gd_and); (focus ((conv => whnf) <;> first | rfl | (intro K hK; (conv => whnf); first | exact hK | (intro z hz; rw [wrapI (by omega)] at hz; subst hz; exact hK)))); (conv => whnf)) | ((with_reducible apply z_wrap); (focus omega); (conv => whnf)) | ((with_reducible refine mt_dec (fun _ => ?_) (fun _ => ?_)) <;> (conv => whnf)) | ((with_reducible refine mt_eq (fun _ => ?_) (fun _ => ?_)) <;> (conv => whnf)) | ((with_reducible refine mt_ne (fun _ => ?_) (fun _ => ?_)) <;> (conv => whnf)) | ((with_reducible refine mt_not (fun _ => ?_) (fun _ => ?_)) <;> (conv => whnf)) | ((with_reducible refine mt_any (fun _ => ?_) (fun _ => ?_)) <;> (conv => whnf)))
      refine ⟨by simp [hkn]; omega, ?_⟩
      conv => whnf
      repeat' (first | ((with_reducible apply rd_intro); (focus (intro K hK; (conv => whnf); first | exact hK | (intro z hz; rw [wrapI (by omega)] at hz; subst hz; exact hK))); (conv => whnf)) | ((with_reducible apply gd_and); (focus ((conv => whnf) <;> first | rfl | (intro K hK; (conv => whnf); first | exact hK | (intro z hz; rw [wrapI (by omega)] at hz; subst hz; exact hK)))); (conv => whnf)) | ((with_reducible apply z_wrap); (focus omega); (conv => whnf)) | ((with_reducible refine mt_dec (fun _ => ?_) (fun _ => ?_)) <;> (conv => whnf)) | ((with_reducible refine mt_eq (fun _ => ?_) (fun _ => ?_)) <;> (conv => whnf)) | ((with_reducible refine mt_ne (fun _ => ?_) (fun _ => ?_)) <;> (conv => whnf)) | ((with_reducible refine mt_not (fun _ => ?_) (fun _ => ?_)) <;> (conv => whnf)) | ((with_reducible refine mt_any (fun _ => ?_) (fun _ => ?_)) <;> (conv => whnf)))
      refine ⟨k + 1, rfl, ?_, by omega, by omega⟩
      rw [List.take_add_one, ha, ← nums_apps]
      rfl
    · rename_i h
      rw [List.take_of_length_le (by omega)]
      exact ⟨rfl, rfl⟩
theorem copyHeader_ok (c : Cert) (h : c.tiny) : ACalls Try.prog 63 [c.hav] [] (fun av L => av = c.hav ∧ L = []) := by
  refine acalls_go ttOk zOk foOk Try.func63 rfl Try.ntmps63 rfl false rfl ?_
  conv => whnf
  refine (copyNumbers_ok c.bats h.bats).mono ?_
  rintro _ _ ⟨rfl, rfl⟩
  conv => whnf
  refine (copyNumbers_ok c.pars h.pars).mono ?_
  rintro _ _ ⟨rfl, rfl⟩
  conv => whnf
  exact ⟨rfl, rfl⟩
theorem copyCert_ok (c : Cert) (h : c.tiny) : ACalls Try.prog 41 [c.av] [] (fun av L => av = c.av ∧ L = []) := by
  refine acalls_go ttOk zOk foOk Try.func41 rfl Try.ntmps41 rfl false rfl ?_
  conv => whnf
  refine (copyHeader_ok c h).mono ?_
  rintro _ _ ⟨rfl, rfl⟩
  conv => whnf
  refine (copyNumbers_ok c.sigs h.sigs).mono ?_
  rintro _ _ ⟨rfl, rfl⟩
  conv => whnf
  exact ⟨rfl, rfl⟩
theorem copyCerts_ok (l : List Cert) (hl : tiny l) (h : ∀ c ∈ l, c.tiny) : ACalls Try.prog 39 [.d (.sl 6 (certsD l))] [] (fun av L => av = .d (.sl 6 (certsD l)) ∧ L = []) := by
  have hx := certsD_length l
  unfold tiny at hl
  refine acalls_go ttOk zOk foOk Try.func39 rfl Try.ntmps39 rfl false rfl ?_
  conv => whnf
  refine loop_go ttOk zOk foOk (σ := Nat) (fun k => ([(0, .d (.sl 6 (certsD l))), (3, .arr 0), (4, .d (.int .i64 k))], [.row 46 6 (certsD (l.take k)) false])) (fun k => k ≤ l.length) (fun k => l.length - k) [0, 3, 4] ?_ ?_
  · conv => whnf
    exact ⟨0, rfl, rfl, by omega⟩
  · intro k hk
    conv => whnf
    rw [hx]
    repeat' (first | ((with_reducible apply rd_intro); (focus (intro K hK; (conv => whnf); first | exact hK | (intro z hz; rw [wrapI (by omega)] at hz; subst hz; exact hK))); (conv => whnf)) | ((with_reducible apply gd_and); (focus ((conv => whnf) <;> first | rfl | (intro K hK; (conv => whnf); first | exact hK | (intro z hz; rw [wrapI (by omega)] at hz; subst hz; exact hK)))); (conv => whnf)) | ((with_reducible apply z_wrap); (focus omega); (conv => whnf)) | ((with_reducible refine mt_dec (fun _ => ?_) (fun _ => ?_)) <;> (conv => whnf)) | ((with_reducible refine mt_eq (fun _ => ?_) (fun _ => ?_)) <;> (conv => whnf)) | ((with_reducible refine mt_ne (fun _ => ?_) (fun _ => ?_)) <;> (conv => whnf)) | ((with_reducible refine mt_not (fun _ => ?_) (fun _ => ?_)) <;> (conv => whnf)) | ((with_reducible refine mt_any (fun _ => ?_) (fun _ => ?_)) <;> (conv => whnf)))
    · rename_i h2
      refine Exists.elim (⟨_, List.getElem?_eq_getElem (by omega)⟩ : ∃ a, l[k]? = some a) fun a ha => ?_
      have hkn := certsD_length (l.take k)
      refine ⟨by omega, a.cs, certsD_at ha, ?_⟩
      conv => whnf
      repeat' (first | ((with_reducible apply rd_intro); (focus (intro K hK; (conv => whnf); first | exact hK | (intro z hz; rw [wrapI (by omega)] at hz; subst hz; exact hK))); (conv => whnf)) | ((with_reducible apply gd_and); (focus ((conv => whnf) <;> first | rfl | (intro K hK; (conv => whnf); first | exact hK | (intro z hz; rw [wrapI (by omega)] at hz; subst hz; exact hK)))); (conv => whnf)) | ((with_reducible apply z_wrap); (focus omega); (conv => whnf)) | ((with_reducible refine mt_dec (fun _ => ?_) (fun _ => ?_)) <;> (conv => whnf)) | ((with_reducible refine mt_eq (fun _ => ?_) (fun _ => ?_)) <;> (conv => whnf)) | ((with_reducible refine mt_ne (fun _ => ?_) (fun _ => ?_)) <;> (conv => whnf)) | ((with_reducible refine mt_not (fun _ => ?_) (fun _ => ?_)) <;> (conv => whnf)) | ((with_reducible refine mt_any (fun _ => ?_) (fun _ => ?_)) <;> (conv => whnf)))
      refine (copyCert_ok a (h a (List.mem_of_getElem? ha))).mono ?_
      rintro _ _ ⟨rfl, rfl⟩
      conv => whnf
      repeat' (first | ((with_reducible apply rd_intro); (focus (intro K hK; (conv => whnf); first | exact hK | (intro z hz; rw [wrapI (by omega)] at hz; subst hz; exact hK))); (conv => whnf)) | ((with_reducible apply gd_and); (focus ((conv => whnf) <;> first | rfl | (intro K hK; (conv => whnf); first | exact hK | (intro z hz; rw [wrapI (by omega)] at hz; subst hz; exact hK)))); (conv => whnf)) | ((with_reducible apply z_wrap); (focus omega); (conv => whnf)) | ((with_reducible refine mt_dec (fun _ => ?_) (fun _ => ?_)) <;> (conv => whnf)) | ((with_reducible refine mt_eq (fun _ => ?_) (fun _ => ?_)) <;> (conv => whnf)) | ((with_reducible refine mt_ne (fun _ => ?_) (fun _ => ?_)) <;> (conv => whnf)) | ((with_reducible refine mt_not (fun _ => ?_) (fun _ => ?_)) <;> (conv => whnf)) | ((with_reducible refine mt_any (fun _ => ?_) (fun _ => ?_)) <;> (conv => whnf)))
      refine ⟨by simp [hkn]; omega, ?_⟩
      conv => whnf
      repeat' (first | ((with_reducible apply rd_intro); (focus (intro K hK; (conv => whnf); first | exact hK | (intro z hz; rw [wrapI (by omega)] at hz; subst hz; exact hK))); (conv => whnf)) | ((with_reducible apply gd_and); (focus ((conv => whnf) <;> first | rfl | (intro K hK; (conv => whnf); first | exact hK | (intro z hz; rw [wrapI (by omega)] at hz; subst hz; exact hK)))); (conv => whnf)) | ((with_reducible apply z_wrap); (focus omega); (conv => whnf)) | ((with_reducible refine mt_dec (fun _ => ?_) (fun _ => ?_)) <;> (conv => whnf)) | ((with_reducible refine mt_eq (fun _ => ?_) (fun _ => ?_)) <;> (conv => whnf)) | ((with_reducible refine mt_ne (fun _ => ?_) (fun _ => ?_)) <;> (conv => whnf)) | ((with_reducible refine mt_not (fun _ => ?_) (fun _ => ?_)) <;> (conv => whnf)) | ((with_reducible refine mt_any (fun _ => ?_) (fun _ => ?_)) <;> (conv => whnf)))
      refine ⟨k + 1, rfl, ?_, by omega, by omega⟩
      rw [List.take_add_one, ha]
      simp [certsD, Cert.cs]
    · rename_i h2
      rw [List.take_of_length_le (by omega)]
      exact ⟨rfl, rfl⟩
theorem certsD_take (l : List Cert) (n : Nat) : (certsD l).take n = certsD (l.take n) := by simp [certsD]
end Go.Proofs.Ytoeppembokpjkaa

namespace Go.Ab
noncomputable section
open Go.RowKit
/-! ## a call some of whose arguments own rows within: these go over as data -/
def deepK (x : AV) (L : List AB) (K : AV → List AB → Prop) : Prop :=
  match x with
  | .agg xs => argsK xs L fun ys L' => K (.agg ys) L'
  | x => argK x L K
noncomputable def deepsK (xs : List AV) : List AB → (List AV → List AB → Prop) → Prop :=
  List.rec (motive := fun _ => List AB → (List AV → List AB → Prop) → Prop) (fun L K => K [] L) (fun x _ ih L K => deepK x L fun y L1 => ih L1 fun l L2 => K (y :: l) L2) xs
theorem argsS_ok {c : Ctx} (hc : c.wf) {E : Nat → Option Nat} {w : World} : ∀ {xs : List AV} {L : List AB} {K : List AV → List AB → Prop} {us : List Value}, SimH c E L w → argsK xs L K → VRs (rcOf c.M0 E L w) xs us →
    ∃ ys L', K ys L' ∧ SimH c E L' w ∧ (rcOf c.M0 E L w).le (rcOf c.M0 E L' w) ∧ VRs (rcOf c.M0 E L' w) ys us
  | [], L, K, us, hs, h, hv => ⟨[], L, h, hs, .refl _, by simpa [VRs] using hv⟩
  | x :: xs, L, K, us, hs, h, hv => by
    simp only [VRs] at hv
    obtain ⟨u, us', rfl, h0, h1, h2⟩ := hv
    obtain ⟨y, L1, k1, k2, k3, k4⟩ := argK_ok hc hs (show argK x L fun y L1 => argsK xs L1 fun l L2 => K (y :: l) L2 from h) h1
    obtain ⟨ys, L2, m1, m2, m3, m4⟩ := argsS_ok hc (xs := xs) k2 k1 (VRs.mono k3 _ _ h2)
    exact ⟨y :: ys, L2, m1, m2, k3.trans m3, by simp only [VRs]; exact ⟨u, us', rfl, h0, VR.mono m3 _ _ k4, m4⟩⟩
theorem deepK_ok {c : Ctx} (hc : c.wf) {E : Nat → Option Nat} {L : List AB} {w : World} (hs : SimH c E L w) {x : AV} {K : AV → List AB → Prop} (h : deepK x L K) {v : Value} (hv : VR (rcOf c.M0 E L w) x v) :
    ∃ y L', K y L' ∧ SimH c E L' w ∧ (rcOf c.M0 E L w).le (rcOf c.M0 E L' w) ∧ VR (rcOf c.M0 E L' w) y v := by
  unfold deepK at h
  split at h
  · rename_i xs
    simp only [VR] at hv
    obtain ⟨us, rfl, hv⟩ := hv
    obtain ⟨ys, L', h1, h2, h3, h4⟩ := argsS_ok hc hs h hv
    exact ⟨_, L', h1, h2, h3, by simp only [VR]; exact ⟨us, rfl, h4⟩⟩
  · exact argK_ok hc hs h hv
theorem deepsK_ok {c : Ctx} (hc : c.wf) {E : Nat → Option Nat} {w : World} : ∀ {xs : List AV} {L : List AB} {K : List AV → List AB → Prop} {us : List Value}, SimH c E L w → deepsK xs L K → VRt (rcOf c.M0 E L w) xs us →
    ∃ ys L', K ys L' ∧ SimH c E L' w ∧ (rcOf c.M0 E L w).le (rcOf c.M0 E L' w) ∧ VRt (rcOf c.M0 E L' w) ys us
  | [], L, K, us, hs, h, hv => ⟨[], L, h, hs, .refl _, by simpa [VRt] using hv⟩
  | x :: xs, L, K, us, hs, h, hv => by
    simp only [VRt] at hv
    obtain ⟨u, us', rfl, h1, h2⟩ := hv
    obtain ⟨y, L1, k1, k2, k3, k4⟩ := deepK_ok hc hs (show deepK x L fun y L1 => deepsK xs L1 fun l L2 => K (y :: l) L2 from h) h1
    obtain ⟨ys, L2, m1, m2, m3, m4⟩ := deepsK_ok hc (xs := xs) k2 k1 (VRt.mono k3 _ _ h2)
    exact ⟨y :: ys, L2, m1, m2, k3.trans m3, by simp only [VRt]; exact ⟨u, us', rfl, VR.mono m3 _ _ k4, m4⟩⟩
theorem acalls_deep {P : Program} {f : FuncId} {avs : List AV} {L : List AB} {post : AV → List AB → Prop} (h : deepsK avs L fun avs1 L1 => callRawK P f avs1 L1 post) : ACalls P f avs L post := by
  intro c vs hc hL hs hv
  subst hL
  obtain ⟨avs1, L1, h1, h2, h3, h4⟩ := deepsK_ok hc hs h hv
  refine (callRawK_ok hc h2 h1 h4).mono ?_
  rintro e w' ⟨v, av, E', L', k1, k2, k3, k4, k5⟩
  exact ⟨v, av, L', E', k1, k2, k3, k5⟩
/-- what a call hands back, all of it as data -/
def dataK (x : AV) (L : List AB) (K : AV → List AB → Prop) : Prop :=
  match x with
  | .tup xs => deepsK xs L fun ys L' => K (.tup ys) L'
  | x => deepK x L K
theorem dataK_ok {c : Ctx} (hc : c.wf) {E : Nat → Option Nat} {L : List AB} {w : World} (hs : SimH c E L w) {x : AV} {K : AV → List AB → Prop} (h : dataK x L K) {v : Value} (hv : VR (rcOf c.M0 E L w) x v) :
    ∃ y L', K y L' ∧ SimH c E L' w ∧ (rcOf c.M0 E L w).le (rcOf c.M0 E L' w) ∧ VR (rcOf c.M0 E L' w) y v := by
  unfold dataK at h
  split at h
  · rename_i xs
    simp only [VR] at hv
    obtain ⟨us, rfl, hv⟩ := hv
    obtain ⟨ys, L', h1, h2, h3, h4⟩ := deepsK_ok hc hs h hv
    exact ⟨_, L', h1, h2, h3, by simp only [VR]; exact ⟨us, rfl, h4⟩⟩
  · exact deepK_ok hc hs h hv
theorem acalls_data {P : Program} {f : FuncId} {avs : List AV} {Lin : List AB} {post post' : AV → List AB → Prop} (h : ACalls P f avs Lin post) (hp : ∀ av L, post av L → dataK av L fun av' L' => finK Lin.length av' L' post') : ACalls P f avs Lin post' := by
  intro c vs hc hL hs hv
  refine (h c vs hc hL hs hv).mono ?_
  rintro e w' ⟨v, av, L', E', rfl, k2, k3, k4⟩
  obtain ⟨y, L2, h1, h2, h3, h4⟩ := dataK_ok hc k3 (hp _ _ k2) k4
  obtain ⟨E3, av3, L3, m1, m2, m3⟩ := finK_ok h1 (by rw [hL]) h2 h4
  exact ⟨v, av3, L3, E3, rfl, m1, m2, m3⟩
/-- a contract of arguments that say less of the same values -/
theorem acalls_args {P : Program} {f : FuncId} {avs avs' : List AV} {Lin : List AB} {post : AV → List AB → Prop} (hv : ∀ (R : RC) (vs : List Value), VRt R avs vs → VRt R avs' vs) (h : ACalls P f avs' Lin post) : ACalls P f avs Lin post :=
  fun c vs h1 h2 h3 h4 => h c vs h1 h2 h3 (hv _ _ h4)
theorem nil_sl {rd : Addr → Value → Prop} {n : Nat} (hn : 0 < n) {v : Value} (h : VD rd .nils v) : VD rd (.sl n []) v := by
  simp only [VD] at h
  subst h
  simp only [VD]
  exact ⟨hn, none, 0, rfl, by simp, by simp [maxLen], fun _ => rfl, fun _ h => by cases h⟩
theorem nil_third {n : Nat} (hn : 0 < n) {a b : AV} {r : List AV} : ∀ (R : RC) (vs : List Value), VRt R (.agg [a, b, .d .nils] :: r) vs → VRt R (.agg [a, b, .d (.sl n [])] :: r) vs := by
  intro R vs h
  simp only [VRt, VR, VRs] at h ⊢
  obtain ⟨u, us', rfl, ⟨us, rfl, u1, r1, e1, h1, h2, u2, r2, rfl, h3, h4, u3, r3, rfl, h5, h6, rfl⟩, h7⟩ := h
  exact ⟨_, us', rfl, ⟨us, rfl, u1, _, e1, h1, h2, u2, _, rfl, h3, h4, u3, [], rfl, h5, nil_sl hn h6, rfl⟩, h7⟩
/-- a slot's own row, from here on as data -/
theorem aw_seal {P : Program} {n k0 : Nat} (s : Nat) {x : Code} {Q : Exit → AF → List AB → Prop} {F : AF} {L : List AB} (h : toDK (fget F s) L fun d L' => AW P n k0 x Q ((s, .d d) :: F) L') : AW P n k0 x Q F L := by
  intro c E a w hc hcn hk hs
  obtain ⟨d, L', h1, _, h2, h3, h4⟩ := toDK_ok hc hs.h h (hs.slots s)
  refine h1 c E a w hc hcn hk ⟨h2, fun t => ?_, hs.nt, hs.df⟩
  rw [fget_cons]
  cases hb : Nat.beq s t with
  | false => exact VR.mono h3 _ _ (hs.slots t)
  | true =>
    have := Nat.eq_of_beq_eq_true hb
    subst this
    simp only [cond_true, VR]
    exact h4
end
end Go.Ab

namespace Go.Proofs.Ytoeppembokpjkaa
open Go.Ab Go.RowKit Go.MapKept
attribute [local irreducible] ACalls AW ADraw Into fltB fnear
set_option maxRecDepth 100000
/-- the DAG of one, three rounds high -/
def wCert (r : Int) : Cert := ⟨1, r, [], if r > 1 then [r - 1] else [], r, [1]⟩
def wDag : Dag := ⟨1, 0, [wCert 1, wCert 2, wCert 3]⟩
theorem wDag_valid : Valid wDag := by
  refine ⟨rfl, by decide, by decide, ?_, by decide, by simp [sortedC, wDag, wCert, Cert.before], by decide, ?_⟩
  · intro c hc
    simp only [wDag, List.mem_cons, List.not_mem_nil, or_false] at hc
    rcases hc with rfl | rfl | rfl <;>
      exact ⟨⟨rfl, by decide, by decide, ⟨by decide, by simp [wCert, risingI], by decide⟩, ⟨by decide, by simp [wCert, risingI], by decide⟩, by decide, by decide⟩, by decide, ⟨by simp [wCert, risingI], by decide⟩, by decide⟩
  · intro c hc hr
    simp only [wDag, List.mem_cons, List.not_mem_nil, or_false] at hc
    rcases hc with rfl | rfl | rfl
    · exact absurd hr (by decide)
    · intro x hx
      exact ⟨wCert 1, by simp [wDag], by simp [wCert] at hx; simp [wCert, hx], by decide⟩
    · intro x hx
      exact ⟨wCert 2, by simp [wDag], by simp [wCert] at hx; simp [wCert, hx], by decide⟩
def c0 : Cursor := ⟨0, [], 0⟩
theorem c0_may : curMay c0 := by
  exact ⟨by decide, ⟨List.Pairwise.nil, by simp [c0]⟩, by decide⟩
theorem sortI_self {l : List Int} (h : risingI l) : sortI l = l := List.mergeSort_of_pairwise (h.imp fun h => by simp; omega)
theorem wDag_fin : finW wDag c0 = ⟨⟨2, [1, 2], 2⟩, [1, 2]⟩ := by
  have h1 : nextC wDag 0 = 2 := by
    show nextR wDag 2 = 2
    exact next_here (by decide) (by decide)
  have h2 : nextC wDag 2 = 0 := by
    show nextR wDag 4 = 0
    exact next_top (by decide)
  have h3 : backI wDag 0 2 = [2] := by
    unfold backI
    rw [back_end (by decide)]
    decide
  have h4 : (Wk.mk c0 []).putL wDag [2] = ⟨⟨2, [1, 2], 2⟩, [1, 2]⟩ := by
    show (Wk.mk c0 []).putA wDag 2 = _
    rw [putA_eq (i := 1) (c := wCert 2) (by decide) rfl]
    have h5 : behindI wDag 1 2 [] = [1, 2] := by decide
    show Wk.mk ⟨2, sortI (keepI wDag 2 ([] ++ behindI wDag 1 2 [])), min (0 + ((behindI wDag 1 2 []).length : Int)) 1099511627776⟩ ([] ++ behindI wDag 1 2 []) = _
    rw [h5, show keepI wDag 2 ([] ++ [1, 2]) = [1, 2] by decide, sortI_self (by simp [risingI])]
    rfl
  show Wk.goF wDag 3 ⟨c0, []⟩ = _
  rw [Wk.goF, if_pos (by show nextC wDag 0 > 0; rw [h1]; decide)]
  show Wk.goF wDag 2 ((Wk.mk c0 []).putL wDag (backI wDag 0 (nextC wDag 0))) = _
  rw [h1, h3, h4]
  exact goF_end (by show ¬ nextC wDag 2 > 0; rw [h2]; decide) _
theorem wStep_ok : ACalls Try.prog 12 [wDag.av, .agg [.d (.int .i64 0), .d .nils, .d (.int .i64 0)]] [] (fun av L => av = .tup [.agg [.d (.int .i64 2), .arr 0, .d (.int .i64 2)], .d (.sl 1 (nums [1, 2])), .d (.int .i64 0)] ∧ L = [.row 3 1 (nums [1, 2]) false]) := by
  refine (step_ok wDag wDag_valid.well (dagMay_ok wDag wDag_valid) c0 .nils (.inl ⟨rfl, rfl⟩) c0_may).mono ?_
  rintro av L (⟨h, _⟩ | ⟨_, rfl, rfl⟩)
  · exact absurd h.1 (by decide)
  · rw [wDag_fin]
    exact ⟨rfl, rfl⟩
def wSt : Nat → AF × List AB
  | 0 => ([(1, .ptr 0 0), (2, .d (.int .i64 1))], [.cells [.d (.int .i64 1), .d (.int .i64 0), .d .nils]])
  | 1 => ([(1, .ptr 0 0), (2, .d (.int .i64 2))], [.cells [.d (.int .i64 1), .d (.int .i64 0), .arr 1], .row 46 6 (certsD [wCert 1]) false])
  | 2 => ([(1, .ptr 0 0), (2, .d (.int .i64 3))], [.cells [.d (.int .i64 1), .d (.int .i64 0), .arr 1], .row 46 6 (certsD [wCert 1, wCert 2]) false])
  | _ => ([(1, .ptr 0 0), (2, .d (.int .i64 4))], [.cells [.d (.int .i64 1), .d (.int .i64 0), .arr 1], .row 46 6 (certsD [wCert 1, wCert 2, wCert 3]) false])
theorem wakes_ok : ACalls Try.prog 17 [] [] (fun av L => av = .d (.bool true) ∧ L = []) := by
  refine acalls_go ttOk zOk foOk Try.func17 rfl Try.ntmps17 rfl false rfl ?_
  conv => whnf
  refine loop_go ttOk zOk foOk (σ := Nat) wSt (fun j => j ≤ 3) (fun j => 3 - j) [1, 2] ?_ ?_
  · conv => whnf
    exact ⟨0, rfl, rfl, by omega⟩
  · intro j hj
    obtain rfl | rfl | rfl | rfl : j = 0 ∨ j = 1 ∨ j = 2 ∨ j = 3 := by omega
    · conv => whnf
      repeat' (first | ((with_reducible apply z_wrap); (focus omega); (conv => whnf)) | ((with_reducible refine mt_dec (fun _ => ?_) (fun _ => ?_)) <;> (conv => whnf)) | ((with_reducible refine mt_eq (fun _ => ?_) (fun _ => ?_)) <;> (conv => whnf)) | ((with_reducible refine mt_ne (fun _ => ?_) (fun _ => ?_)) <;> (conv => whnf)) | ((with_reducible refine mt_not (fun _ => ?_) (fun _ => ?_)) <;> (conv => whnf)) | ((with_reducible refine mt_any (fun _ => ?_) (fun _ => ?_)) <;> (conv => whnf)))
      refine ⟨by decide, ?_⟩
      conv => whnf
      repeat' (first | ((with_reducible apply z_wrap); (focus omega); (conv => whnf)) | ((with_reducible refine mt_dec (fun _ => ?_) (fun _ => ?_)) <;> (conv => whnf)) | ((with_reducible refine mt_eq (fun _ => ?_) (fun _ => ?_)) <;> (conv => whnf)) | ((with_reducible refine mt_ne (fun _ => ?_) (fun _ => ?_)) <;> (conv => whnf)) | ((with_reducible refine mt_not (fun _ => ?_) (fun _ => ?_)) <;> (conv => whnf)) | ((with_reducible refine mt_any (fun _ => ?_) (fun _ => ?_)) <;> (conv => whnf)))
      exact ⟨1, rfl, rfl, by omega, by omega⟩
    · conv => whnf
      repeat' (first | ((with_reducible apply z_wrap); (focus omega); (conv => whnf)) | ((with_reducible refine mt_dec (fun _ => ?_) (fun _ => ?_)) <;> (conv => whnf)) | ((with_reducible refine mt_eq (fun _ => ?_) (fun _ => ?_)) <;> (conv => whnf)) | ((with_reducible refine mt_ne (fun _ => ?_) (fun _ => ?_)) <;> (conv => whnf)) | ((with_reducible refine mt_not (fun _ => ?_) (fun _ => ?_)) <;> (conv => whnf)) | ((with_reducible refine mt_any (fun _ => ?_) (fun _ => ?_)) <;> (conv => whnf)))
      refine ⟨by decide, ?_⟩
      conv => whnf
      repeat' (first | ((with_reducible apply z_wrap); (focus omega); (conv => whnf)) | ((with_reducible refine mt_dec (fun _ => ?_) (fun _ => ?_)) <;> (conv => whnf)) | ((with_reducible refine mt_eq (fun _ => ?_) (fun _ => ?_)) <;> (conv => whnf)) | ((with_reducible refine mt_ne (fun _ => ?_) (fun _ => ?_)) <;> (conv => whnf)) | ((with_reducible refine mt_not (fun _ => ?_) (fun _ => ?_)) <;> (conv => whnf)) | ((with_reducible refine mt_any (fun _ => ?_) (fun _ => ?_)) <;> (conv => whnf)))
      exact ⟨2, rfl, rfl, by omega, by omega⟩
    · conv => whnf
      repeat' (first | ((with_reducible apply z_wrap); (focus omega); (conv => whnf)) | ((with_reducible refine mt_dec (fun _ => ?_) (fun _ => ?_)) <;> (conv => whnf)) | ((with_reducible refine mt_eq (fun _ => ?_) (fun _ => ?_)) <;> (conv => whnf)) | ((with_reducible refine mt_ne (fun _ => ?_) (fun _ => ?_)) <;> (conv => whnf)) | ((with_reducible refine mt_not (fun _ => ?_) (fun _ => ?_)) <;> (conv => whnf)) | ((with_reducible refine mt_any (fun _ => ?_) (fun _ => ?_)) <;> (conv => whnf)))
      refine ⟨by decide, ?_⟩
      conv => whnf
      repeat' (first | ((with_reducible apply z_wrap); (focus omega); (conv => whnf)) | ((with_reducible refine mt_dec (fun _ => ?_) (fun _ => ?_)) <;> (conv => whnf)) | ((with_reducible refine mt_eq (fun _ => ?_) (fun _ => ?_)) <;> (conv => whnf)) | ((with_reducible refine mt_ne (fun _ => ?_) (fun _ => ?_)) <;> (conv => whnf)) | ((with_reducible refine mt_not (fun _ => ?_) (fun _ => ?_)) <;> (conv => whnf)) | ((with_reducible refine mt_any (fun _ => ?_) (fun _ => ?_)) <;> (conv => whnf)))
      exact ⟨3, rfl, rfl, by omega, by omega⟩
    · conv => whnf
      repeat' (first | ((with_reducible apply z_wrap); (focus omega); (conv => whnf)) | ((with_reducible refine mt_dec (fun _ => ?_) (fun _ => ?_)) <;> (conv => whnf)) | ((with_reducible refine mt_eq (fun _ => ?_) (fun _ => ?_)) <;> (conv => whnf)) | ((with_reducible refine mt_ne (fun _ => ?_) (fun _ => ?_)) <;> (conv => whnf)) | ((with_reducible refine mt_not (fun _ => ?_) (fun _ => ?_)) <;> (conv => whnf)) | ((with_reducible refine mt_any (fun _ => ?_) (fun _ => ?_)) <;> (conv => whnf)))
      refine acalls_deep ?_
      conv => whnf
      refine wStep_ok.mono ?_
      rintro _ _ ⟨rfl, rfl⟩
      conv => whnf
      refine (num_ok 0).mono ?_
      rintro _ _ ⟨rfl, rfl⟩
      conv => whnf
      repeat' (first | ((with_reducible apply z_wrap); (focus omega); (conv => whnf)) | ((with_reducible refine mt_dec (fun _ => ?_) (fun _ => ?_)) <;> (conv => whnf)) | ((with_reducible refine mt_eq (fun _ => ?_) (fun _ => ?_)) <;> (conv => whnf)) | ((with_reducible refine mt_ne (fun _ => ?_) (fun _ => ?_)) <;> (conv => whnf)) | ((with_reducible refine mt_not (fun _ => ?_) (fun _ => ?_)) <;> (conv => whnf)) | ((with_reducible refine mt_any (fun _ => ?_) (fun _ => ?_)) <;> (conv => whnf)))
      (refine Or.inl ?_; (conv => whnf))
      refine (eqNumbers_ok [1, 2] [1, 2] (by unfold few; decide)).mono ?_
      rintro _ _ ⟨rfl, rfl⟩
      conv => whnf
      repeat' (first | ((with_reducible apply z_wrap); (focus omega); (conv => whnf)) | ((with_reducible refine mt_dec (fun _ => ?_) (fun _ => ?_)) <;> (conv => whnf)) | ((with_reducible refine mt_eq (fun _ => ?_) (fun _ => ?_)) <;> (conv => whnf)) | ((with_reducible refine mt_ne (fun _ => ?_) (fun _ => ?_)) <;> (conv => whnf)) | ((with_reducible refine mt_not (fun _ => ?_) (fun _ => ?_)) <;> (conv => whnf)) | ((with_reducible refine mt_any (fun _ => ?_) (fun _ => ?_)) <;> (conv => whnf)))
      exact ⟨rfl, rfl⟩
end Go.Proofs.Ytoeppembokpjkaa
