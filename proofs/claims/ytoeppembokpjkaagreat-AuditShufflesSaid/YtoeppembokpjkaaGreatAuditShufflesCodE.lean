/- Part of the proof of AuditShuffles: the contracts of the functions. -/
import Derived.Test.YtoeppembokpjkaaGreatAuditShufflesCodD

set_option linter.unusedVariables false
set_option linter.unusedSimpArgs false
namespace Go.Proofs.YtoeppembokpjkaaGreat
open Go.Ab Go.RowKit Go.MapKept
attribute [local irreducible] ACalls AW ADraw Into fltB fnear
set_option maxRecDepth 100000
end Go.Proofs.YtoeppembokpjkaaGreat

namespace Go.Proofs.YtoeppembokpjkaaGreat
open Go.Ab Go.RowKit
/-! ## what lies below a certificate -/
theorem mem_addS {x : Int} : ∀ {ps ks : List Int}, x ∈ addS ks ps ↔ x ∈ ks ∨ x ∈ ps
  | [], ks => by simp [addS]
  | p :: ps, ks => by
    show x ∈ addS (insS ks p) ps ↔ _
    rw [mem_addS, mem_insS, List.mem_cons]
    constructor
    · rintro ((h | h) | h)
      · exact .inl h
      · exact .inr (.inl h)
      · exact .inr (.inr h)
    · rintro (h | h | h)
      · exact .inl (.inl h)
      · exact .inl (.inr h)
      · exact .inr h
def desc (l : List Cert) : Prop := l.Pairwise fun x y => y.round ≤ x.round
theorem downL_low {dl low : Int} : ∀ {l : List Cert} {ks : List Int}, (∀ c ∈ l, c.round ≤ low) → downL dl low l ks = []
  | [], _, _ => rfl
  | c :: r, ks, h => by rw [downL, if_pos (h c (by simp))]
theorem downL_skip {dl low : Int} : ∀ {l1 l2 : List Cert} {ks : List Int}, desc (l1 ++ l2) → (∀ c ∈ l1, c.digest ∉ ks) → downL dl low (l1 ++ l2) ks = downL dl low l2 ks
  | [], _, _, _, _ => rfl
  | c :: r, l2, ks, hd, h => by
    have hd' := List.pairwise_cons.1 hd
    rw [List.cons_append, downL]
    by_cases h1 : c.round ≤ low
    · rw [if_pos h1, downL_low]
      intro y hy
      have := hd'.1 y (List.mem_append_right _ hy)
      omega
    · rw [if_neg h1, if_neg (h c (by simp))]
      exact downL_skip hd'.2 fun y hy => h y (by simp [hy])
theorem desc_rev {l : List Cert} (h : sortedC l) : desc l.reverse := by
  unfold desc
  rw [List.pairwise_reverse]
  exact h.imp fun h => by have := before_iff.1 h; omega
theorem dig_at {d : Dag} (hd : (d.certs.map (·.digest)).Nodup) {i : Nat} {c : Cert} (h : d.certs[i]? = some c) : ∀ x ∈ d.certs.drop (i + 1), x.digest ≠ c.digest := by
  intro x hx e
  obtain ⟨hi, rfl⟩ := List.getElem?_eq_some_iff.1 h
  have h1 : d.certs = d.certs.take (i + 1) ++ d.certs.drop (i + 1) := (List.take_append_drop ..).symm
  rw [h1, List.map_append, List.nodup_append] at hd
  exact hd.2.2 d.certs[i].digest (List.mem_map.2 ⟨d.certs[i], List.mem_take_iff_getElem.2 ⟨i, by omega, rfl⟩, rfl⟩) x.digest (List.mem_map.2 ⟨x, hx, rfl⟩) e.symm
theorem downI_eq {d : Dag} (hs : sortedC d.certs) (hd : (d.certs.map (·.digest)).Nodup) {i : Nat} {c : Cert} (h : d.certs[i]? = some c) (low : Int) : downI d i low = downL d.low low d.certs.reverse [c.digest] := by
  unfold downI
  rw [h]
  have e : d.certs.reverse = (d.certs.drop (i + 1)).reverse ++ (d.certs.take (i + 1)).reverse := by
    rw [← List.reverse_append, List.take_append_drop]
  have hdsc := desc_rev hs
  rw [e] at hdsc ⊢
  rw [downL_skip hdsc]
  · rfl
  · intro x hx
    have := dig_at hd h x (List.mem_reverse.1 hx)
    simpa using this
/-- certificates that are no one's below do not matter -/
theorem downL_filter {dl low : Int} (S : Int → Bool) : ∀ {l : List Cert} {ks : List Int}, (∀ k ∈ ks, S k = true) → (∀ c ∈ l, S c.digest = true → c.round > dl + 1 → ∀ x ∈ c.pars, S x = true) → desc l → downL dl low l ks = downL dl low (l.filter fun c => S c.digest) ks
  | [], _, _, _, _ => rfl
  | c :: r, ks, hk, hc, hd => by
    have hd' := List.pairwise_cons.1 hd
    by_cases h1 : c.round ≤ low
    · rw [downL_low, downL_low]
      · intro y hy
        rcases List.mem_cons.1 (List.mem_filter.1 hy).1 with rfl | hy
        · exact h1
        · have := hd'.1 y hy; omega
      · intro y hy
        rcases List.mem_cons.1 hy with rfl | hy
        · exact h1
        · have := hd'.1 y hy; omega
    · have hr : ∀ y ∈ r, S y.digest = true → y.round > dl + 1 → ∀ x ∈ y.pars, S x = true := fun y hy => hc y (by simp [hy])
      cases hS : S c.digest with
      | false =>
        rw [List.filter_cons, hS]
        rw [downL, if_neg h1, if_neg (fun h => by rw [hk _ h] at hS; cases hS)]
        exact downL_filter S hk hr hd'.2
      | true =>
        rw [List.filter_cons, hS, if_pos rfl, downL, downL, if_neg h1, if_neg h1]
        by_cases h2 : c.digest ∈ ks
        · rw [if_pos h2, if_pos h2]
          congr 1
          refine downL_filter S ?_ hr hd'.2
          split
          · rename_i h3
            intro k hk'
            rcases mem_addS.1 hk' with h4 | h4
            · exact hk k h4
            · exact hc c (by simp) hS h3 k h4
          · exact hk
        · rw [if_neg h2, if_neg h2]
          exact downL_filter S hk hr hd'.2
theorem down_mem {dl low : Int} : ∀ {l : List Cert} {ks : List Int} {c : Cert}, desc l → c ∈ l → c.digest ∈ ks → c.round > low → c.digest ∈ downL dl low l ks
  | x :: r, ks, c, hd, h, hk, hr => by
    have hd' := List.pairwise_cons.1 hd
    have hx : ¬ x.round ≤ low := by
      rcases List.mem_cons.1 h with rfl | h
      · omega
      · have := hd'.1 c h; omega
    rw [downL, if_neg hx]
    rcases List.mem_cons.1 h with rfl | h
    · rw [if_pos hk]; simp
    · split
      · exact List.mem_cons_of_mem _ (down_mem hd'.2 h (by split; exact mem_addS.2 (.inl hk); exact hk) hr)
      · exact down_mem hd'.2 h hk hr
theorem down_closed {dl low : Int} : ∀ {l : List Cert} {ks : List Int} {c p : Cert}, desc l → (l.map (·.digest)).Nodup → c ∈ l → c.digest ∈ downL dl low l ks → c.round > dl + 1 → p ∈ l → p.digest ∈ c.pars → low < p.round → p.round < c.round → p.digest ∈ downL dl low l ks
  | x :: r, ks, c, p, hd, hn, hc, hcd, hcr, hp, hpc, hpl, hpr => by
    have hd' := List.pairwise_cons.1 hd
    have hn' := List.nodup_cons.1 hn
    have hpx : p ∈ r := by
      rcases List.mem_cons.1 hp with rfl | h
      · rcases List.mem_cons.1 hc with rfl | h2
        · omega
        · have := hd'.1 c h2; omega
      · exact h
    have hx : ¬ x.round ≤ low := by have := hd'.1 p hpx; omega
    rw [downL, if_neg hx] at hcd ⊢
    rcases List.mem_cons.1 hc with rfl | hcr'
    · by_cases hk : c.digest ∈ ks
      · rw [if_pos hk, if_pos hcr]
        exact List.mem_cons_of_mem _ (down_mem hd'.2 hpx (mem_addS.2 (.inr hpc)) hpl)
      · rw [if_neg hk] at hcd
        exact absurd ((down_sub dl low r ks).subset hcd) hn'.1
    · have hne : c.digest ≠ x.digest := fun e => hn'.1 (List.mem_map.2 ⟨c, hcr', e⟩)
      split at hcd
      · rename_i hk
        rw [if_pos hk]
        rcases List.mem_cons.1 hcd with h | h
        · exact absurd h hne
        · exact List.mem_cons_of_mem _ (down_closed hd'.2 hn'.2 hcr' h hcr hpx hpc hpl hpr)
      · rename_i hk
        rw [if_neg hk]
        exact down_closed hd'.2 hn'.2 hcr' hcd hcr hpx hpc hpl hpr
/-- a certificate's ancestors -/
inductive Anc (d : Dag) (x : Cert) : Cert → Prop
  | refl : Anc d x x
  | step {z y : Cert} : Anc d x z → z.round > d.low + 1 → y ∈ d.certs → y.digest ∈ z.pars → y.round < z.round → Anc d x y
theorem Anc.cons {d : Dag} {x p y : Cert} (hx : x.round > d.low + 1) (hp : p ∈ d.certs) (hxp : p.digest ∈ x.pars) (hr : p.round < x.round) (h : Anc d p y) : Anc d x y := by
  induction h with
  | refl => exact .step .refl hx hp hxp hr
  | step _ h1 h2 h3 h4 ih => exact .step ih h1 h2 h3 h4
theorem anc_down {d : Dag} (hs : sortedC d.certs) (hd : (d.certs.map (·.digest)).Nodup) {x y : Cert} {i : Nat} (hx : d.certs[i]? = some x) (h : Anc d x y) {low : Int} (hl : low < y.round) : y.digest ∈ downI d i low ∧ y ∈ d.certs := by
  rw [downI_eq hs hd hx]
  have hn : (d.certs.reverse.map (·.digest)).Nodup := by rw [List.map_reverse]; exact (List.reverse_perm _).nodup_iff.2 hd
  induction h with
  | refl => exact ⟨down_mem (desc_rev hs) (List.mem_reverse.2 (List.mem_of_getElem? hx)) (by simp) hl, List.mem_of_getElem? hx⟩
  | step _ h1 h2 h3 h4 ih =>
    obtain ⟨i1, i2⟩ := ih (by omega)
    exact ⟨down_closed (desc_rev hs) hn (List.mem_reverse.2 i2) i1 h1 (List.mem_reverse.2 h2) h3 hl h4, h2⟩
end Go.Proofs.YtoeppembokpjkaaGreat

namespace Go.Proofs.YtoeppembokpjkaaGreat
open Go.Ab Go.RowKit
/-! ## a part of a DAG -/
structure Sub (A D : Dag) : Prop where
  va : Valid A
  vd : Valid D
  la : A.low = 0
  ld : D.low = 0
  nodes : A.nodes = D.nodes
  sub : A.certs.Sublist D.certs
theorem place_inj {l : List Cert} (hs : sortedC l) {x y : Cert} (hx : x ∈ l) (hy : y ∈ l) (hr : x.round = y.round) (ha : x.author = y.author) : x = y := by
  obtain ⟨i, hi⟩ := List.getElem?_of_mem hx
  obtain ⟨j, hj⟩ := List.getElem?_of_mem hy
  obtain ⟨hi', rfl⟩ := List.getElem?_eq_some_iff.1 hi
  obtain ⟨hj', rfl⟩ := List.getElem?_eq_some_iff.1 hj
  rcases Nat.lt_trichotomy i j with h | h | h
  · have := before_iff.1 (List.pairwise_iff_getElem.1 hs i j hi' hj' h); omega
  · subst h; rfl
  · have := before_iff.1 (List.pairwise_iff_getElem.1 hs j i hj' hi' h); omega
theorem atC_some {l : List Cert} (hs : sortedC l) {r a : Int} {c : Cert} : atC l r a = some c ↔ c ∈ l ∧ c.round = r ∧ c.author = a := by
  constructor
  · intro h
    have h1 := List.find?_some h
    simp only [decide_eq_true_eq] at h1
    exact ⟨List.mem_of_find?_eq_some h, h1⟩
  · rintro ⟨h1, h2, h3⟩
    cases hc : atC l r a with
    | none =>
      unfold atC at hc
      rw [List.find?_eq_none] at hc
      have := hc c h1
      simp [h2, h3] at this
    | some c' =>
      have h4 := List.find?_some hc
      simp only [decide_eq_true_eq] at h4
      rw [place_inj hs h1 (List.mem_of_find?_eq_some hc) (by omega) (by omega)]
theorem sub_filter {l m : List Cert} (h : l.Sublist m) (hn : (m.map (·.digest)).Nodup) : l = m.filter fun c => decide (c.digest ∈ l.map (·.digest)) := by
  induction h with
  | slnil => rfl
  | @cons l m x h ih =>
    have hn' := List.nodup_cons.1 hn
    have hx : x.digest ∉ l.map (·.digest) := fun hx => hn'.1 ((h.map _).subset hx)
    rw [List.filter_cons, if_neg (by simpa using hx)]
    exact ih hn'.2
  | @cons_cons l m x h ih =>
    have hn' := List.nodup_cons.1 hn
    rw [List.filter_cons, if_pos (by simp)]
    congr 1
    refine (ih hn'.2).trans (List.filter_congr fun c hc => ?_)
    have : c.digest ≠ x.digest := fun e => hn'.1 (List.mem_map.2 ⟨c, hc, e⟩)
    simp [this]
theorem Sub.mem {A D : Dag} (h : Sub A D) {c : Cert} (hc : c ∈ A.certs) : c ∈ D.certs := h.sub.subset hc
theorem Sub.cert {A D : Dag} (h : Sub A D) {x : Int} {c : Cert} (hc : certOf A x = some c) : certOf D x = some c := by
  obtain ⟨h1, rfl, _⟩ := certOf_some hc
  exact certOf_mem h.vd.dig (h.mem h1)
/-- what lies below a certificate of the part is the same in the whole -/
theorem Sub.down {A D : Dag} (h : Sub A D) {i j : Nat} {c : Cert} (hi : A.certs[i]? = some c) (hj : D.certs[j]? = some c) (low : Int) : downI A i low = downI D j low := by
  rw [downI_eq h.va.sorted h.va.dig hi, downI_eq h.vd.sorted h.vd.dig hj, h.la, h.ld]
  have hf := sub_filter h.sub h.vd.dig
  have hmem : ∀ {y : Cert}, y ∈ D.certs → y.digest ∈ A.certs.map (·.digest) → y ∈ A.certs := by
    intro y hy hy2
    obtain ⟨z, hz, e⟩ := List.mem_map.1 hy2
    rw [← dig_inj h.vd.dig (h.mem hz) hy e]; exact hz
  have h1 := downL_filter (dl := 0) (low := low) (fun x => decide (x ∈ A.certs.map (·.digest))) (l := D.certs.reverse) (ks := [c.digest]) (fun k hk => by
      simp only [List.mem_singleton] at hk
      rw [hk, decide_eq_true_eq]
      exact List.mem_map.2 ⟨c, List.mem_of_getElem? hi, rfl⟩) (fun y hy hy2 hyr x hx => by
      have hyA := hmem (List.mem_reverse.1 hy) (of_decide_eq_true hy2)
      obtain ⟨c', h3, h4, _⟩ := h.va.here y hyA (by rw [h.la]; exact hyr) x hx
      exact decide_eq_true (List.mem_map.2 ⟨c', h3, h4⟩)) (desc_rev h.vd.sorted)
  rw [h1, List.filter_reverse, ← hf]
theorem Sub.behind {A D : Dag} (h : Sub A D) {i j : Nat} {c : Cert} (hi : A.certs[i]? = some c) (hj : D.certs[j]? = some c) (done : List Int) : behindI A i c.round done = behindI D j c.round done := by
  unfold behindI riseI
  rw [h.down hi hj]
theorem Sub.keepB {A D : Dag} (h : Sub A D) {x : Int} (hx : x ∈ A.certs.map (·.digest)) (r : Int) : keepB A r x = keepB D r x := by
  obtain ⟨c, hc, rfl⟩ := List.mem_map.1 hx
  have h1 := certOf_mem h.va.dig hc
  have h2 := h.cert h1
  unfold certOf at h1 h2
  unfold Go.Proofs.YtoeppembokpjkaaGreat.keepB
  rw [h1, h2]
theorem behind_digs {A : Dag} {i : Nat} {r : Int} {done : List Int} : ∀ x ∈ behindI A i r done, x ∈ A.certs.map (·.digest) := by
  intro x hx
  have h1 := List.mem_reverse.1 (List.mem_filter.1 hx).1
  have h2 := (down_sub A.low (r - 8) (A.certs.take (i + 1)).reverse ((A.certs[i]?).toList.map (·.digest))).subset h1
  rw [List.map_reverse, List.mem_reverse] at h2
  exact ((List.take_sublist ..).map _).subset h2
def inDag (A : Dag) (w : Wk) : Prop := ∀ x ∈ w.c.done, x ∈ A.certs.map (·.digest)
theorem Wk.put_in {A : Dag} {w : Wk} (hw : inDag A w) (i : Nat) (c : Cert) : inDag A (w.put A i c) := by
  intro x hx
  have h1 : x ∈ sortI (keepI A c.round (w.c.done ++ behindI A i c.round w.c.done)) := hx
  rw [sortI, List.mem_mergeSort] at h1
  have h2 := (List.mem_filter.1 h1).1
  rcases List.mem_append.1 h2 with h2 | h2
  · exact hw x h2
  · exact behind_digs x h2
theorem Sub.put {A D : Dag} (h : Sub A D) {w : Wk} (hw : inDag A w) {i j : Nat} {c : Cert} (hi : A.certs[i]? = some c) (hj : D.certs[j]? = some c) : w.put A i c = w.put D j c := by
  unfold Wk.put
  rw [h.behind hi hj]
  have : keepI A c.round (w.c.done ++ behindI D j c.round w.c.done) = keepI D c.round (w.c.done ++ behindI D j c.round w.c.done) := by
    refine List.filter_congr fun x hx => ?_
    refine h.keepB ?_ c.round
    rcases List.mem_append.1 hx with h2 | h2
    · exact hw x h2
    · rw [← h.behind hi hj] at h2; exact behind_digs x h2
  rw [this]
theorem Sub.putA {A D : Dag} (h : Sub A D) {w : Wk} (hw : inDag A w) {a : Int} {c : Cert} (ha : certOf A a = some c) : w.putA A a = w.putA D a ∧ inDag A (w.putA A a) := by
  obtain ⟨_, _, i, h1, h2⟩ := certOf_some ha
  obtain ⟨_, _, j, h3, h4⟩ := certOf_some (h.cert ha)
  rw [putA_eq h1 h2, putA_eq h3 h4]
  exact ⟨h.put hw h2 h4, Wk.put_in hw i c⟩
theorem Sub.putL {A D : Dag} (h : Sub A D) : ∀ {l : List Int} {w : Wk}, inDag A w → (∀ a ∈ l, ∃ c, certOf A a = some c) → w.putL A l = w.putL D l ∧ inDag A (w.putL A l)
  | [], w, hw, _ => ⟨rfl, hw⟩
  | a :: l, w, hw, ha => by
    obtain ⟨c, hc⟩ := ha a (by simp)
    obtain ⟨h1, h2⟩ := h.putA hw hc
    obtain ⟨h3, h4⟩ := h.putL (l := l) h2 fun b hb => ha b (by simp [hb])
    refine ⟨?_, h4⟩
    show (w.putA A a).putL A l = (w.putA D a).putL D l
    rw [← h1]; exact h3
/-- anchors -/
theorem anchor_at {d : Dag} (h : Valid d) {r : Int} : anchorI d r ≠ 0 ↔ ∃ c ∈ d.certs, c.round = r ∧ c.author = leadI d.nodes r := by
  rw [anchor_pos h.well]
  constructor
  · intro h1
    obtain ⟨c, hc⟩ := Option.isSome_iff_exists.1 h1
    exact ⟨c, (atC_some h.sorted).1 hc⟩
  · rintro ⟨c, hc⟩
    rw [(atC_some h.sorted).2 hc]; rfl
theorem anchor_is {d : Dag} (h : Valid d) {c : Cert} (hc : c ∈ d.certs) (ha : c.author = leadI d.nodes c.round) : anchorI d c.round = c.digest := by
  unfold anchorI
  rw [(atC_some h.sorted).2 ⟨hc, rfl, ha⟩]; rfl
theorem Sub.anchor {A D : Dag} (h : Sub A D) {r : Int} (ha : anchorI A r ≠ 0) : anchorI D r = anchorI A r := by
  obtain ⟨c, h1, rfl, h3⟩ := (anchor_at h.va).1 ha
  rw [anchor_is h.va h1 h3, anchor_is h.vd (h.mem h1) (by rw [← h.nodes]; exact h3)]
theorem votes_pos {d : Dag} {r : Int} (h : votes d r ≠ 0) : anchorI d r > 0 := by
  have h1 : 0 < ((ofR d.certs (r + 1)).filter fun c => decide (anchorI d r > 0 ∧ anchorI d r ∈ c.pars)).length := Nat.pos_of_ne_zero h
  obtain ⟨c, hc⟩ := List.exists_mem_of_length_pos h1
  have := (List.mem_filter.1 hc).2
  simp only [decide_eq_true_eq] at this
  exact this.1
theorem Sub.votes {A D : Dag} (h : Sub A D) (r : Int) : votes A r ≤ votes D r := by
  rcases Nat.eq_zero_or_pos (Go.Proofs.YtoeppembokpjkaaGreat.votes A r) with h0 | h0
  · omega
  · have h1 := votes_pos (Nat.ne_of_gt h0)
    have h2 := h.anchor (r := r) (by omega)
    unfold Go.Proofs.YtoeppembokpjkaaGreat.votes
    rw [h2]
    exact ((h.sub.filter _).filter _).length_le
theorem settled_votes {d : Dag} (h : Valid d) {r : Int} (hs : settled d r = true) : (votes d r : Int) > (d.nodes - 1) / 3 ∧ votes d r ≠ 0 := by
  have hn := of_decide_eq_true h.nodes
  have := of_decide_eq_true hs
  exact ⟨this, by omega⟩
theorem Sub.settled {A D : Dag} (h : Sub A D) {r : Int} (hs : settled A r = true) : settled D r = true := by
  have h1 := (settled_votes h.va hs).1
  have h2 := h.votes r
  have h3 := h.nodes
  exact decide_eq_true (by rw [← h3]; omega)
theorem top_le {d : Dag} (h : Valid d) {c : Cert} (hc : c ∈ d.certs) : c.round ≤ topR d.certs := by
  unfold topR
  cases hg : d.certs.getLast? with
  | none => rw [List.getLast?_eq_none_iff] at hg; rw [hg] at hc; cases hc
  | some z =>
    show c.round ≤ z.round
    obtain ⟨m, hm⟩ := List.getLast?_eq_some_iff.1 hg
    have hs := h.sorted
    rw [hm] at hs hc
    rcases List.mem_append.1 hc with hc | hc
    · have := before_iff.1 ((List.pairwise_append.1 hs).2.2 c hc z (by simp))
      omega
    · simp at hc; rw [hc]; exact Int.le_refl _
theorem settled_top {d : Dag} (h : Valid d) {r : Int} (hs : settled d r = true) : r < topR d.certs := by
  have h1 := (settled_votes h hs).2
  have h2 : 0 < ((ofR d.certs (r + 1)).filter fun c => decide (anchorI d r > 0 ∧ anchorI d r ∈ c.pars)).length := Nat.pos_of_ne_zero h1
  obtain ⟨c, hc⟩ := List.exists_mem_of_length_pos h2
  have h3 := List.mem_filter.1 (List.mem_filter.1 hc).1
  have h4 := top_le h h3.1
  have := of_decide_eq_true h3.2
  omega
/-- the next settled round is the least one -/
theorem nextR_le {d : Dag} (h : Valid d) {q : Int} (hq : settled d q = true) : ∀ r : Int, 0 < r → r ≤ q → r % 2 = q % 2 → nextR d r > 0 ∧ nextR d r ≤ q := by
  intro r
  induction r using nextR.induct (d := d) with
  | case1 r hr => intro _ h1 _; have := settled_top h hq; omega
  | case2 r hr hs => intro h0 h1 _; rw [next_here hr hs]; exact ⟨h0, h1⟩
  | case3 r hr hs ih =>
    intro h0 h1 h2
    have hs' : settled d r = false := by simpa using hs
    rw [next_on hr hs']
    refine ih (by omega) ?_ (by omega)
    rcases Int.lt_or_eq_of_le h1 with h3 | h3
    · omega
    · subst h3; rw [hq] at hs'; cases hs'
end Go.Proofs.YtoeppembokpjkaaGreat

namespace Go.Proofs.YtoeppembokpjkaaGreat
open Go.Ab Go.RowKit
theorem round_len {d : Dag} (h : Valid d) (r : Int) : ((ofR d.certs r).length : Int) ≤ d.nodes := by
  have hn := of_decide_eq_true h.nodes
  have h1 : ((ofR d.certs r).map (·.author)).Nodup := by
    unfold List.Nodup
    rw [List.pairwise_map]
    refine List.Pairwise.imp_of_mem ?_ (h.sorted.filter fun c => decide (c.round = r))
    intro a b ha hb hab e
    have h1 := before_iff.1 hab
    have h2 := of_decide_eq_true (List.mem_filter.1 ha).2
    have h3 := of_decide_eq_true (List.mem_filter.1 hb).2
    omega
  have h2 := sub_len (m := (List.range d.nodes.toNat).map fun n : Nat => (n : Int) + 1) h1 fun x hx => by
    obtain ⟨c, hc, rfl⟩ := List.mem_map.1 hx
    have := (h.certs c (List.mem_filter.1 hc).1).head.author
    exact List.mem_map.2 ⟨(c.author - 1).toNat, by simp; omega, by omega⟩
  simp at h2
  omega
/-- each certificate two rounds above a settled anchor has it below itself -/
theorem settled_anc {d : Dag} (h : Valid d) (h0 : d.low = 0) {r : Int} (hs : settled d r = true) {a : Cert} (ha : a ∈ d.certs) (har : a.round = r) (had : a.digest = anchorI d r) : ∀ (n : Nat) (x : Cert), x ∈ d.certs → x.round = r + 2 + n → Anc d x a := by
  have hn := of_decide_eq_true h.nodes
  have hr1 := (h.certs a ha).head.round
  intro n
  induction n with
  | zero =>
    intro x hx hxr
    have hp := (h.certs x hx).head
    have hq := hp.many (by omega)
    have hpn := rising_nodup hp.pars.2.1
    have hin := h.here x hx (by omega)
    have hv := (settled_votes h hs).1
    have hrl := round_len h (r + 1)
    have hvn : (((ofR d.certs (r + 1)).filter fun c => decide (anchorI d r > 0 ∧ anchorI d r ∈ c.pars)).map (·.digest)).Nodup := h.dig.sublist (((List.filter_sublist.trans List.filter_sublist)).map _)
    have hex : ∃ p ∈ x.pars, p ∈ ((ofR d.certs (r + 1)).filter fun c => decide (anchorI d r > 0 ∧ anchorI d r ∈ c.pars)).map (·.digest) := by
      refine Classical.byContradiction fun hno => ?_
      have hnd : (x.pars ++ ((ofR d.certs (r + 1)).filter fun c => decide (anchorI d r > 0 ∧ anchorI d r ∈ c.pars)).map (·.digest)).Nodup :=
        List.nodup_append.2 ⟨hpn, hvn, fun p hp q hq e => hno ⟨p, hp, by rw [e]; exact hq⟩⟩
      have hle := sub_len (m := (ofR d.certs (r + 1)).map (·.digest)) hnd fun y hy => by
        rcases List.mem_append.1 hy with hy | hy
        · obtain ⟨c', h1, h2, h3⟩ := hin y hy
          exact List.mem_map.2 ⟨c', List.mem_filter.2 ⟨h1, decide_eq_true (by omega)⟩, h2⟩
        · exact (List.filter_sublist.map _).subset hy
      rw [List.length_append, List.length_map, List.length_map] at hle
      have hve : ((ofR d.certs (r + 1)).filter fun c => decide (anchorI d r > 0 ∧ anchorI d r ∈ c.pars)).length = votes d r := rfl
      rw [hve] at hle
      unfold quo at hq
      omega
    obtain ⟨p, hp1, hp2⟩ := hex
    obtain ⟨v, hv1, rfl⟩ := List.mem_map.1 hp2
    have h1 := List.mem_filter.1 hv1
    have h2 := List.mem_filter.1 h1.1
    have h3 := of_decide_eq_true h1.2
    have h4 := of_decide_eq_true h2.2
    exact .step (.step .refl (by omega) h2.1 hp1 (by omega)) (by omega) ha (by rw [had]; exact h3.2) (by omega)
  | succ n ih =>
    intro x hx hxr
    have hp := (h.certs x hx).head
    have hq := hp.many (by omega)
    unfold quo at hq
    have hlen : 0 < x.pars.length := by omega
    obtain ⟨p, hp1⟩ := List.exists_mem_of_length_pos hlen
    obtain ⟨c', h1, h2, h3⟩ := h.here x hx (by omega) p hp1
    exact (ih c' h1 (by omega)).cons (by omega) h1 (by rw [h2]; exact hp1) (by omega)
theorem reachJ_of {d : Dag} (h : Valid d) (h0 : d.low = 0) {r : Int} (hs : settled d r = true) {i k : Nat} {x a : Cert} (hx : d.certs[i]? = some x) (ha : d.certs[k]? = some a) (har : a.round = r) (had : a.digest = anchorI d r) (hxr : r + 2 ≤ x.round) : reachJ d i k = true := by
  have h1 := settled_anc h h0 hs (List.mem_of_getElem? ha) har had (x.round - (r + 2)).toNat x (List.mem_of_getElem? hx) (by omega)
  unfold reachJ
  rw [ha]
  exact decide_eq_true (anc_down h.sorted h.dig hx h1 (by omega)).1
theorem anchor_idx {d : Dag} (h : Valid d) {r : Int} (ha : anchorI d r ≠ 0) : ∃ k a, getC d.certs (anchorI d r) = some k ∧ d.certs[k]? = some a ∧ a.digest = anchorI d r ∧ a.round = r ∧ a.author = leadI d.nodes r := by
  obtain ⟨c, h1, h2, h3⟩ := anchor_cert h.well ha
  obtain ⟨_, h4, k, h5, h6⟩ := certOf_some h1
  exact ⟨k, c, h5, h6, h4, h2, h3⟩
theorem Sub.backR {A D : Dag} (h : Sub A D) (after : Int) : ∀ (r : Int) (i j : Nat) (x : Cert), A.certs[i]? = some x → D.certs[j]? = some x → backR A after r i = backR D after r j := by
  intro r i
  induction r, i using backR.induct (d := A) (after := after) with
  | case1 r i h1 =>
    intro j x hi hj
    rw [back_end h1, back_end (by rw [h.ld, ← h.la]; exact h1)]
  | case2 r i h1 h2 ih =>
    intro j x hi hj
    have h1' : ¬ (r - 2 ≤ after ∨ r - 2 ≤ D.low) := by rw [h.ld, ← h.la]; exact h1
    rw [back_no h1 h2, ih j x hi hj]
    by_cases h3 : anchorI D (r - 2) = 0
    · rw [back_no h1' h3]
    · obtain ⟨k, a, k1, k2, k3, k4, k5⟩ := anchor_idx h.vd h3
      rw [back_yes h1' h3 k1, if_neg]
      intro hre
      unfold reachJ at hre
      rw [k2] at hre
      have hre := of_decide_eq_true hre
      rw [← h.down hi hj] at hre
      have h4 := (down_sub A.low (a.round - 1) (A.certs.take (i + 1)).reverse ((A.certs[i]?).toList.map (·.digest))).subset hre
      rw [List.map_reverse, List.mem_reverse] at h4
      have h5 := ((List.take_sublist ..).map _).subset h4
      obtain ⟨z, hz, hze⟩ := List.mem_map.1 h5
      have hza := dig_inj h.vd.dig (h.mem hz) (List.mem_of_getElem? k2) hze
      subst hza
      exact (anchor_at h.va).2 ⟨z, hz, k4, by rw [h.nodes]; exact k5⟩ h2
  | case3 r i h1 h2 h3 =>
    obtain ⟨j, c, h4, _⟩ := anchor_get h2
    rw [h3] at h4; cases h4
  | case4 r i h1 h2 k h3 h4 ih =>
    intro j x hi hj
    have h1' : ¬ (r - 2 ≤ after ∨ r - 2 ≤ D.low) := by rw [h.ld, ← h.la]; exact h1
    obtain ⟨k', a, k1, k2, k3, k4, k5⟩ := anchor_idx h.va h2
    rw [h3] at k1; cases k1
    have h5 := h.anchor h2
    obtain ⟨m, b, m1, m2, m3, m4, m5⟩ := anchor_idx h.vd (r := r - 2) (by rw [h5]; exact h2)
    have hab := dig_inj h.vd.dig (h.mem (List.mem_of_getElem? k2)) (List.mem_of_getElem? m2) (by rw [k3, m3, h5])
    subst hab
    rw [back_yes h1 h2 h3, if_pos h4, back_yes h1' (by rw [h5]; exact h2) m1, if_pos, h5, ih m a k2 m2]
    unfold reachJ at h4 ⊢
    rw [k2] at h4; rw [m2]
    have h4 := of_decide_eq_true h4
    rw [h.down hi hj] at h4
    exact decide_eq_true h4
  | case5 r i h1 h2 k h3 h4 ih =>
    intro j x hi hj
    have h1' : ¬ (r - 2 ≤ after ∨ r - 2 ≤ D.low) := by rw [h.ld, ← h.la]; exact h1
    obtain ⟨k', a, k1, k2, k3, k4, k5⟩ := anchor_idx h.va h2
    rw [h3] at k1; cases k1
    have h5 := h.anchor h2
    obtain ⟨m, b, m1, m2, m3, m4, m5⟩ := anchor_idx h.vd (r := r - 2) (by rw [h5]; exact h2)
    have hab := dig_inj h.vd.dig (h.mem (List.mem_of_getElem? k2)) (List.mem_of_getElem? m2) (by rw [k3, m3, h5])
    subst hab
    rw [back_yes h1 h2 h3, if_neg h4, back_yes h1' (by rw [h5]; exact h2) m1, if_neg, ih j x hi hj]
    intro h6
    refine h4 ?_
    unfold reachJ at h6 ⊢
    rw [m2] at h6; rw [k2]
    have h6 := of_decide_eq_true h6
    rw [← h.down hi hj] at h6
    exact decide_eq_true h6
theorem Sub.backI {A D : Dag} (h : Sub A D) (after : Int) {r : Int} (ha : anchorI A r ≠ 0) : backI A after r = backI D after r := by
  have h5 := h.anchor ha
  obtain ⟨k, a, k1, k2, k3, k4, k5⟩ := anchor_idx h.va ha
  obtain ⟨m, b, m1, m2, m3, m4, m5⟩ := anchor_idx h.vd (r := r) (by rw [h5]; exact ha)
  have hab := dig_inj h.vd.dig (h.mem (List.mem_of_getElem? k2)) (List.mem_of_getElem? m2) (by rw [k3, m3, h5])
  subst hab
  unfold Go.Proofs.YtoeppembokpjkaaGreat.backI
  rw [k1, m1, h5]
  rw [Option.getD_some, Option.getD_some, h.backR after r k m a k2 m2]
/-- the chain passes by each settled anchor -/
theorem backR_pass {d : Dag} (h : Valid d) (h0 : d.low = 0) {s after : Int} (hs : settled d s = true) (has : after < s) {k : Nat} {a : Cert} (hk1 : getC d.certs (anchorI d s) = some k) (hk2 : d.certs[k]? = some a) (hk3 : a.digest = anchorI d s) (hk4 : a.round = s) (hne : anchorI d s ≠ 0) :
    ∀ (r : Int) (i : Nat) (x : Cert), d.certs[i]? = some x → r ≤ x.round → s < r → s % 2 = r % 2 → backR d after r i = backR d s r i ++ anchorI d s :: backR d after s k := by
  have hs1 := (h.certs a (List.mem_of_getElem? hk2)).head.round
  intro r i
  induction r, i using backR.induct (d := d) (after := after) with
  | case1 r i h1 => intro x hi hx hsr hp; omega
  | case2 r i h1 h2 ih =>
    intro x hi hx hsr hp
    have hne2 : r - 2 ≠ s := by intro e; rw [e] at h2; exact hne h2
    rw [back_no h1 h2, back_no (by rw [h0]; omega) h2]
    exact ih x hi (by omega) (by omega) (by omega)
  | case3 r i h1 h2 h3 =>
    obtain ⟨j, c, h4, _⟩ := anchor_get h2
    rw [h3] at h4; cases h4
  | case4 r i h1 h2 m h3 h4 ih =>
    intro x hi hx hsr hp
    rcases Int.lt_or_eq_of_le (show s ≤ r - 2 by omega) with h5 | h5
    · rw [back_yes h1 h2 h3, if_pos h4, back_yes (after := s) (by rw [h0]; omega) h2 h3, if_pos h4]
      obtain ⟨m', b, m1, m2, m3, m4, m5⟩ := anchor_idx h h2
      rw [h3] at m1; cases m1
      rw [ih b m2 (by omega) (by omega) (by omega)]
      rfl
    · subst h5
      rw [hk1] at h3; cases h3
      rw [back_yes h1 h2 hk1, if_pos h4, back_end (after := r - 2) (by omega)]
      rfl
  | case5 r i h1 h2 m h3 h4 ih =>
    intro x hi hx hsr hp
    rcases Int.lt_or_eq_of_le (show s ≤ r - 2 by omega) with h5 | h5
    · rw [back_yes h1 h2 h3, if_neg h4, back_yes (after := s) (by rw [h0]; omega) h2 h3, if_neg h4]
      exact ih x hi (by omega) (by omega) (by omega)
    · subst h5
      rw [hk1] at h3; cases h3
      exact absurd (reachJ_of h h0 hs hi hk2 hk4 hk3 (by omega)) h4
theorem backI_pass {d : Dag} (h : Valid d) (h0 : d.low = 0) {s after r : Int} (hs : settled d s = true) (has : after < s) (hsr : s < r) (hp : s % 2 = r % 2) (ha : anchorI d r ≠ 0) : backI d after r = backI d after s ++ backI d s r := by
  have hn := of_decide_eq_true h.nodes
  have hne := settled_anchor (show 0 < d.nodes by omega) hs
  obtain ⟨k, a, k1, k2, k3, k4, k5⟩ := anchor_idx h hne
  obtain ⟨m, b, m1, m2, m3, m4, m5⟩ := anchor_idx h ha
  unfold Go.Proofs.YtoeppembokpjkaaGreat.backI
  rw [k1, m1, Option.getD_some, Option.getD_some, backR_pass h h0 hs has k1 k2 k3 k4 hne r m b m2 (by omega) hsr hp]
  simp
/-! ## going on -/
theorem putL_app (d : Dag) (w : Wk) (l m : List Int) : w.putL d (l ++ m) = (w.putL d l).putL d m := List.foldl_append ..
theorem putL_round {d : Dag} (h : Valid d) {w : Wk} {l : List Int} {s : Int} (ha : anchorI d s ≠ 0) (hl : l.getLast? = some (anchorI d s)) : (w.putL d l).c.round = s := by
  obtain ⟨m, rfl⟩ := List.getLast?_eq_some_iff.1 hl
  obtain ⟨k, a, k1, k2, k3, k4, k5⟩ := anchor_idx h ha
  rw [putL_app]
  show (Wk.putA d (w.putL d m) (anchorI d s)).c.round = s
  rw [putA_eq k1 k2]
  exact k4
theorem goF_fuel {d : Dag} (h : Valid d) : ∀ (n m : Nat) (w : Wk), 0 ≤ w.c.round → w.c.round % 2 = 0 → topR d.certs - w.c.round ≤ n → topR d.certs - w.c.round ≤ m → Wk.goF d n w = Wk.goF d m w := by
  intro n
  induction n with
  | zero =>
    intro m w h0 h2 hn hm
    by_cases hp : nextC d w.c.round > 0
    · have := nextC_spec h.well h0 h2 hp; omega
    · rw [goF_end hp, goF_end hp]
  | succ n ih =>
    intro m w h0 h2 hn hm
    by_cases hp : nextC d w.c.round > 0
    · have hsp := nextC_spec h.well h0 h2 hp
      cases m with
      | zero => omega
      | succ m =>
        rw [Wk.goF, Wk.goF, if_pos hp, if_pos hp]
        have hr : (w.putL d (Go.Proofs.YtoeppembokpjkaaGreat.backI d w.c.round (nextC d w.c.round))).c.round = nextC d w.c.round := putL_round h hsp.2.2.2.2.1 (backI_all h.well hsp.1 hsp.2.2.2.2.1).2.2
        exact ih m _ (by rw [hr]; omega) (by rw [hr]; exact hsp.2.2.2.1) (by rw [hr]; omega) (by rw [hr]; omega)
    · rw [goF_end hp, goF_end hp]
def run (d : Dag) (w : Wk) : Wk := Wk.goF d (topR d.certs).toNat w
theorem run_step {d : Dag} (h : Valid d) {w : Wk} (h0 : 0 ≤ w.c.round) (h2 : w.c.round % 2 = 0) (hp : nextC d w.c.round > 0) : run d w = run d (w.putL d (backI d w.c.round (nextC d w.c.round))) := by
  have hsp := nextC_spec h.well h0 h2 hp
  have hr : (w.putL d (backI d w.c.round (nextC d w.c.round))).c.round = nextC d w.c.round := putL_round h hsp.2.2.2.2.1 (backI_all h.well hsp.1 hsp.2.2.2.2.1).2.2
  obtain ⟨n, hn⟩ : ∃ n, (topR d.certs).toNat = n + 1 := ⟨(topR d.certs).toNat - 1, by omega⟩
  unfold run
  rw [hn, Wk.goF, if_pos hp]
  exact goF_fuel h _ _ _ (by rw [hr]; omega) (by rw [hr]; exact hsp.2.2.2.1) (by rw [hr]; omega) (by rw [hr]; omega)
theorem nextC_low {d : Dag} (h0 : d.low = 0) {r : Int} (hr : 0 ≤ r) : nextC d r = nextR d (r + 2) := by
  unfold nextC
  rw [h0, show max r (0 - 0 % 2) = r by omega]
theorem run_pass {d : Dag} (h : Valid d) (hl : d.low = 0) {s : Int} (hs : settled d s = true) (hse : s % 2 = 0) : ∀ (n : Nat) (w : Wk), (s - w.c.round).toNat ≤ n → 0 ≤ w.c.round → w.c.round % 2 = 0 → w.c.round < s → run d w = run d (w.putL d (backI d w.c.round s)) := by
  have hn := of_decide_eq_true h.nodes
  have hne := settled_anchor (show 0 < d.nodes by omega) hs
  intro n
  induction n with
  | zero => intro w h1 h2 h3 h4; omega
  | succ n ih =>
    intro w h1 h2 h3 h4
    obtain ⟨h5, h6⟩ := nextR_le h hs (w.c.round + 2) (by omega) (by omega) (by omega)
    rw [← nextC_low hl h2] at h5 h6
    have hsp := nextC_spec h.well h2 h3 h5
    rw [run_step h h2 h3 h5]
    rcases Int.lt_or_eq_of_le h6 with h7 | h7
    · have hr : (w.putL d (backI d w.c.round (nextC d w.c.round))).c.round = nextC d w.c.round := putL_round h hsp.2.2.2.2.1 (backI_all h.well hsp.1 hsp.2.2.2.2.1).2.2
      rw [ih _ (by rw [hr]; omega) (by rw [hr]; omega) (by rw [hr]; exact hsp.2.2.2.1) (by rw [hr]; exact h7), hr, ← putL_app, ← backI_pass h hl hsp.2.2.1 hsp.1 h7 (by omega) hne]
    · rw [h7]
theorem sub_run {A D : Dag} (h : Sub A D) : ∀ (n : Nat) (w : Wk), inDag A w → 0 ≤ w.c.round → w.c.round % 2 = 0 → run D (Wk.goF A n w) = run D w ∧ inDag A (Wk.goF A n w) := by
  intro n
  induction n with
  | zero => intro w h1 _ _; exact ⟨rfl, h1⟩
  | succ n ih =>
    intro w h1 h2 h3
    rw [Wk.goF]
    split
    · rename_i hp
      have hsp := nextC_spec h.va.well h2 h3 hp
      have hall := backI_all h.va.well hsp.1 hsp.2.2.2.2.1
      obtain ⟨p1, p2⟩ := h.putL (l := Go.Proofs.YtoeppembokpjkaaGreat.backI A w.c.round (nextC A w.c.round)) h1 fun a ha => by
        obtain ⟨q, _, _, rfl, q2⟩ := hall.1 a ha
        obtain ⟨c, hc, _⟩ := anchor_cert h.va.well q2
        exact ⟨c, hc⟩
      have hr : (w.putL A (Go.Proofs.YtoeppembokpjkaaGreat.backI A w.c.round (nextC A w.c.round))).c.round = nextC A w.c.round := putL_round h.va hsp.2.2.2.2.1 hall.2.2
      obtain ⟨i1, i2⟩ := ih _ p2 (by rw [hr]; omega) (by rw [hr]; exact hsp.2.2.2.1)
      refine ⟨?_, i2⟩
      rw [i1, p1, h.backI _ hsp.2.2.2.2.1]
      exact (run_pass h.vd h.ld (h.settled hsp.2.2.1) hsp.2.2.2.1 _ w (Nat.le_refl _) h2 h3 hsp.1).symm
    · exact ⟨rfl, h1⟩
theorem put_outs (d : Dag) (w : Wk) (a : Int) : w.outs <+: (w.putA d a).outs := by
  unfold Wk.putA
  split
  · split
    · exact List.prefix_append ..
    · exact List.prefix_refl _
  · exact List.prefix_refl _
theorem putL_outs (d : Dag) : ∀ (l : List Int) (w : Wk), w.outs <+: (w.putL d l).outs
  | [], w => List.prefix_refl _
  | a :: l, w => (put_outs d w a).trans (putL_outs d l (w.putA d a))
theorem goF_outs (d : Dag) : ∀ (n : Nat) (w : Wk), w.outs <+: (Wk.goF d n w).outs
  | 0, w => List.prefix_refl _
  | n + 1, w => by
    rw [Wk.goF]
    split
    · exact (putL_outs d _ w).trans (goF_outs d n _)
    · exact List.prefix_refl _
end Go.Proofs.YtoeppembokpjkaaGreat

namespace Go.Proofs.YtoeppembokpjkaaGreat
open Go.Ab Go.RowKit
theorem putL_okay {d : Dag} (hw : d.well) {w : Wk} {l : List Int} (h : Chain d w l) (hok : w.okay d) : (w.putL d l).okay d := by
  have : ∀ j, j ≤ l.length → goInI d [] w l false (w.putL d (l.take j)) j := by
    intro j
    induction j with
    | zero =>
      intro _
      exact goInI.start hw h hok (done0 := []) (b := false) (by intro h; cases h)
    | succ j ih =>
      intro hj
      obtain ⟨x, i, c, h1, h2, h3, h4⟩ := h.at hw (show j < l.length by omega)
      have h5 := goInI.step hw h (ih (by omega)) (by omega) h1 h2 h3 h4
      have e := h5.is
      rw [e] at h5
      exact h5
  have := (this l.length (Nat.le_refl _)).okay
  rwa [List.take_length] at this
theorem goF_okay {d : Dag} (h : Valid d) : ∀ (n : Nat) (w : Wk), w.okay d → 0 ≤ w.c.round → w.c.round % 2 = 0 → (Wk.goF d n w).okay d ∧ 0 ≤ (Wk.goF d n w).c.round ∧ (Wk.goF d n w).c.round % 2 = 0 ∧ (Wk.goF d n w).c.round ≤ max w.c.round (topR d.certs) := by
  intro n
  induction n with
  | zero => intro w h1 h2 h3; exact ⟨h1, h2, h3, by show w.c.round ≤ _; omega⟩
  | succ n ih =>
    intro w h1 h2 h3
    rw [Wk.goF]
    split
    · rename_i hp
      have hsp := nextC_spec h.well h2 h3 hp
      have hall := backI_all h.well hsp.1 hsp.2.2.2.2.1
      have hr : (w.putL d (backI d w.c.round (nextC d w.c.round))).c.round = nextC d w.c.round := putL_round h hsp.2.2.2.2.1 hall.2.2
      obtain ⟨i1, i2, i3, i4⟩ := ih _ (putL_okay h.well ⟨hall.1, hall.2.1, hall.2.2⟩ h1) (by rw [hr]; omega) (by rw [hr]; exact hsp.2.2.2.1)
      exact ⟨i1, i2, i3, by rw [hr] at i4; omega⟩
    · exact ⟨h1, h2, h3, by omega⟩
theorem sub_fin {A D : Dag} (h : Sub A D) {c : Cursor} (hc : inDag A ⟨c, []⟩) (h0 : 0 ≤ c.round) (h2 : c.round % 2 = 0) : run D (finW A c) = finW D c ∧ inDag A (finW A c) := sub_run h _ _ hc h0 h2
/-- what was put out ahead stands ahead -/
def Wk.pre (o : List Int) (w : Wk) : Wk := ⟨w.c, o ++ w.outs⟩
theorem Sub.refl {d : Dag} (h : Valid d) (h0 : d.low = 0) : Sub d d := ⟨h, h, h0, h0, rfl, List.Sublist.refl _⟩
end Go.Proofs.YtoeppembokpjkaaGreat

namespace Go.Proofs.YtoeppembokpjkaaGreat
open Go.Ab Go.RowKit Go.MapKept
attribute [local irreducible] ACalls AW ADraw Into fltB fnear
set_option maxRecDepth 100000
def bools (l : List Bool) : List (List DV) := l.map fun b => [.bool b]
end Go.Proofs.YtoeppembokpjkaaGreat

namespace Go.Proofs.YtoeppembokpjkaaGreat
open Go.Ab Go.RowKit Go.MapKept
attribute [local irreducible] ACalls AW ADraw Into fltB fnear
set_option maxRecDepth 100000
theorem take_snoc' {α : Type} {l : List α} {j : Nat} {c : α} (hc : l[j]? = some c) : l.take (j + 1) = l.take j ++ [c] := by rw [List.take_add_one, hc]; rfl
end Go.Proofs.YtoeppembokpjkaaGreat

namespace Go.Proofs.YtoeppembokpjkaaGreat
open Go.Ab Go.RowKit Go.MapKept
attribute [local irreducible] ACalls AW ADraw Into fltB fnear
set_option maxRecDepth 100000
end Go.Proofs.YtoeppembokpjkaaGreat
