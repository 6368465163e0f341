/- Part of the proof of PrimaryWaits: the contracts of the functions. -/
import Derived.Test.YtdlfmgcmfoehdaaGreatPrimaryWaitsCodD

set_option linter.unusedVariables false
set_option linter.unusedSimpArgs false
namespace Go.Proofs.YtdlfmgcmfoehdaaGreat
open Go.Ab Go.RowKit Go.MapKept
attribute [local irreducible] ACalls AW ADraw Into fltB fnear
set_option maxRecDepth 100000
structure mayP (d : Dag) (j : Nat) : Prop where
  ok : ∀ c ∈ d.certs.take j, okCert d.nodes c ∧ d.low < c.round ∧ lacksI d c = []
  sorted : sortedC (d.certs.take j)
  dig : ((d.certs.take j).map (·.digest)).Nodup
theorem take_snoc {α : Type} {l : List α} {j : Nat} {c : α} (hc : l[j]? = some c) : l.take (j + 1) = l.take j ++ [c] := by rw [List.take_add_one, hc]; rfl
theorem mayP.next {d : Dag} {j : Nat} (h : mayP d j) {c : Cert} (hc : d.certs[j]? = some c) (h1 : okCert d.nodes c) (h2 : d.low < c.round) (h3 : lacksI d c = []) (h4 : ∀ c0, 0 < j → d.certs[j - 1]? = some c0 → c0.before c.round c.author = true) (h5 : ∀ x ∈ d.certs.take j, x.digest ≠ c.digest) : mayP d (j + 1) := by
  have e := take_snoc hc
  refine ⟨?_, ?_, ?_⟩
  · rw [e]
    intro y hy
    rcases List.mem_append.1 hy with hy | hy
    · exact h.ok y hy
    · simp at hy; rw [hy]; exact ⟨h1, h2, h3⟩
  · rw [e]
    refine List.pairwise_append.2 ⟨h.sorted, by simp, fun x hx y hy => ?_⟩
    simp at hy
    rw [hy]
    obtain ⟨i, hi, rfl⟩ := List.mem_take_iff_getElem.1 hx
    have hil : i < j := by omega
    have hjl := (List.getElem?_eq_some_iff.1 hc).1
    have hp : d.certs[j - 1]? = some d.certs[j - 1] := List.getElem?_eq_getElem (by omega)
    have hb := h4 _ (by omega) hp
    rcases Nat.lt_or_ge i (j - 1) with hlt | hge
    · have h6 := List.pairwise_iff_getElem.1 h.sorted i (j - 1) (by rw [List.length_take]; omega) (by rw [List.length_take]; omega) hlt
      rw [List.getElem_take, List.getElem_take] at h6
      have h7 := before_iff.1 h6
      have h8 := before_iff.1 hb
      exact before_iff.2 (by omega)
    · have : i = j - 1 := by omega
      subst this
      exact hb
  · rw [e, List.map_append, List.nodup_append]
    refine ⟨h.dig, by simp, fun a ha b hb => ?_⟩
    obtain ⟨x, hx, rfl⟩ := List.mem_map.1 ha
    simp at hb
    rw [hb]
    exact h5 x hx
theorem lacks_nil {d : Dag} {c : Cert} (h : lacksI d c = []) (hr : c.round > d.low + 1) : ∀ x ∈ c.pars, ∃ c' ∈ d.certs, c'.digest = x ∧ c'.round = c.round - 1 := by
  intro x hx
  rw [lacksI, if_neg (by omega), List.filter_eq_nil_iff] at h
  have := h x hx
  unfold lackB at this
  cases hc : certOf d x with
  | none => rw [hc] at this; simp at this
  | some c' =>
    rw [hc] at this
    simp at this
    obtain ⟨h1, h2, _⟩ := certOf_some hc
    exact ⟨c', h1, h2, this⟩
theorem mayP.valid {d : Dag} (h : mayP d d.certs.length) (h1 : isN d.nodes = true) (h2 : 0 ≤ d.low ∧ d.low ≤ 1099511627776) (h3 : d.certs.length ≤ 65536) : Valid d := by
  obtain ⟨a, b, c⟩ := h
  rw [List.take_length] at a b c
  exact ⟨h1, h2, h3, fun c hc => (a c hc).1, fun c hc => (a c hc).2.1, b, c, fun c hc hr => lacks_nil (a c hc).2.2 hr⟩
theorem ok_fewL {c : Cert} (h : c.ok) : fewL c := ⟨h.bats.1, h.pars.1, h.sigs.1⟩
end Go.Proofs.YtdlfmgcmfoehdaaGreat

namespace Go.Proofs.YtdlfmgcmfoehdaaGreat
open Go.Ab Go.RowKit Go.MapKept
attribute [local irreducible] ACalls AW ADraw Into fltB fnear
set_option maxRecDepth 100000
/-- going on, as data -/
def Wk.goF (d : Dag) : Nat → Wk → Wk
  | 0, w => w
  | n + 1, w => if nextC d w.c.round > 0 then Wk.goF d n (w.putL d (backI d w.c.round (nextC d w.c.round))) else w
theorem nextR_spec (d : Dag) : ∀ r : Int, nextR d r = 0 ∨ (r ≤ nextR d r ∧ nextR d r < topR d.certs ∧ settled d (nextR d r) = true ∧ nextR d r % 2 = r % 2) := by
  intro r
  induction r using nextR.induct (d := d) with
  | case1 r h => exact .inl (next_top h)
  | case2 r h h2 => rw [next_here h h2]; exact .inr ⟨by omega, by omega, h2, rfl⟩
  | case3 r h h2 ih =>
    rw [next_on h (by simpa using h2)]
    rcases ih with ih | ⟨i1, i2, i3, i4⟩
    · exact .inl ih
    · exact .inr ⟨by omega, i2, i3, by omega⟩
theorem settled_anchor {d : Dag} (hn : 0 < d.nodes) {r : Int} (h : settled d r = true) : anchorI d r ≠ 0 := by
  intro h0
  unfold settled at h
  have hv : votes d r = 0 := by
    unfold votes
    rw [h0]
    rw [List.filter_eq_nil_iff.2]
    · rfl
    · intro c _; simp
  rw [hv] at h
  simp at h
  omega
theorem nextC_spec {d : Dag} (hw : d.well) {after : Int} (ha : 0 ≤ after) (he : after % 2 = 0) (h : nextC d after > 0) : after < nextC d after ∧ nextC d after < topR d.certs ∧ settled d (nextC d after) = true ∧ nextC d after % 2 = 0 ∧ anchorI d (nextC d after) ≠ 0 ∧ 2 ≤ nextC d after := by
  have hl := hw.low
  rcases nextR_spec d (max after (d.low - d.low % 2) + 2) with h1 | ⟨h1, h2, h3, h4⟩
  · unfold nextC at h; omega
  · unfold nextC at h ⊢
    have h5 : (d.low - d.low % 2) % 2 = 0 := by omega
    have h6 : (max after (d.low - d.low % 2) + 2) % 2 = 0 := by
      rcases Int.le_total after (d.low - d.low % 2) with h7 | h7
      · rw [Int.max_eq_right h7]; omega
      · rw [Int.max_eq_left h7]; omega
    exact ⟨by omega, h2, h3, by omega, settled_anchor hw.nodes.1 h3, by omega⟩
structure goInv (d : Dag) (done0 : List Int) (fin : Wk) (b : Bool) (w : Wk) : Prop where
  okay : w.okay d
  round : 0 ≤ w.c.round ∧ w.c.round ≤ 1099511627776 ∧ w.c.round % 2 = 0
  first : b = true → w.c.done = done0
  fin : ∃ n : Nat, topR d.certs - w.c.round ≤ n ∧ fin = Wk.goF d n w
structure goInI (d : Dag) (done0 : List Int) (w0 : Wk) (l : List Int) (b : Bool) (w : Wk) (j : Nat) : Prop where
  okay : w.okay d
  le : j ≤ l.length
  first : b = true → w.c.done = done0
  is : w = w0.putL d (l.take j)
  next : ∀ x ∈ l.drop j, w.c.round < roundOf d x
  last : ∀ x, 0 < j → l[j - 1]? = some x → w.c.round = roundOf d x
structure Chain (d : Dag) (w0 : Wk) (l : List Int) : Prop where
  all : ∀ x ∈ l, ∃ q, w0.c.round < q ∧ q ≤ nextC d w0.c.round ∧ x = anchorI d q ∧ anchorI d q ≠ 0
  up : l.Pairwise fun x y => roundOf d x < roundOf d y
  last : l.getLast? = some (anchorI d (nextC d w0.c.round))
theorem Chain.at {d : Dag} (hw : d.well) {w0 : Wk} {l : List Int} (h : Chain d w0 l) {j : Nat} (hj : j < l.length) : ∃ x i c, l[j]? = some x ∧ getC d.certs x = some i ∧ d.certs[i]? = some c ∧ roundOf d x = c.round := by
  obtain ⟨q, q1, q2, hxq, q3⟩ := h.all l[j] (List.getElem_mem hj)
  obtain ⟨c2, hco, hcr, _⟩ := anchor_cert hw q3
  rw [← hxq] at hco
  obtain ⟨hcm, hcd, i, hg, hc2⟩ := certOf_some hco
  exact ⟨l[j], i, c2, List.getElem?_eq_getElem hj, hg, hc2, by rw [roundOf, hco]; rfl⟩
theorem Chain.len {d : Dag} (hw : d.well) {w0 : Wk} {l : List Int} (h : Chain d w0 l) : l.length ≤ d.certs.length := by
  have hn : l.Nodup := h.up.imp fun {a b} hab e => by rw [e] at hab; omega
  have := sub_len (m := d.certs.map (·.digest)) hn fun x hx => by
    obtain ⟨q, _, _, rfl, q3⟩ := h.all x hx
    obtain ⟨c, hc, _⟩ := anchor_cert hw q3
    obtain ⟨h1, h2, _⟩ := certOf_some hc
    exact List.mem_map.2 ⟨c, h1, h2⟩
  simpa using this
theorem goInI.start {d : Dag} (hw : d.well) {done0 : List Int} {w : Wk} {l : List Int} (h : Chain d w l) (hok : w.okay d) {b : Bool} (hb : b = true → w.c.done = done0) : goInI d done0 w l b w 0 := by
  refine ⟨hok, Nat.zero_le _, hb, rfl, ?_, fun x h => absurd h (Nat.lt_irrefl 0)⟩
  intro x hx
  obtain ⟨q, q1, q2, rfl, q3⟩ := h.all x (by simpa using hx)
  rw [anchor_round hw q3]; exact q1
theorem goInI.step {d : Dag} (hw : d.well) {done0 : List Int} {w0 : Wk} {l : List Int} (hch : Chain d w0 l) {b : Bool} {w : Wk} {j : Nat} (h : goInI d done0 w0 l b w j) (hj : j < l.length) {x : Int} {i : Nat} {c : Cert} (hx : l[j]? = some x) (hg : getC d.certs x = some i) (hc : d.certs[i]? = some c) (hr : roundOf d x = c.round) : goInI d done0 w0 l false (w.put d i c) (j + 1) := by
  have hlt : w.c.round < c.round := by rw [← hr]; exact h.next x (by rw [List.mem_iff_getElem?]; exact ⟨0, by rw [List.getElem?_drop]; simpa using hx⟩)
  refine ⟨h.okay.put hw hc hlt, by omega, (fun h => by cases h), ?_, ?_, ?_⟩
  · rw [List.take_add_one, hx, Wk.putL, Option.toList_some, List.foldl_append, List.foldl_cons, List.foldl_nil]
    show _ = Wk.putA d (w0.putL d (l.take j)) x
    rw [← h.is, putA_eq hg hc]
  · intro y hy
    show c.round < _
    rw [← hr]
    have hp : (l.drop j).Pairwise (fun x y => roundOf d x < roundOf d y) := hch.up.sublist (List.drop_sublist ..)
    rw [List.drop_eq_getElem_cons hj] at hp
    have := (List.pairwise_cons.1 hp).1 y hy
    rw [List.getElem?_eq_getElem hj] at hx
    rw [← Option.some.inj hx]
    exact this
  · intro y _ hy
    rw [Nat.add_sub_cancel, hx] at hy
    cases hy
    exact hr.symm
theorem goInI.done {d : Dag} (hw : d.well) {done0 : List Int} {w0 : Wk} {l : List Int} (hch : Chain d w0 l) (hpos : nextC d w0.c.round > 0) (h0 : 0 ≤ w0.c.round) (he : w0.c.round % 2 = 0) {fin : Wk} {b : Bool} {w : Wk} {j : Nat} (h : goInI d done0 w0 l b w j) (hj : ¬ (j : Int) < l.length) (hl : backI d w0.c.round (nextC d w0.c.round) = l)
    (hfin : ∃ n : Nat, topR d.certs - w0.c.round ≤ n ∧ fin = Wk.goF d n w0) : goInv d done0 fin b w ∧ (topR d.certs - w.c.round).toNat < (topR d.certs - w0.c.round).toNat := by
  obtain ⟨s1, s2, s3, s4, s5, s6⟩ := nextC_spec hw h0 he hpos
  have hjl : j = l.length := by have := h.le; omega
  subst hjl
  have his := h.is
  rw [List.take_length] at his
  have hlast : l[l.length - 1]? = some (anchorI d (nextC d w0.c.round)) := by rw [← List.getLast?_eq_getElem?]; exact hch.last
  have hlen0 : 0 < l.length := by
    rcases Nat.eq_zero_or_pos l.length with h | h
    · rw [List.length_eq_zero_iff.1 h] at hlast; cases hlast
    · exact h
  have hround : w.c.round = nextC d w0.c.round := by rw [h.last _ hlen0 hlast, anchor_round hw s5]
  have htop := hw.top
  refine ⟨⟨h.okay, ⟨by omega, by omega, by omega⟩, h.first, ?_⟩, by omega⟩
  obtain ⟨n, h4, h5⟩ := hfin
  cases n with
  | zero => exact absurd h4 (by omega)
  | succ m =>
    rw [Wk.goF, if_pos hpos, hl, ← his] at h5
    exact ⟨m, by omega, h5⟩
theorem goInv.chain {d : Dag} (hw : d.well) {done0 : List Int} {fin : Wk} {b : Bool} {w : Wk} (h : goInv d done0 fin b w) (hpos : nextC d w.c.round > 0) : Chain d w (backI d w.c.round (nextC d w.c.round)) := by
  obtain ⟨s1, s2, s3, s4, s5, s6⟩ := nextC_spec hw h.round.1 h.round.2.2 hpos
  obtain ⟨a1, a2, a3⟩ := backI_all hw s1 s5
  exact ⟨a1, a2, a3⟩
end Go.Proofs.YtdlfmgcmfoehdaaGreat

namespace Go.Proofs.YtdlfmgcmfoehdaaGreat
open Go.Ab Go.RowKit
/-! ## what lies below a certificate -/
theorem mem_addS {x : Int} : ∀ {ps ks : List Int}, x ∈ addS ks ps ↔ x ∈ ks ∨ x ∈ ps
  | [], ks => by simp [addS]
  | p :: ps, ks => by
    show x ∈ addS (insS ks p) ps ↔ _
    rw [mem_addS, mem_insS, List.mem_cons]
    constructor
    · rintro ((h | h) | h)
      · exact .inl h
      · exact .inr (.inl h)
      · exact .inr (.inr h)
    · rintro (h | h | h)
      · exact .inl (.inl h)
      · exact .inl (.inr h)
      · exact .inr h
def desc (l : List Cert) : Prop := l.Pairwise fun x y => y.round ≤ x.round
theorem downL_low {dl low : Int} : ∀ {l : List Cert} {ks : List Int}, (∀ c ∈ l, c.round ≤ low) → downL dl low l ks = []
  | [], _, _ => rfl
  | c :: r, ks, h => by rw [downL, if_pos (h c (by simp))]
theorem downL_skip {dl low : Int} : ∀ {l1 l2 : List Cert} {ks : List Int}, desc (l1 ++ l2) → (∀ c ∈ l1, c.digest ∉ ks) → downL dl low (l1 ++ l2) ks = downL dl low l2 ks
  | [], _, _, _, _ => rfl
  | c :: r, l2, ks, hd, h => by
    have hd' := List.pairwise_cons.1 hd
    rw [List.cons_append, downL]
    by_cases h1 : c.round ≤ low
    · rw [if_pos h1, downL_low]
      intro y hy
      have := hd'.1 y (List.mem_append_right _ hy)
      omega
    · rw [if_neg h1, if_neg (h c (by simp))]
      exact downL_skip hd'.2 fun y hy => h y (by simp [hy])
theorem desc_rev {l : List Cert} (h : sortedC l) : desc l.reverse := by
  unfold desc
  rw [List.pairwise_reverse]
  exact h.imp fun h => by have := before_iff.1 h; omega
theorem dig_at {d : Dag} (hd : (d.certs.map (·.digest)).Nodup) {i : Nat} {c : Cert} (h : d.certs[i]? = some c) : ∀ x ∈ d.certs.drop (i + 1), x.digest ≠ c.digest := by
  intro x hx e
  obtain ⟨hi, rfl⟩ := List.getElem?_eq_some_iff.1 h
  have h1 : d.certs = d.certs.take (i + 1) ++ d.certs.drop (i + 1) := (List.take_append_drop ..).symm
  rw [h1, List.map_append, List.nodup_append] at hd
  exact hd.2.2 d.certs[i].digest (List.mem_map.2 ⟨d.certs[i], List.mem_take_iff_getElem.2 ⟨i, by omega, rfl⟩, rfl⟩) x.digest (List.mem_map.2 ⟨x, hx, rfl⟩) e.symm
theorem downI_eq {d : Dag} (hs : sortedC d.certs) (hd : (d.certs.map (·.digest)).Nodup) {i : Nat} {c : Cert} (h : d.certs[i]? = some c) (low : Int) : downI d i low = downL d.low low d.certs.reverse [c.digest] := by
  unfold downI
  rw [h]
  have e : d.certs.reverse = (d.certs.drop (i + 1)).reverse ++ (d.certs.take (i + 1)).reverse := by
    rw [← List.reverse_append, List.take_append_drop]
  have hdsc := desc_rev hs
  rw [e] at hdsc ⊢
  rw [downL_skip hdsc]
  · rfl
  · intro x hx
    have := dig_at hd h x (List.mem_reverse.1 hx)
    simpa using this
/-- certificates that are no one's below do not matter -/
theorem downL_filter {dl low : Int} (S : Int → Bool) : ∀ {l : List Cert} {ks : List Int}, (∀ k ∈ ks, S k = true) → (∀ c ∈ l, S c.digest = true → c.round > dl + 1 → ∀ x ∈ c.pars, S x = true) → desc l → downL dl low l ks = downL dl low (l.filter fun c => S c.digest) ks
  | [], _, _, _, _ => rfl
  | c :: r, ks, hk, hc, hd => by
    have hd' := List.pairwise_cons.1 hd
    by_cases h1 : c.round ≤ low
    · rw [downL_low, downL_low]
      · intro y hy
        rcases List.mem_cons.1 (List.mem_filter.1 hy).1 with rfl | hy
        · exact h1
        · have := hd'.1 y hy; omega
      · intro y hy
        rcases List.mem_cons.1 hy with rfl | hy
        · exact h1
        · have := hd'.1 y hy; omega
    · have hr : ∀ y ∈ r, S y.digest = true → y.round > dl + 1 → ∀ x ∈ y.pars, S x = true := fun y hy => hc y (by simp [hy])
      cases hS : S c.digest with
      | false =>
        rw [List.filter_cons, hS]
        rw [downL, if_neg h1, if_neg (fun h => by rw [hk _ h] at hS; cases hS)]
        exact downL_filter S hk hr hd'.2
      | true =>
        rw [List.filter_cons, hS, if_pos rfl, downL, downL, if_neg h1, if_neg h1]
        by_cases h2 : c.digest ∈ ks
        · rw [if_pos h2, if_pos h2]
          congr 1
          refine downL_filter S ?_ hr hd'.2
          split
          · rename_i h3
            intro k hk'
            rcases mem_addS.1 hk' with h4 | h4
            · exact hk k h4
            · exact hc c (by simp) hS h3 k h4
          · exact hk
        · rw [if_neg h2, if_neg h2]
          exact downL_filter S hk hr hd'.2
/-- a certificate's ancestors -/
inductive Anc (d : Dag) (x : Cert) : Cert → Prop
  | refl : Anc d x x
  | step {z y : Cert} : Anc d x z → z.round > d.low + 1 → y ∈ d.certs → y.digest ∈ z.pars → y.round < z.round → Anc d x y
theorem Anc.cons {d : Dag} {x p y : Cert} (hx : x.round > d.low + 1) (hp : p ∈ d.certs) (hxp : p.digest ∈ x.pars) (hr : p.round < x.round) (h : Anc d p y) : Anc d x y := by
  induction h with
  | refl => exact .step .refl hx hp hxp hr
  | step _ h1 h2 h3 h4 ih => exact .step ih h1 h2 h3 h4
end Go.Proofs.YtdlfmgcmfoehdaaGreat

namespace Go.Proofs.YtdlfmgcmfoehdaaGreat
open Go.Ab Go.RowKit
/-! ## a part of a DAG -/
structure Sub (A D : Dag) : Prop where
  va : Valid A
  vd : Valid D
  la : A.low = 0
  ld : D.low = 0
  nodes : A.nodes = D.nodes
  sub : A.certs.Sublist D.certs
theorem place_inj {l : List Cert} (hs : sortedC l) {x y : Cert} (hx : x ∈ l) (hy : y ∈ l) (hr : x.round = y.round) (ha : x.author = y.author) : x = y := by
  obtain ⟨i, hi⟩ := List.getElem?_of_mem hx
  obtain ⟨j, hj⟩ := List.getElem?_of_mem hy
  obtain ⟨hi', rfl⟩ := List.getElem?_eq_some_iff.1 hi
  obtain ⟨hj', rfl⟩ := List.getElem?_eq_some_iff.1 hj
  rcases Nat.lt_trichotomy i j with h | h | h
  · have := before_iff.1 (List.pairwise_iff_getElem.1 hs i j hi' hj' h); omega
  · subst h; rfl
  · have := before_iff.1 (List.pairwise_iff_getElem.1 hs j i hj' hi' h); omega
theorem atC_some {l : List Cert} (hs : sortedC l) {r a : Int} {c : Cert} : atC l r a = some c ↔ c ∈ l ∧ c.round = r ∧ c.author = a := by
  constructor
  · intro h
    have h1 := List.find?_some h
    simp only [decide_eq_true_eq] at h1
    exact ⟨List.mem_of_find?_eq_some h, h1⟩
  · rintro ⟨h1, h2, h3⟩
    cases hc : atC l r a with
    | none =>
      unfold atC at hc
      rw [List.find?_eq_none] at hc
      have := hc c h1
      simp [h2, h3] at this
    | some c' =>
      have h4 := List.find?_some hc
      simp only [decide_eq_true_eq] at h4
      rw [place_inj hs h1 (List.mem_of_find?_eq_some hc) (by omega) (by omega)]
theorem sub_filter {l m : List Cert} (h : l.Sublist m) (hn : (m.map (·.digest)).Nodup) : l = m.filter fun c => decide (c.digest ∈ l.map (·.digest)) := by
  induction h with
  | slnil => rfl
  | @cons l m x h ih =>
    have hn' := List.nodup_cons.1 hn
    have hx : x.digest ∉ l.map (·.digest) := fun hx => hn'.1 ((h.map _).subset hx)
    rw [List.filter_cons, if_neg (by simpa using hx)]
    exact ih hn'.2
  | @cons_cons l m x h ih =>
    have hn' := List.nodup_cons.1 hn
    rw [List.filter_cons, if_pos (by simp)]
    congr 1
    refine (ih hn'.2).trans (List.filter_congr fun c hc => ?_)
    have : c.digest ≠ x.digest := fun e => hn'.1 (List.mem_map.2 ⟨c, hc, e⟩)
    simp [this]
theorem Sub.mem {A D : Dag} (h : Sub A D) {c : Cert} (hc : c ∈ A.certs) : c ∈ D.certs := h.sub.subset hc
theorem Sub.cert {A D : Dag} (h : Sub A D) {x : Int} {c : Cert} (hc : certOf A x = some c) : certOf D x = some c := by
  obtain ⟨h1, rfl, _⟩ := certOf_some hc
  exact certOf_mem h.vd.dig (h.mem h1)
/-- what lies below a certificate of the part is the same in the whole -/
theorem Sub.down {A D : Dag} (h : Sub A D) {i j : Nat} {c : Cert} (hi : A.certs[i]? = some c) (hj : D.certs[j]? = some c) (low : Int) : downI A i low = downI D j low := by
  rw [downI_eq h.va.sorted h.va.dig hi, downI_eq h.vd.sorted h.vd.dig hj, h.la, h.ld]
  have hf := sub_filter h.sub h.vd.dig
  have hmem : ∀ {y : Cert}, y ∈ D.certs → y.digest ∈ A.certs.map (·.digest) → y ∈ A.certs := by
    intro y hy hy2
    obtain ⟨z, hz, e⟩ := List.mem_map.1 hy2
    rw [← dig_inj h.vd.dig (h.mem hz) hy e]; exact hz
  have h1 := downL_filter (dl := 0) (low := low) (fun x => decide (x ∈ A.certs.map (·.digest))) (l := D.certs.reverse) (ks := [c.digest]) (fun k hk => by
      simp only [List.mem_singleton] at hk
      rw [hk, decide_eq_true_eq]
      exact List.mem_map.2 ⟨c, List.mem_of_getElem? hi, rfl⟩) (fun y hy hy2 hyr x hx => by
      have hyA := hmem (List.mem_reverse.1 hy) (of_decide_eq_true hy2)
      obtain ⟨c', h3, h4, _⟩ := h.va.here y hyA (by rw [h.la]; exact hyr) x hx
      exact decide_eq_true (List.mem_map.2 ⟨c', h3, h4⟩)) (desc_rev h.vd.sorted)
  rw [h1, List.filter_reverse, ← hf]
theorem Sub.behind {A D : Dag} (h : Sub A D) {i j : Nat} {c : Cert} (hi : A.certs[i]? = some c) (hj : D.certs[j]? = some c) (done : List Int) : behindI A i c.round done = behindI D j c.round done := by
  unfold behindI riseI
  rw [h.down hi hj]
theorem Sub.keepB {A D : Dag} (h : Sub A D) {x : Int} (hx : x ∈ A.certs.map (·.digest)) (r : Int) : keepB A r x = keepB D r x := by
  obtain ⟨c, hc, rfl⟩ := List.mem_map.1 hx
  have h1 := certOf_mem h.va.dig hc
  have h2 := h.cert h1
  unfold certOf at h1 h2
  unfold Go.Proofs.YtdlfmgcmfoehdaaGreat.keepB
  rw [h1, h2]
theorem behind_digs {A : Dag} {i : Nat} {r : Int} {done : List Int} : ∀ x ∈ behindI A i r done, x ∈ A.certs.map (·.digest) := by
  intro x hx
  have h1 := List.mem_reverse.1 (List.mem_filter.1 hx).1
  have h2 := (down_sub A.low (r - 8) (A.certs.take (i + 1)).reverse ((A.certs[i]?).toList.map (·.digest))).subset h1
  rw [List.map_reverse, List.mem_reverse] at h2
  exact ((List.take_sublist ..).map _).subset h2
def inDag (A : Dag) (w : Wk) : Prop := ∀ x ∈ w.c.done, x ∈ A.certs.map (·.digest)
theorem Wk.put_in {A : Dag} {w : Wk} (hw : inDag A w) (i : Nat) (c : Cert) : inDag A (w.put A i c) := by
  intro x hx
  have h1 : x ∈ sortI (keepI A c.round (w.c.done ++ behindI A i c.round w.c.done)) := hx
  rw [sortI, List.mem_mergeSort] at h1
  have h2 := (List.mem_filter.1 h1).1
  rcases List.mem_append.1 h2 with h2 | h2
  · exact hw x h2
  · exact behind_digs x h2
theorem Sub.put {A D : Dag} (h : Sub A D) {w : Wk} (hw : inDag A w) {i j : Nat} {c : Cert} (hi : A.certs[i]? = some c) (hj : D.certs[j]? = some c) : w.put A i c = w.put D j c := by
  unfold Wk.put
  rw [h.behind hi hj]
  have : keepI A c.round (w.c.done ++ behindI D j c.round w.c.done) = keepI D c.round (w.c.done ++ behindI D j c.round w.c.done) := by
    refine List.filter_congr fun x hx => ?_
    refine h.keepB ?_ c.round
    rcases List.mem_append.1 hx with h2 | h2
    · exact hw x h2
    · rw [← h.behind hi hj] at h2; exact behind_digs x h2
  rw [this]
theorem Sub.putA {A D : Dag} (h : Sub A D) {w : Wk} (hw : inDag A w) {a : Int} {c : Cert} (ha : certOf A a = some c) : w.putA A a = w.putA D a ∧ inDag A (w.putA A a) := by
  obtain ⟨_, _, i, h1, h2⟩ := certOf_some ha
  obtain ⟨_, _, j, h3, h4⟩ := certOf_some (h.cert ha)
  rw [putA_eq h1 h2, putA_eq h3 h4]
  exact ⟨h.put hw h2 h4, Wk.put_in hw i c⟩
theorem Sub.putL {A D : Dag} (h : Sub A D) : ∀ {l : List Int} {w : Wk}, inDag A w → (∀ a ∈ l, ∃ c, certOf A a = some c) → w.putL A l = w.putL D l ∧ inDag A (w.putL A l)
  | [], w, hw, _ => ⟨rfl, hw⟩
  | a :: l, w, hw, ha => by
    obtain ⟨c, hc⟩ := ha a (by simp)
    obtain ⟨h1, h2⟩ := h.putA hw hc
    obtain ⟨h3, h4⟩ := h.putL (l := l) h2 fun b hb => ha b (by simp [hb])
    refine ⟨?_, h4⟩
    show (w.putA A a).putL A l = (w.putA D a).putL D l
    rw [← h1]; exact h3
/-- anchors -/
theorem anchor_at {d : Dag} (h : Valid d) {r : Int} : anchorI d r ≠ 0 ↔ ∃ c ∈ d.certs, c.round = r ∧ c.author = leadI d.nodes r := by
  rw [anchor_pos h.well]
  constructor
  · intro h1
    obtain ⟨c, hc⟩ := Option.isSome_iff_exists.1 h1
    exact ⟨c, (atC_some h.sorted).1 hc⟩
  · rintro ⟨c, hc⟩
    rw [(atC_some h.sorted).2 hc]; rfl
theorem anchor_is {d : Dag} (h : Valid d) {c : Cert} (hc : c ∈ d.certs) (ha : c.author = leadI d.nodes c.round) : anchorI d c.round = c.digest := by
  unfold anchorI
  rw [(atC_some h.sorted).2 ⟨hc, rfl, ha⟩]; rfl
theorem Sub.anchor {A D : Dag} (h : Sub A D) {r : Int} (ha : anchorI A r ≠ 0) : anchorI D r = anchorI A r := by
  obtain ⟨c, h1, rfl, h3⟩ := (anchor_at h.va).1 ha
  rw [anchor_is h.va h1 h3, anchor_is h.vd (h.mem h1) (by rw [← h.nodes]; exact h3)]
theorem votes_pos {d : Dag} {r : Int} (h : votes d r ≠ 0) : anchorI d r > 0 := by
  have h1 : 0 < ((ofR d.certs (r + 1)).filter fun c => decide (anchorI d r > 0 ∧ anchorI d r ∈ c.pars)).length := Nat.pos_of_ne_zero h
  obtain ⟨c, hc⟩ := List.exists_mem_of_length_pos h1
  have := (List.mem_filter.1 hc).2
  simp only [decide_eq_true_eq] at this
  exact this.1
theorem Sub.votes {A D : Dag} (h : Sub A D) (r : Int) : votes A r ≤ votes D r := by
  rcases Nat.eq_zero_or_pos (Go.Proofs.YtdlfmgcmfoehdaaGreat.votes A r) with h0 | h0
  · omega
  · have h1 := votes_pos (Nat.ne_of_gt h0)
    have h2 := h.anchor (r := r) (by omega)
    unfold Go.Proofs.YtdlfmgcmfoehdaaGreat.votes
    rw [h2]
    exact ((h.sub.filter _).filter _).length_le
theorem settled_votes {d : Dag} (h : Valid d) {r : Int} (hs : settled d r = true) : (votes d r : Int) > (d.nodes - 1) / 3 ∧ votes d r ≠ 0 := by
  have hn := of_decide_eq_true h.nodes
  have := of_decide_eq_true hs
  exact ⟨this, by omega⟩
theorem Sub.settled {A D : Dag} (h : Sub A D) {r : Int} (hs : settled A r = true) : settled D r = true := by
  have h1 := (settled_votes h.va hs).1
  have h2 := h.votes r
  have h3 := h.nodes
  exact decide_eq_true (by rw [← h3]; omega)
end Go.Proofs.YtdlfmgcmfoehdaaGreat

namespace Go.Proofs.YtdlfmgcmfoehdaaGreat
open Go.Ab Go.RowKit
theorem anchor_idx {d : Dag} (h : Valid d) {r : Int} (ha : anchorI d r ≠ 0) : ∃ k a, getC d.certs (anchorI d r) = some k ∧ d.certs[k]? = some a ∧ a.digest = anchorI d r ∧ a.round = r ∧ a.author = leadI d.nodes r := by
  obtain ⟨c, h1, h2, h3⟩ := anchor_cert h.well ha
  obtain ⟨_, h4, k, h5, h6⟩ := certOf_some h1
  exact ⟨k, c, h5, h6, h4, h2, h3⟩
theorem Sub.backR {A D : Dag} (h : Sub A D) (after : Int) : ∀ (r : Int) (i j : Nat) (x : Cert), A.certs[i]? = some x → D.certs[j]? = some x → backR A after r i = backR D after r j := by
  intro r i
  induction r, i using backR.induct (d := A) (after := after) with
  | case1 r i h1 =>
    intro j x hi hj
    rw [back_end h1, back_end (by rw [h.ld, ← h.la]; exact h1)]
  | case2 r i h1 h2 ih =>
    intro j x hi hj
    have h1' : ¬ (r - 2 ≤ after ∨ r - 2 ≤ D.low) := by rw [h.ld, ← h.la]; exact h1
    rw [back_no h1 h2, ih j x hi hj]
    by_cases h3 : anchorI D (r - 2) = 0
    · rw [back_no h1' h3]
    · obtain ⟨k, a, k1, k2, k3, k4, k5⟩ := anchor_idx h.vd h3
      rw [back_yes h1' h3 k1, if_neg]
      intro hre
      unfold reachJ at hre
      rw [k2] at hre
      have hre := of_decide_eq_true hre
      rw [← h.down hi hj] at hre
      have h4 := (down_sub A.low (a.round - 1) (A.certs.take (i + 1)).reverse ((A.certs[i]?).toList.map (·.digest))).subset hre
      rw [List.map_reverse, List.mem_reverse] at h4
      have h5 := ((List.take_sublist ..).map _).subset h4
      obtain ⟨z, hz, hze⟩ := List.mem_map.1 h5
      have hza := dig_inj h.vd.dig (h.mem hz) (List.mem_of_getElem? k2) hze
      subst hza
      exact (anchor_at h.va).2 ⟨z, hz, k4, by rw [h.nodes]; exact k5⟩ h2
  | case3 r i h1 h2 h3 =>
    obtain ⟨j, c, h4, _⟩ := anchor_get h2
    rw [h3] at h4; cases h4
  | case4 r i h1 h2 k h3 h4 ih =>
    intro j x hi hj
    have h1' : ¬ (r - 2 ≤ after ∨ r - 2 ≤ D.low) := by rw [h.ld, ← h.la]; exact h1
    obtain ⟨k', a, k1, k2, k3, k4, k5⟩ := anchor_idx h.va h2
    rw [h3] at k1; cases k1
    have h5 := h.anchor h2
    obtain ⟨m, b, m1, m2, m3, m4, m5⟩ := anchor_idx h.vd (r := r - 2) (by rw [h5]; exact h2)
    have hab := dig_inj h.vd.dig (h.mem (List.mem_of_getElem? k2)) (List.mem_of_getElem? m2) (by rw [k3, m3, h5])
    subst hab
    rw [back_yes h1 h2 h3, if_pos h4, back_yes h1' (by rw [h5]; exact h2) m1, if_pos, h5, ih m a k2 m2]
    unfold reachJ at h4 ⊢
    rw [k2] at h4; rw [m2]
    have h4 := of_decide_eq_true h4
    rw [h.down hi hj] at h4
    exact decide_eq_true h4
  | case5 r i h1 h2 k h3 h4 ih =>
    intro j x hi hj
    have h1' : ¬ (r - 2 ≤ after ∨ r - 2 ≤ D.low) := by rw [h.ld, ← h.la]; exact h1
    obtain ⟨k', a, k1, k2, k3, k4, k5⟩ := anchor_idx h.va h2
    rw [h3] at k1; cases k1
    have h5 := h.anchor h2
    obtain ⟨m, b, m1, m2, m3, m4, m5⟩ := anchor_idx h.vd (r := r - 2) (by rw [h5]; exact h2)
    have hab := dig_inj h.vd.dig (h.mem (List.mem_of_getElem? k2)) (List.mem_of_getElem? m2) (by rw [k3, m3, h5])
    subst hab
    rw [back_yes h1 h2 h3, if_neg h4, back_yes h1' (by rw [h5]; exact h2) m1, if_neg, ih j x hi hj]
    intro h6
    refine h4 ?_
    unfold reachJ at h6 ⊢
    rw [m2] at h6; rw [k2]
    have h6 := of_decide_eq_true h6
    rw [← h.down hi hj] at h6
    exact decide_eq_true h6
theorem Sub.backI {A D : Dag} (h : Sub A D) (after : Int) {r : Int} (ha : anchorI A r ≠ 0) : backI A after r = backI D after r := by
  have h5 := h.anchor ha
  obtain ⟨k, a, k1, k2, k3, k4, k5⟩ := anchor_idx h.va ha
  obtain ⟨m, b, m1, m2, m3, m4, m5⟩ := anchor_idx h.vd (r := r) (by rw [h5]; exact ha)
  have hab := dig_inj h.vd.dig (h.mem (List.mem_of_getElem? k2)) (List.mem_of_getElem? m2) (by rw [k3, m3, h5])
  subst hab
  unfold Go.Proofs.YtdlfmgcmfoehdaaGreat.backI
  rw [k1, m1, h5]
  rw [Option.getD_some, Option.getD_some, h.backR after r k m a k2 m2]
def run (d : Dag) (w : Wk) : Wk := Wk.goF d (topR d.certs).toNat w
end Go.Proofs.YtdlfmgcmfoehdaaGreat

namespace Go.Proofs.YtdlfmgcmfoehdaaGreat
open Go.Ab Go.RowKit Go.MapKept
attribute [local irreducible] ACalls AW ADraw Into fltB fnear
set_option maxRecDepth 100000
theorem rise_len2 {l : List Int} (h : riseB l 1 65536) : l.length ≤ 65536 := by
  have := sub_len (m := (List.range 65536).map fun n : Nat => (n : Int) + 1) (rising_nodup h.1) fun x hx => by
    have := h.2 x hx
    exact List.mem_map.2 ⟨(x - 1).toNat, by simp; omega, by omega⟩
  simpa using this
/-- how far a cursor goes, and what is put out -/
def finW (d : Dag) (c : Cursor) : Wk := Wk.goF d (topR d.certs).toNat ⟨c, []⟩
def old (d : Dag) (c : Cursor) : Prop := d.low > 0 ∧ d.low > c.round - 8
end Go.Proofs.YtdlfmgcmfoehdaaGreat

namespace Go.Proofs.YtdlfmgcmfoehdaaGreat
open Go.Ab Go.RowKit
/-- what was put out ahead stands ahead -/
def Wk.pre (o : List Int) (w : Wk) : Wk := ⟨w.c, o ++ w.outs⟩
theorem Sub.refl {d : Dag} (h : Valid d) (h0 : d.low = 0) : Sub d d := ⟨h, h, h0, h0, rfl, List.Sublist.refl _⟩
end Go.Proofs.YtdlfmgcmfoehdaaGreat

namespace Go.Proofs.YtdlfmgcmfoehdaaGreat
open Go.Ab Go.RowKit Go.MapKept
attribute [local irreducible] ACalls AW ADraw Into fltB fnear
set_option maxRecDepth 100000
def bools (l : List Bool) : List (List DV) := l.map fun b => [.bool b]
end Go.Proofs.YtdlfmgcmfoehdaaGreat

namespace Go.Proofs.YtdlfmgcmfoehdaaGreat
open Go.Ab Go.RowKit Go.MapKept
attribute [local irreducible] ACalls AW ADraw Into fltB fnear
set_option maxRecDepth 100000
/-! ## whether any DAG may be -/
noncomputable def isV (d : Dag) : Bool := @decide (Valid d) (Classical.propDecidable _)
theorem isV_yes {d : Dag} (h : Valid d) : isV d = true := by unfold isV; exact @decide_eq_true _ (Classical.propDecidable _) h
theorem isV_no {d : Dag} (h : ¬ Valid d) : isV d = false := by unfold isV; exact @decide_eq_false _ (Classical.propDecidable _) h
structure mayD (d : Dag) (j : Nat) : Prop where
  ok : ∀ c ∈ d.certs.take j, okCert d.nodes c ∧ d.low < c.round
  sorted : sortedC (d.certs.take j)
  dig : ((d.certs.take j).map (·.digest)).Nodup
  here : ∀ c ∈ d.certs.take j, c.round > d.low + 1 → ∀ x ∈ c.pars, ∃ c' ∈ d.certs.take j, c'.digest = x ∧ c'.round = c.round - 1
theorem mayD.next {d : Dag} {j : Nat} (h : mayD d j) {c : Cert} (hc : d.certs[j]? = some c) (h1 : okCert d.nodes c) (h2 : d.low < c.round) (h3 : c.round > d.low + 1 → ∀ x ∈ c.pars, ∃ c' ∈ d.certs.take j, c'.digest = x ∧ c'.round = c.round - 1) (h4 : ∀ c0, 0 < j → d.certs[j - 1]? = some c0 → c0.before c.round c.author = true) (h5 : ∀ x ∈ d.certs.take j, x.digest ≠ c.digest) : mayD d (j + 1) := by
  have e := take_snoc hc
  refine ⟨?_, ?_, ?_, ?_⟩
  · rw [e]
    intro y hy
    rcases List.mem_append.1 hy with hy | hy
    · exact h.ok y hy
    · simp at hy; rw [hy]; exact ⟨h1, h2⟩
  · rw [e]
    refine List.pairwise_append.2 ⟨h.sorted, by simp, fun x hx y hy => ?_⟩
    simp at hy
    rw [hy]
    obtain ⟨i, hi, rfl⟩ := List.mem_take_iff_getElem.1 hx
    have hil : i < j := by omega
    have hjl := (List.getElem?_eq_some_iff.1 hc).1
    have hp : d.certs[j - 1]? = some d.certs[j - 1] := List.getElem?_eq_getElem (by omega)
    have hb := h4 _ (by omega) hp
    rcases Nat.lt_or_ge i (j - 1) with hlt | hge
    · have h6 := List.pairwise_iff_getElem.1 h.sorted i (j - 1) (by rw [List.length_take]; omega) (by rw [List.length_take]; omega) hlt
      rw [List.getElem_take, List.getElem_take] at h6
      have h7 := before_iff.1 h6
      have h8 := before_iff.1 hb
      exact before_iff.2 (by omega)
    · have : i = j - 1 := by omega
      subst this
      exact hb
  · rw [e, List.map_append, List.nodup_append]
    refine ⟨h.dig, by simp, fun a ha b hb => ?_⟩
    obtain ⟨x, hx, rfl⟩ := List.mem_map.1 ha
    simp at hb
    rw [hb]
    exact h5 x hx
  · rw [e]
    intro y hy hr x hx
    rcases List.mem_append.1 hy with hy | hy
    · obtain ⟨c', k1, k2⟩ := h.here y hy hr x hx
      exact ⟨c', List.mem_append_left _ k1, k2⟩
    · simp at hy
      rw [hy] at hr hx ⊢
      obtain ⟨c', k1, k2⟩ := h3 hr x hx
      exact ⟨c', List.mem_append_left _ k1, k2⟩
theorem mayD.valid {d : Dag} (h : mayD d d.certs.length) (h1 : isN d.nodes = true) (h2 : 0 ≤ d.low ∧ d.low ≤ 1099511627776) (h3 : d.certs.length ≤ 65536) : Valid d := by
  obtain ⟨a, b, c, e⟩ := h
  rw [List.take_length] at a b c e
  exact ⟨h1, h2, h3, fun c hc => (a c hc).1, fun c hc => (a c hc).2, b, c, fun c hc hr x hx => e c hc hr x hx⟩
theorem look_mem {k v : Int} : ∀ {ps : List (Int × Int)}, lookP k ps = some v → (k, v) ∈ ps
  | [], h => by cases h
  | p :: r, h => by
    rw [lookP] at h
    split at h
    · rename_i e
      cases h
      rw [← e]; simp
    · exact List.mem_cons_of_mem _ (look_mem h)
theorem seen_some {l : List Cert} {x v : Int} (h : lookP x (seenP l) = some v) : ∃ c ∈ l, c.digest = x ∧ c.round = v := by
  obtain ⟨c, hc, e⟩ := List.mem_map.1 (look_mem h)
  exact ⟨c, hc, congrArg Prod.fst e, congrArg Prod.snd e⟩
theorem look_no {k : Int} : ∀ {ps : List (Int × Int)}, lookP k ps = none → ∀ p ∈ ps, p.1 ≠ k
  | p :: r, h, q, hq => by
    rw [lookP] at h
    split at h
    · cases h
    · rename_i e
      rcases List.mem_cons.1 hq with rfl | hq
      · exact e
      · exact look_no h q hq
theorem seen_none {l : List Cert} {x : Int} (h : lookP x (seenP l) = none) : ∀ c ∈ l, c.digest ≠ x := fun c hc => look_no h (c.digest, c.round) (List.mem_map.2 ⟨c, hc, rfl⟩)
theorem mapP_look (k : Int) (ps : List (Int × Int)) : ∃ r, mfind (.one (.int .i64 k)) (mapP ps) 0 = some r ∧ ((∃ v, lookP k ps = some v ∧ ∃ i, r = some (i, .v (.one (.int .i64 v)))) ∨ (lookP k ps = none ∧ r = none)) := by
  obtain ⟨r, h1, ⟨v, i, h2, h3⟩ | h2⟩ := mapP_find k ps 0
  · exact ⟨r, h1, .inl ⟨v, h2, i, h3⟩⟩
  · exact ⟨r, h1, .inr h2⟩
def outM (av : AV) (L : List AB) (d : Dag) : Prop := (∃ b, av = .d (.bool b) ∧ (b = true → Valid d)) ∧ L = []
theorem outM_no (d : Dag) : outM (.d (.bool false)) [] d := ⟨⟨false, rfl, by intro h; cases h⟩, rfl⟩
set_option maxHeartbeats 2000000 in
theorem dagMay_any (d : Dag) (h : d.ok) : ACalls Tryz.prog 75 [d.av] [] (fun av L => outM av L d) := by
  have hcl := certsD_length d.certs
  have hfd := h.certs.1
  refine acalls_go ttOk zOk foOk Tryz.func75 rfl Tryz.ntmps75 rfl false rfl ?_
  conv => whnf
  refine (is_ok d.nodes).mono ?_
  rintro _ _ ⟨rfl, rfl⟩
  cases hn : isN d.nodes with
  | false =>
    conv => whnf
    exact outM_no d
  | true =>
    have hnn := of_decide_eq_true hn
    conv => whnf
    repeat' (first | ((with_reducible apply rd_intro); (focus (intro K hK; (conv => whnf); first | exact hK | (intro z hz; rw [wrapI (by omega)] at hz; subst hz; exact hK))); (conv => whnf)) | ((with_reducible apply gd_and); (focus ((conv => whnf) <;> first | rfl | (intro K hK; (conv => whnf); first | exact hK | (intro z hz; rw [wrapI (by omega)] at hz; subst hz; exact hK)))); (conv => whnf)) | ((with_reducible apply z_wrap); (focus omega); (conv => whnf)) | ((with_reducible first | apply mt_dec | apply mt_eq | apply mt_ne | apply mt_not | apply mt_any) <;> (intro _; conv => whnf)))
    · exact outM_no d
    · exact outM_no d
    · exact outM_no d
    · rename_i h1 h2 h3
      refine loop_go ttOk zOk foOk (σ := Nat) (mayS d) (fun j => j ≤ d.certs.length ∧ mayD d j) (fun j => d.certs.length - j) [1, 3, 30, 31, 32] ?_ ?_
      · conv => whnf
        exact ⟨0, by rw [hcl]; rfl, rfl, Nat.zero_le _, by simp, by simp [sortedC], by simp, by simp⟩
      · rintro j ⟨hj, hinv⟩
        conv => whnf
        repeat' (first | ((with_reducible apply rd_intro); (focus (intro K hK; (conv => whnf); first | exact hK | (intro z hz; rw [wrapI (by omega)] at hz; subst hz; exact hK))); (conv => whnf)) | ((with_reducible apply gd_and); (focus ((conv => whnf) <;> first | rfl | (intro K hK; (conv => whnf); first | exact hK | (intro z hz; rw [wrapI (by omega)] at hz; subst hz; exact hK)))); (conv => whnf)) | ((with_reducible apply z_wrap); (focus omega); (conv => whnf)) | ((with_reducible first | apply mt_dec | apply mt_eq | apply mt_ne | apply mt_not | apply mt_any) <;> (intro _; conv => whnf)))
        · rename_i hjl
          have hjn : j < d.certs.length := Int.ofNat_lt.1 hjl
          refine Exists.elim (⟨_, List.getElem?_eq_getElem hjn⟩ : ∃ c, d.certs[j]? = some c) fun c hc => ?_
          have hcm := List.mem_of_getElem? hc
          have hfl := ok_fewL (h.certs.2 c hcm)
          have hpl := nums_length c.pars
          have hmc := mayCert_ok c hfl d.nodes
          refine ⟨by omega, c.cs, certsD_at hc, ?_⟩
          conv => whnf
          repeat' (first | ((with_reducible apply rd_intro); (focus (intro K hK; (conv => whnf); first | exact hK | (intro z hz; rw [wrapI (by omega)] at hz; subst hz; exact hK))); (conv => whnf)) | ((with_reducible apply gd_and); (focus ((conv => whnf) <;> first | rfl | (intro K hK; (conv => whnf); first | exact hK | (intro z hz; rw [wrapI (by omega)] at hz; subst hz; exact hK)))); (conv => whnf)) | ((with_reducible apply z_wrap); (focus omega); (conv => whnf)) | ((with_reducible first | apply mt_dec | apply mt_eq | apply mt_ne | apply mt_not | apply mt_any) <;> (intro _; conv => whnf)))
          ((with_reducible refine draw_pl ttOk zOk foOk mixedOk pl75x7 ?_ ?_); (focus kernel_rfl); (conv => whnf))
          repeat' (first | ((with_reducible apply rd_intro); (focus (intro K hK; (conv => whnf); first | exact hK | (intro z hz; rw [wrapI (by omega)] at hz; subst hz; exact hK))); (conv => whnf)) | ((with_reducible apply gd_and); (focus ((conv => whnf) <;> first | rfl | (intro K hK; (conv => whnf); first | exact hK | (intro z hz; rw [wrapI (by omega)] at hz; subst hz; exact hK)))); (conv => whnf)) | ((with_reducible apply z_wrap); (focus omega); (conv => whnf)) | ((with_reducible first | apply mt_dec | apply mt_eq | apply mt_ne | apply mt_not | apply mt_any) <;> (intro _; conv => whnf)))
          refine hmc.mono ?_
          rintro _ _ ⟨rfl, rfl⟩
          by_cases hok : okCert d.nodes c
          · rw [@decide_eq_true _ (Classical.propDecidable _) hok]
            have hrb := hok.head.round
            have hau := hok.head.author
            conv => whnf
            repeat' (first | ((with_reducible apply rd_intro); (focus (intro K hK; (conv => whnf); first | exact hK | (intro z hz; rw [wrapI (by omega)] at hz; subst hz; exact hK))); (conv => whnf)) | ((with_reducible apply gd_and); (focus ((conv => whnf) <;> first | rfl | (intro K hK; (conv => whnf); first | exact hK | (intro z hz; rw [wrapI (by omega)] at hz; subst hz; exact hK)))); (conv => whnf)) | ((with_reducible apply z_wrap); (focus omega); (conv => whnf)) | ((with_reducible first | apply mt_dec | apply mt_eq | apply mt_ne | apply mt_not | apply mt_any) <;> (intro _; conv => whnf)))
            · exact outM_no d
            · rename_i hab
              replace hab : d.low < c.round := by omega
              refine Exists.elim (mapP_look c.digest (seenP (d.certs.take j))) fun q hq => ?_
              have hq1 := hq.1
              refine hq.2.elim (fun hv => Exists.elim hv fun v hv => Exists.elim hv.2 fun i hqe => ?_) fun hn2 => ?_
              · rw [hqe] at hq1
                have hvp : v > 0 := Exists.elim (seen_some hv.1) fun c' k => by
                  have := (hinv.ok c' k.1).1.head.round
                  have := k.2.2
                  omega
                ((with_reducible apply rd_intro); (focus (intro K hK; (conv => whnf); exact ⟨_, hq1, hK⟩)); (conv => whnf))
                repeat' (first | ((with_reducible apply rd_intro); (focus (intro K hK; (conv => whnf); first | exact hK | (intro z hz; rw [wrapI (by omega)] at hz; subst hz; exact hK))); (conv => whnf)) | ((with_reducible apply gd_and); (focus ((conv => whnf) <;> first | rfl | (intro K hK; (conv => whnf); first | exact hK | (intro z hz; rw [wrapI (by omega)] at hz; subst hz; exact hK)))); (conv => whnf)) | ((with_reducible apply z_wrap); (focus omega); (conv => whnf)) | ((with_reducible first | apply mt_dec | apply mt_eq | apply mt_ne | apply mt_not | apply mt_any) <;> (intro _; conv => whnf)))
                · exact outM_no d
                · exfalso; omega
                · exfalso; omega
              · have hfr := hn2.1
                rw [hn2.2] at hq1
                ((with_reducible apply rd_intro); (focus (intro K hK; (conv => whnf); exact ⟨_, hq1, hK⟩)); (conv => whnf))
                repeat' (first | ((with_reducible apply rd_intro); (focus (intro K hK; (conv => whnf); first | exact hK | (intro z hz; rw [wrapI (by omega)] at hz; subst hz; exact hK))); (conv => whnf)) | ((with_reducible apply gd_and); (focus ((conv => whnf) <;> first | rfl | (intro K hK; (conv => whnf); first | exact hK | (intro z hz; rw [wrapI (by omega)] at hz; subst hz; exact hK)))); (conv => whnf)) | ((with_reducible apply z_wrap); (focus omega); (conv => whnf)) | ((with_reducible first | apply mt_dec | apply mt_eq | apply mt_ne | apply mt_not | apply mt_any) <;> (intro _; conv => whnf)))
                · rename_i hj0
                  refine Exists.elim (⟨_, List.getElem?_eq_getElem (show j - 1 < d.certs.length by omega)⟩ : ∃ c, d.certs[j - 1]? = some c) fun c0 hc0 => ?_
                  have hc0m : c0 ∈ d.certs.take j := List.mem_take_iff_getElem.2 ⟨j - 1, by omega, (List.getElem?_eq_some_iff.1 hc0).2⟩
                  have hok0 := (hinv.ok c0 hc0m).1
                  have hrb0 := hok0.head.round
                  have hau0 := hok0.head.author
                  have hft : isF c.round ∧ isF c.author := ⟨⟨by omega, by omega⟩, ⟨by omega, by omega⟩⟩
                  have hft0 : isF c0.round ∧ isF c0.author := ⟨⟨by omega, by omega⟩, ⟨by omega, by omega⟩⟩
                  have hpl1 := placeLess_ok hft0.1 hft0.2 hft.1 hft.2
                  ((with_reducible apply rd_intro); (focus (intro K hK; (conv => whnf); exact ⟨by omega, c0.cs, (by rw [show ((j : Int) - 1).toNat = j - 1 by omega]; exact certsD_at hc0), hK⟩)); (conv => whnf))
                  repeat' (first | ((with_reducible apply rd_intro); (focus (intro K hK; (conv => whnf); first | exact hK | (intro z hz; rw [wrapI (by omega)] at hz; subst hz; exact hK))); (conv => whnf)) | ((with_reducible apply gd_and); (focus ((conv => whnf) <;> first | rfl | (intro K hK; (conv => whnf); first | exact hK | (intro z hz; rw [wrapI (by omega)] at hz; subst hz; exact hK)))); (conv => whnf)) | ((with_reducible apply z_wrap); (focus omega); (conv => whnf)) | ((with_reducible first | apply mt_dec | apply mt_eq | apply mt_ne | apply mt_not | apply mt_any) <;> (intro _; conv => whnf)))
                  refine (dagPlace_ok c0).mono ?_
                  rintro _ _ ⟨rfl, rfl⟩
                  conv => whnf
                  repeat' (first | ((with_reducible apply rd_intro); (focus (intro K hK; (conv => whnf); first | exact hK | (intro z hz; rw [wrapI (by omega)] at hz; subst hz; exact hK))); (conv => whnf)) | ((with_reducible apply gd_and); (focus ((conv => whnf) <;> first | rfl | (intro K hK; (conv => whnf); first | exact hK | (intro z hz; rw [wrapI (by omega)] at hz; subst hz; exact hK)))); (conv => whnf)) | ((with_reducible apply z_wrap); (focus omega); (conv => whnf)) | ((with_reducible first | apply mt_dec | apply mt_eq | apply mt_ne | apply mt_not | apply mt_any) <;> (intro _; conv => whnf)))
                  refine (dagPlace_ok c).mono ?_
                  rintro _ _ ⟨rfl, rfl⟩
                  conv => whnf
                  repeat' (first | ((with_reducible apply rd_intro); (focus (intro K hK; (conv => whnf); first | exact hK | (intro z hz; rw [wrapI (by omega)] at hz; subst hz; exact hK))); (conv => whnf)) | ((with_reducible apply gd_and); (focus ((conv => whnf) <;> first | rfl | (intro K hK; (conv => whnf); first | exact hK | (intro z hz; rw [wrapI (by omega)] at hz; subst hz; exact hK)))); (conv => whnf)) | ((with_reducible apply z_wrap); (focus omega); (conv => whnf)) | ((with_reducible first | apply mt_dec | apply mt_eq | apply mt_ne | apply mt_not | apply mt_any) <;> (intro _; conv => whnf)))
                  refine hpl1.mono ?_
                  rintro _ _ ⟨rfl, rfl⟩
                  by_cases hb : c0.before c.round c.author = true
                  · rw [show decide (c0.round < c.round ∨ c0.round = c.round ∧ c0.author < c.author) = true from hb]
                    have h4 : ∀ c0, 0 < j → d.certs[j - 1]? = some c0 → c0.before c.round c.author = true := by
                      intro c1 _ hc1
                      rw [hc0] at hc1; cases hc1; exact hb
                    conv => whnf
                    repeat' (first | ((with_reducible apply rd_intro); (focus (intro K hK; (conv => whnf); first | exact hK | (intro z hz; rw [wrapI (by omega)] at hz; subst hz; exact hK))); (conv => whnf)) | ((with_reducible apply gd_and); (focus ((conv => whnf) <;> first | rfl | (intro K hK; (conv => whnf); first | exact hK | (intro z hz; rw [wrapI (by omega)] at hz; subst hz; exact hK)))); (conv => whnf)) | ((with_reducible apply z_wrap); (focus omega); (conv => whnf)) | ((with_reducible first | apply mt_dec | apply mt_eq | apply mt_ne | apply mt_not | apply mt_any) <;> (intro _; conv => whnf)))
                    refine loop_go ttOk zOk foOk (σ := Nat) (mayI d j c) (fun m => m ≤ c.pars.length ∧ (c.round > d.low + 1 → ∀ x ∈ c.pars.take m, ∃ c' ∈ d.certs.take j, c'.digest = x ∧ c'.round = c.round - 1)) (fun m => c.pars.length - m) [1, 3, 5, 30, 31, 32, 76, 77, 78] ?_ ?_
                    · conv => whnf
                      exact ⟨0, by rw [hpl]; rfl, rfl, Nat.zero_le _, by simp⟩
                    · rintro m ⟨hm, hall⟩
                      conv => whnf
                      repeat' (first | ((with_reducible apply rd_intro); (focus (intro K hK; (conv => whnf); first | exact hK | (intro z hz; rw [wrapI (by omega)] at hz; subst hz; exact hK))); (conv => whnf)) | ((with_reducible apply gd_and); (focus ((conv => whnf) <;> first | rfl | (intro K hK; (conv => whnf); first | exact hK | (intro z hz; rw [wrapI (by omega)] at hz; subst hz; exact hK)))); (conv => whnf)) | ((with_reducible apply z_wrap); (focus omega); (conv => whnf)) | ((with_reducible first | apply mt_dec | apply mt_eq | apply mt_ne | apply mt_not | apply mt_any) <;> (intro _; conv => whnf)))
                      · rename_i hml
                        have hmn : m < c.pars.length := Int.ofNat_lt.1 hml
                        have hpf := hfl.pars
                        unfold few at hpf
                        refine Exists.elim (⟨_, List.getElem?_eq_getElem hmn⟩ : ∃ x, c.pars[m]? = some x) fun x hx => ?_
                        refine ⟨by omega, [.int .i64 x], nums_at hx, ?_⟩
                        conv => whnf
                        repeat' (first | ((with_reducible apply rd_intro); (focus (intro K hK; (conv => whnf); first | exact hK | (intro z hz; rw [wrapI (by omega)] at hz; subst hz; exact hK))); (conv => whnf)) | ((with_reducible apply gd_and); (focus ((conv => whnf) <;> first | rfl | (intro K hK; (conv => whnf); first | exact hK | (intro z hz; rw [wrapI (by omega)] at hz; subst hz; exact hK)))); (conv => whnf)) | ((with_reducible apply z_wrap); (focus omega); (conv => whnf)) | ((with_reducible first | apply mt_dec | apply mt_eq | apply mt_ne | apply mt_not | apply mt_any) <;> (intro _; conv => whnf)))
                        · rename_i hrl
                          refine Exists.elim (mapP_look x (seenP (d.certs.take j))) fun q hq => ?_
                          have hq1 := hq.1
                          refine hq.2.elim (fun hv => Exists.elim hv fun v hv => Exists.elim hv.2 fun i hqe => ?_) fun hn => ?_
                          · rw [hqe] at hq1
                            refine ⟨_, hq1, ?_⟩
                            conv => whnf
                            repeat' (first | ((with_reducible apply rd_intro); (focus (intro K hK; (conv => whnf); first | exact hK | (intro z hz; rw [wrapI (by omega)] at hz; subst hz; exact hK))); (conv => whnf)) | ((with_reducible apply gd_and); (focus ((conv => whnf) <;> first | rfl | (intro K hK; (conv => whnf); first | exact hK | (intro z hz; rw [wrapI (by omega)] at hz; subst hz; exact hK)))); (conv => whnf)) | ((with_reducible apply z_wrap); (focus omega); (conv => whnf)) | ((with_reducible first | apply mt_dec | apply mt_eq | apply mt_ne | apply mt_not | apply mt_any) <;> (intro _; conv => whnf)))
                            · exact outM_no d
                            · rename_i hve
                              refine ⟨m + 1, rfl, rfl, ⟨by omega, fun hr y hy => ?_⟩, by omega⟩
                              rw [take_snoc hx] at hy
                              rcases List.mem_append.1 hy with hy | hy
                              · exact hall hr y hy
                              · simp at hy
                                obtain ⟨c', k1, k2, k3⟩ := seen_some hv.1
                                exact ⟨c', k1, by rw [k2, hy], by rw [k3]; exact hve⟩
                          · rw [hn.2] at hq1
                            refine ⟨_, hq1, ?_⟩
                            conv => whnf
                            repeat' (first | ((with_reducible apply rd_intro); (focus (intro K hK; (conv => whnf); first | exact hK | (intro z hz; rw [wrapI (by omega)] at hz; subst hz; exact hK))); (conv => whnf)) | ((with_reducible apply gd_and); (focus ((conv => whnf) <;> first | rfl | (intro K hK; (conv => whnf); first | exact hK | (intro z hz; rw [wrapI (by omega)] at hz; subst hz; exact hK)))); (conv => whnf)) | ((with_reducible apply z_wrap); (focus omega); (conv => whnf)) | ((with_reducible first | apply mt_dec | apply mt_eq | apply mt_ne | apply mt_not | apply mt_any) <;> (intro _; conv => whnf)))
                            · exact outM_no d
                            · rename_i hve
                              exfalso
                              omega
                        · rename_i hrl
                          exact ⟨m + 1, rfl, rfl, ⟨by omega, fun hr => absurd hr hrl⟩, by omega⟩
                      · rename_i hml
                        rw [List.take_of_length_le (by omega)] at hall
                        refine Exists.elim (mapP_new (v := c.round) hfr) fun q hq => ?_
                        refine ⟨q, hq.1, ?_⟩
                        have hnew : mputAt (mapP (seenP (d.certs.take j))) q (.one (.int .i64 c.digest)) (.v (.one (.int .i64 c.round))) = mapP (seenP (d.certs.take (j + 1))) := by
                          rw [hq.2, List.take_add_one, hc]; simp [seenP]
                        rw [hnew]
                        conv => whnf
                        repeat' (first | ((with_reducible apply rd_intro); (focus (intro K hK; (conv => whnf); first | exact hK | (intro z hz; rw [wrapI (by omega)] at hz; subst hz; exact hK))); (conv => whnf)) | ((with_reducible apply gd_and); (focus ((conv => whnf) <;> first | rfl | (intro K hK; (conv => whnf); first | exact hK | (intro z hz; rw [wrapI (by omega)] at hz; subst hz; exact hK)))); (conv => whnf)) | ((with_reducible apply z_wrap); (focus omega); (conv => whnf)) | ((with_reducible first | apply mt_dec | apply mt_eq | apply mt_ne | apply mt_not | apply mt_any) <;> (intro _; conv => whnf)))
                        exact ⟨j + 1, rfl, rfl, ⟨by omega, hinv.next hc hok hab hall h4 (seen_none hfr)⟩, by omega⟩
                  · rw [show decide (c0.round < c.round ∨ c0.round = c.round ∧ c0.author < c.author) = false from by simpa [Cert.before] using hb]
                    conv => whnf
                    repeat' (first | ((with_reducible apply rd_intro); (focus (intro K hK; (conv => whnf); first | exact hK | (intro z hz; rw [wrapI (by omega)] at hz; subst hz; exact hK))); (conv => whnf)) | ((with_reducible apply gd_and); (focus ((conv => whnf) <;> first | rfl | (intro K hK; (conv => whnf); first | exact hK | (intro z hz; rw [wrapI (by omega)] at hz; subst hz; exact hK)))); (conv => whnf)) | ((with_reducible apply z_wrap); (focus omega); (conv => whnf)) | ((with_reducible first | apply mt_dec | apply mt_eq | apply mt_ne | apply mt_not | apply mt_any) <;> (intro _; conv => whnf)))
                    exact outM_no d
                · rename_i hj0
                  have h4 : ∀ c0, 0 < j → d.certs[j - 1]? = some c0 → c0.before c.round c.author = true := by
                    intro c1 h _
                    omega
                  refine loop_go ttOk zOk foOk (σ := Nat) (mayI d j c) (fun m => m ≤ c.pars.length ∧ (c.round > d.low + 1 → ∀ x ∈ c.pars.take m, ∃ c' ∈ d.certs.take j, c'.digest = x ∧ c'.round = c.round - 1)) (fun m => c.pars.length - m) [1, 3, 5, 30, 31, 32, 76, 77, 78] ?_ ?_
                  · conv => whnf
                    exact ⟨0, by rw [hpl]; rfl, rfl, Nat.zero_le _, by simp⟩
                  · rintro m ⟨hm, hall⟩
                    conv => whnf
                    repeat' (first | ((with_reducible apply rd_intro); (focus (intro K hK; (conv => whnf); first | exact hK | (intro z hz; rw [wrapI (by omega)] at hz; subst hz; exact hK))); (conv => whnf)) | ((with_reducible apply gd_and); (focus ((conv => whnf) <;> first | rfl | (intro K hK; (conv => whnf); first | exact hK | (intro z hz; rw [wrapI (by omega)] at hz; subst hz; exact hK)))); (conv => whnf)) | ((with_reducible apply z_wrap); (focus omega); (conv => whnf)) | ((with_reducible first | apply mt_dec | apply mt_eq | apply mt_ne | apply mt_not | apply mt_any) <;> (intro _; conv => whnf)))
                    · rename_i hml
                      have hmn : m < c.pars.length := Int.ofNat_lt.1 hml
                      have hpf := hfl.pars
                      unfold few at hpf
                      refine Exists.elim (⟨_, List.getElem?_eq_getElem hmn⟩ : ∃ x, c.pars[m]? = some x) fun x hx => ?_
                      refine ⟨by omega, [.int .i64 x], nums_at hx, ?_⟩
                      conv => whnf
                      repeat' (first | ((with_reducible apply rd_intro); (focus (intro K hK; (conv => whnf); first | exact hK | (intro z hz; rw [wrapI (by omega)] at hz; subst hz; exact hK))); (conv => whnf)) | ((with_reducible apply gd_and); (focus ((conv => whnf) <;> first | rfl | (intro K hK; (conv => whnf); first | exact hK | (intro z hz; rw [wrapI (by omega)] at hz; subst hz; exact hK)))); (conv => whnf)) | ((with_reducible apply z_wrap); (focus omega); (conv => whnf)) | ((with_reducible first | apply mt_dec | apply mt_eq | apply mt_ne | apply mt_not | apply mt_any) <;> (intro _; conv => whnf)))
                      · rename_i hrl
                        refine Exists.elim (mapP_look x (seenP (d.certs.take j))) fun q hq => ?_
                        have hq1 := hq.1
                        refine hq.2.elim (fun hv => Exists.elim hv fun v hv => Exists.elim hv.2 fun i hqe => ?_) fun hn => ?_
                        · rw [hqe] at hq1
                          refine ⟨_, hq1, ?_⟩
                          conv => whnf
                          repeat' (first | ((with_reducible apply rd_intro); (focus (intro K hK; (conv => whnf); first | exact hK | (intro z hz; rw [wrapI (by omega)] at hz; subst hz; exact hK))); (conv => whnf)) | ((with_reducible apply gd_and); (focus ((conv => whnf) <;> first | rfl | (intro K hK; (conv => whnf); first | exact hK | (intro z hz; rw [wrapI (by omega)] at hz; subst hz; exact hK)))); (conv => whnf)) | ((with_reducible apply z_wrap); (focus omega); (conv => whnf)) | ((with_reducible first | apply mt_dec | apply mt_eq | apply mt_ne | apply mt_not | apply mt_any) <;> (intro _; conv => whnf)))
                          · exact outM_no d
                          · rename_i hve
                            refine ⟨m + 1, rfl, rfl, ⟨by omega, fun hr y hy => ?_⟩, by omega⟩
                            rw [take_snoc hx] at hy
                            rcases List.mem_append.1 hy with hy | hy
                            · exact hall hr y hy
                            · simp at hy
                              obtain ⟨c', k1, k2, k3⟩ := seen_some hv.1
                              exact ⟨c', k1, by rw [k2, hy], by rw [k3]; exact hve⟩
                        · rw [hn.2] at hq1
                          refine ⟨_, hq1, ?_⟩
                          conv => whnf
                          repeat' (first | ((with_reducible apply rd_intro); (focus (intro K hK; (conv => whnf); first | exact hK | (intro z hz; rw [wrapI (by omega)] at hz; subst hz; exact hK))); (conv => whnf)) | ((with_reducible apply gd_and); (focus ((conv => whnf) <;> first | rfl | (intro K hK; (conv => whnf); first | exact hK | (intro z hz; rw [wrapI (by omega)] at hz; subst hz; exact hK)))); (conv => whnf)) | ((with_reducible apply z_wrap); (focus omega); (conv => whnf)) | ((with_reducible first | apply mt_dec | apply mt_eq | apply mt_ne | apply mt_not | apply mt_any) <;> (intro _; conv => whnf)))
                          · exact outM_no d
                          · rename_i hve
                            exfalso
                            omega
                      · rename_i hrl
                        exact ⟨m + 1, rfl, rfl, ⟨by omega, fun hr => absurd hr hrl⟩, by omega⟩
                    · rename_i hml
                      rw [List.take_of_length_le (by omega)] at hall
                      refine Exists.elim (mapP_new (v := c.round) hfr) fun q hq => ?_
                      refine ⟨q, hq.1, ?_⟩
                      have hnew : mputAt (mapP (seenP (d.certs.take j))) q (.one (.int .i64 c.digest)) (.v (.one (.int .i64 c.round))) = mapP (seenP (d.certs.take (j + 1))) := by
                        rw [hq.2, List.take_add_one, hc]; simp [seenP]
                      rw [hnew]
                      conv => whnf
                      repeat' (first | ((with_reducible apply rd_intro); (focus (intro K hK; (conv => whnf); first | exact hK | (intro z hz; rw [wrapI (by omega)] at hz; subst hz; exact hK))); (conv => whnf)) | ((with_reducible apply gd_and); (focus ((conv => whnf) <;> first | rfl | (intro K hK; (conv => whnf); first | exact hK | (intro z hz; rw [wrapI (by omega)] at hz; subst hz; exact hK)))); (conv => whnf)) | ((with_reducible apply z_wrap); (focus omega); (conv => whnf)) | ((with_reducible first | apply mt_dec | apply mt_eq | apply mt_ne | apply mt_not | apply mt_any) <;> (intro _; conv => whnf)))
                      exact ⟨j + 1, rfl, rfl, ⟨by omega, hinv.next hc hok hab hall h4 (seen_none hfr)⟩, by omega⟩
          · rw [@decide_eq_false _ (Classical.propDecidable _) hok]
            conv => whnf
            repeat' (first | ((with_reducible apply rd_intro); (focus (intro K hK; (conv => whnf); first | exact hK | (intro z hz; rw [wrapI (by omega)] at hz; subst hz; exact hK))); (conv => whnf)) | ((with_reducible apply gd_and); (focus ((conv => whnf) <;> first | rfl | (intro K hK; (conv => whnf); first | exact hK | (intro z hz; rw [wrapI (by omega)] at hz; subst hz; exact hK)))); (conv => whnf)) | ((with_reducible apply z_wrap); (focus omega); (conv => whnf)) | ((with_reducible first | apply mt_dec | apply mt_eq | apply mt_ne | apply mt_not | apply mt_any) <;> (intro _; conv => whnf)))
            exact outM_no d
        · rename_i hjl
          have : j = d.certs.length := by omega
          subst this
          exact ⟨⟨_, rfl, fun _ => hinv.valid hn ⟨by omega, by omega⟩ (by omega)⟩, rfl⟩
theorem dagMay_full (d : Dag) (h : d.ok) : ACalls Tryz.prog 75 [d.av] [] (fun av L => av = .d (.bool (isV d)) ∧ L = []) := by
  by_cases hv : Valid d
  · rw [isV_yes hv]; exact dagMay_ok d hv
  · rw [isV_no hv]
    refine (dagMay_any d h).mono ?_
    rintro _ _ ⟨⟨b, rfl, hb⟩, rfl⟩
    cases b with
    | true => exact absurd (hb rfl) hv
    | false => exact ⟨rfl, rfl⟩
end Go.Proofs.YtdlfmgcmfoehdaaGreat
