/- Part of the proof of CursorHistory: the contracts of the functions. -/
import Derived.Test.YtoeppembokpjkaaCursorHistoryCodC

set_option linter.unusedVariables false
set_option linter.unusedSimpArgs false
namespace Go.Proofs.Ytoeppembokpjkaa
open Go.Ab Go.RowKit Go.MapKept
attribute [local irreducible] ACalls AW ADraw Into fltB fnear
set_option maxRecDepth 100000
/-- going on, as data -/
def Wk.goF (d : Dag) : Nat → Wk → Wk
  | 0, w => w
  | n + 1, w => if nextC d w.c.round > 0 then Wk.goF d n (w.putL d (backI d w.c.round (nextC d w.c.round))) else w
theorem goF_end {d : Dag} {w : Wk} (h : ¬ nextC d w.c.round > 0) : ∀ n, Wk.goF d n w = w
  | 0 => rfl
  | n + 1 => by rw [Wk.goF, if_neg h]
def zCur : AB := .cells [.d (.int .i64 0), .d .nils, .d (.int .i64 0)]
def Wk.cellsAt (d : Dag) (w : Wk) (i j : Nat) : AB := .cells (w.cells d i j)
/-- the outer loop's state: b: nothing was put out yet -/
def goSt (d : Dag) (done0 : List Int) : Bool × Wk → AF × List AB
  | (true, w) => ([(2, .ptr 1 0), (4, .ptr 2 0), (6, .ptr 3 0), (7, .d (.int .i64 (nextC d w.c.round)))], [.row 3 1 (nums w.c.done) false, .cells d.cells, zCur, .cells (w.cells d 0 4), .row 3 1 (nums w.outs) false])
  | (false, w) => ([(2, .ptr 1 0), (4, .ptr 2 0), (6, .ptr 3 0), (7, .d (.int .i64 (nextC d w.c.round)))], [.row 3 1 (nums done0) true, .cells d.cells, zCur, .cells (w.cells d 4 5), .row 3 1 (nums w.c.done) false, .row 3 1 (nums w.outs) false])
def goIn (d : Dag) (done0 : List Int) (l : List Int) : Bool × Wk × Nat → AF × List AB
  | (true, w, j) => ([(2, .ptr 1 0), (4, .ptr 2 0), (6, .ptr 3 0), (37, .arr 4), (38, .d (.int .i64 l.length)), (39, .d (.int .i64 j))], [.row 3 1 (nums w.c.done) false, .cells d.cells, zCur, .cells (w.cells d 0 5), .row 3 1 (nums l) false, .row 3 1 (nums w.outs) false])
  | (false, w, j) => ([(2, .ptr 1 0), (4, .ptr 2 0), (6, .ptr 3 0), (37, .arr 4), (38, .d (.int .i64 l.length)), (39, .d (.int .i64 j))], [.row 3 1 (nums done0) true, .cells d.cells, zCur, .cells (w.cells d 5 6), .row 3 1 (nums l) false, .row 3 1 (nums w.c.done) false, .row 3 1 (nums w.outs) false])
theorem nextR_spec (d : Dag) : ∀ r : Int, nextR d r = 0 ∨ (r ≤ nextR d r ∧ nextR d r < topR d.certs ∧ settled d (nextR d r) = true ∧ nextR d r % 2 = r % 2) := by
  intro r
  induction r using nextR.induct (d := d) with
  | case1 r h => exact .inl (next_top h)
  | case2 r h h2 => rw [next_here h h2]; exact .inr ⟨by omega, by omega, h2, rfl⟩
  | case3 r h h2 ih =>
    rw [next_on h (by simpa using h2)]
    rcases ih with ih | ⟨i1, i2, i3, i4⟩
    · exact .inl ih
    · exact .inr ⟨by omega, i2, i3, by omega⟩
theorem settled_anchor {d : Dag} (hn : 0 < d.nodes) {r : Int} (h : settled d r = true) : anchorI d r ≠ 0 := by
  intro h0
  unfold settled at h
  have hv : votes d r = 0 := by
    unfold votes
    rw [h0]
    rw [List.filter_eq_nil_iff.2]
    · rfl
    · intro c _; simp
  rw [hv] at h
  simp at h
  omega
theorem nextC_spec {d : Dag} (hw : d.well) {after : Int} (ha : 0 ≤ after) (he : after % 2 = 0) (h : nextC d after > 0) : after < nextC d after ∧ nextC d after < topR d.certs ∧ settled d (nextC d after) = true ∧ nextC d after % 2 = 0 ∧ anchorI d (nextC d after) ≠ 0 ∧ 2 ≤ nextC d after := by
  have hl := hw.low
  rcases nextR_spec d (max after (d.low - d.low % 2) + 2) with h1 | ⟨h1, h2, h3, h4⟩
  · unfold nextC at h; omega
  · unfold nextC at h ⊢
    have h5 : (d.low - d.low % 2) % 2 = 0 := by omega
    have h6 : (max after (d.low - d.low % 2) + 2) % 2 = 0 := by
      rcases Int.le_total after (d.low - d.low % 2) with h7 | h7
      · rw [Int.max_eq_right h7]; omega
      · rw [Int.max_eq_left h7]; omega
    exact ⟨by omega, h2, h3, by omega, settled_anchor hw.nodes.1 h3, by omega⟩
structure goInv (d : Dag) (done0 : List Int) (fin : Wk) (b : Bool) (w : Wk) : Prop where
  okay : w.okay d
  round : 0 ≤ w.c.round ∧ w.c.round ≤ 1099511627776 ∧ w.c.round % 2 = 0
  first : b = true → w.c.done = done0
  fin : ∃ n : Nat, topR d.certs - w.c.round ≤ n ∧ fin = Wk.goF d n w
structure goInI (d : Dag) (done0 : List Int) (w0 : Wk) (l : List Int) (b : Bool) (w : Wk) (j : Nat) : Prop where
  okay : w.okay d
  le : j ≤ l.length
  first : b = true → w.c.done = done0
  is : w = w0.putL d (l.take j)
  next : ∀ x ∈ l.drop j, w.c.round < roundOf d x
  last : ∀ x, 0 < j → l[j - 1]? = some x → w.c.round = roundOf d x
structure Chain (d : Dag) (w0 : Wk) (l : List Int) : Prop where
  all : ∀ x ∈ l, ∃ q, w0.c.round < q ∧ q ≤ nextC d w0.c.round ∧ x = anchorI d q ∧ anchorI d q ≠ 0
  up : l.Pairwise fun x y => roundOf d x < roundOf d y
  last : l.getLast? = some (anchorI d (nextC d w0.c.round))
theorem Chain.at {d : Dag} (hw : d.well) {w0 : Wk} {l : List Int} (h : Chain d w0 l) {j : Nat} (hj : j < l.length) : ∃ x i c, l[j]? = some x ∧ getC d.certs x = some i ∧ d.certs[i]? = some c ∧ roundOf d x = c.round := by
  obtain ⟨q, q1, q2, hxq, q3⟩ := h.all l[j] (List.getElem_mem hj)
  obtain ⟨c2, hco, hcr, _⟩ := anchor_cert hw q3
  rw [← hxq] at hco
  obtain ⟨hcm, hcd, i, hg, hc2⟩ := certOf_some hco
  exact ⟨l[j], i, c2, List.getElem?_eq_getElem hj, hg, hc2, by rw [roundOf, hco]; rfl⟩
theorem Chain.len {d : Dag} (hw : d.well) {w0 : Wk} {l : List Int} (h : Chain d w0 l) : l.length ≤ d.certs.length := by
  have hn : l.Nodup := h.up.imp fun {a b} hab e => by rw [e] at hab; omega
  have := sub_len (m := d.certs.map (·.digest)) hn fun x hx => by
    obtain ⟨q, _, _, rfl, q3⟩ := h.all x hx
    obtain ⟨c, hc, _⟩ := anchor_cert hw q3
    obtain ⟨h1, h2, _⟩ := certOf_some hc
    exact List.mem_map.2 ⟨c, h1, h2⟩
  simpa using this
theorem goInI.start {d : Dag} (hw : d.well) {done0 : List Int} {w : Wk} {l : List Int} (h : Chain d w l) (hok : w.okay d) {b : Bool} (hb : b = true → w.c.done = done0) : goInI d done0 w l b w 0 := by
  refine ⟨hok, Nat.zero_le _, hb, rfl, ?_, fun x h => absurd h (Nat.lt_irrefl 0)⟩
  intro x hx
  obtain ⟨q, q1, q2, rfl, q3⟩ := h.all x (by simpa using hx)
  rw [anchor_round hw q3]; exact q1
theorem goInI.step {d : Dag} (hw : d.well) {done0 : List Int} {w0 : Wk} {l : List Int} (hch : Chain d w0 l) {b : Bool} {w : Wk} {j : Nat} (h : goInI d done0 w0 l b w j) (hj : j < l.length) {x : Int} {i : Nat} {c : Cert} (hx : l[j]? = some x) (hg : getC d.certs x = some i) (hc : d.certs[i]? = some c) (hr : roundOf d x = c.round) : goInI d done0 w0 l false (w.put d i c) (j + 1) := by
  have hlt : w.c.round < c.round := by rw [← hr]; exact h.next x (by rw [List.mem_iff_getElem?]; exact ⟨0, by rw [List.getElem?_drop]; simpa using hx⟩)
  refine ⟨h.okay.put hw hc hlt, by omega, (fun h => by cases h), ?_, ?_, ?_⟩
  · rw [List.take_add_one, hx, Wk.putL, Option.toList_some, List.foldl_append, List.foldl_cons, List.foldl_nil]
    show _ = Wk.putA d (w0.putL d (l.take j)) x
    rw [← h.is, putA_eq hg hc]
  · intro y hy
    show c.round < _
    rw [← hr]
    have hp : (l.drop j).Pairwise (fun x y => roundOf d x < roundOf d y) := hch.up.sublist (List.drop_sublist ..)
    rw [List.drop_eq_getElem_cons hj] at hp
    have := (List.pairwise_cons.1 hp).1 y hy
    rw [List.getElem?_eq_getElem hj] at hx
    rw [← Option.some.inj hx]
    exact this
  · intro y _ hy
    rw [Nat.add_sub_cancel, hx] at hy
    cases hy
    exact hr.symm
theorem goInI.done {d : Dag} (hw : d.well) {done0 : List Int} {w0 : Wk} {l : List Int} (hch : Chain d w0 l) (hpos : nextC d w0.c.round > 0) (h0 : 0 ≤ w0.c.round) (he : w0.c.round % 2 = 0) {fin : Wk} {b : Bool} {w : Wk} {j : Nat} (h : goInI d done0 w0 l b w j) (hj : ¬ (j : Int) < l.length) (hl : backI d w0.c.round (nextC d w0.c.round) = l)
    (hfin : ∃ n : Nat, topR d.certs - w0.c.round ≤ n ∧ fin = Wk.goF d n w0) : goInv d done0 fin b w ∧ (topR d.certs - w.c.round).toNat < (topR d.certs - w0.c.round).toNat := by
  obtain ⟨s1, s2, s3, s4, s5, s6⟩ := nextC_spec hw h0 he hpos
  have hjl : j = l.length := by have := h.le; omega
  subst hjl
  have his := h.is
  rw [List.take_length] at his
  have hlast : l[l.length - 1]? = some (anchorI d (nextC d w0.c.round)) := by rw [← List.getLast?_eq_getElem?]; exact hch.last
  have hlen0 : 0 < l.length := by
    rcases Nat.eq_zero_or_pos l.length with h | h
    · rw [List.length_eq_zero_iff.1 h] at hlast; cases hlast
    · exact h
  have hround : w.c.round = nextC d w0.c.round := by rw [h.last _ hlen0 hlast, anchor_round hw s5]
  have htop := hw.top
  refine ⟨⟨h.okay, ⟨by omega, by omega, by omega⟩, h.first, ?_⟩, by omega⟩
  obtain ⟨n, h4, h5⟩ := hfin
  cases n with
  | zero => exact absurd h4 (by omega)
  | succ m =>
    rw [Wk.goF, if_pos hpos, hl, ← his] at h5
    exact ⟨m, by omega, h5⟩
theorem goInv.chain {d : Dag} (hw : d.well) {done0 : List Int} {fin : Wk} {b : Bool} {w : Wk} (h : goInv d done0 fin b w) (hpos : nextC d w.c.round > 0) : Chain d w (backI d w.c.round (nextC d w.c.round)) := by
  obtain ⟨s1, s2, s3, s4, s5, s6⟩ := nextC_spec hw h.round.1 h.round.2.2 hpos
  obtain ⟨a1, a2, a3⟩ := backI_all hw s1 s5
  exact ⟨a1, a2, a3⟩
set_option maxHeartbeats 4000000 in
theorem go_ok (d : Dag) (hw : d.well) (c : Cursor) (hr : 0 ≤ c.round ∧ c.round ≤ 1099511627776) (he : c.round % 2 = 0) (hok : (Wk.mk c []).okay d) (fin : Wk) (hfin : fin = Wk.goF d (topR d.certs).toNat ⟨c, []⟩) :
    ACalls Try.prog 38 [d.av, .agg [.d (.int .i64 c.round), .arr 0, .d (.int .i64 c.count)]] [.row 3 1 (nums c.done) false] (fun av L => (fin.c.done = c.done ∧ av = .tup [.agg [.d (.int .i64 fin.c.round), .arr 0, .d (.int .i64 fin.c.count)], .arr 1] ∧ L = [.row 3 1 (nums fin.c.done) false, .row 3 1 (nums fin.outs) false]) ∨ (av = .tup [.agg [.d (.int .i64 fin.c.round), .arr 1, .d (.int .i64 fin.c.count)], .arr 2] ∧ L = [.row 3 1 (nums c.done) true, .row 3 1 (nums fin.c.done) false, .row 3 1 (nums fin.outs) false])) := by
  refine acalls_go ttOk zOk foOk Try.func38 rfl Try.ntmps38 rfl true rfl ?_
  conv => whnf
  ((with_reducible refine draw_pl ttOk zOk foOk mixedOk pl38x2 ?_ ?_); (focus kernel_rfl); (conv => whnf))
  repeat' (first | ((with_reducible apply rd_intro); (focus (intro K hK; (conv => whnf); first | exact hK | (intro z hz; rw [wrapI (by omega)] at hz; subst hz; exact hK))); (conv => whnf)) | ((with_reducible apply gd_and); (focus ((conv => whnf) <;> first | rfl | (intro K hK; (conv => whnf); first | exact hK | (intro z hz; rw [wrapI (by omega)] at hz; subst hz; exact hK)))); (conv => whnf)) | ((with_reducible apply z_wrap); (focus omega); (conv => whnf)) | ((with_reducible refine mt_dec (fun _ => ?_) (fun _ => ?_)) <;> (conv => whnf)) | ((with_reducible refine mt_eq (fun _ => ?_) (fun _ => ?_)) <;> (conv => whnf)) | ((with_reducible refine mt_ne (fun _ => ?_) (fun _ => ?_)) <;> (conv => whnf)) | ((with_reducible refine mt_not (fun _ => ?_) (fun _ => ?_)) <;> (conv => whnf)) | ((with_reducible refine mt_any (fun _ => ?_) (fun _ => ?_)) <;> (conv => whnf)))
  refine (next_ok d hw c.round hr).mono ?_
  rintro _ _ ⟨rfl, rfl⟩
  conv => whnf
  repeat' (first | ((with_reducible apply rd_intro); (focus (intro K hK; (conv => whnf); first | exact hK | (intro z hz; rw [wrapI (by omega)] at hz; subst hz; exact hK))); (conv => whnf)) | ((with_reducible apply gd_and); (focus ((conv => whnf) <;> first | rfl | (intro K hK; (conv => whnf); first | exact hK | (intro z hz; rw [wrapI (by omega)] at hz; subst hz; exact hK)))); (conv => whnf)) | ((with_reducible apply z_wrap); (focus omega); (conv => whnf)) | ((with_reducible refine mt_dec (fun _ => ?_) (fun _ => ?_)) <;> (conv => whnf)) | ((with_reducible refine mt_eq (fun _ => ?_) (fun _ => ?_)) <;> (conv => whnf)) | ((with_reducible refine mt_ne (fun _ => ?_) (fun _ => ?_)) <;> (conv => whnf)) | ((with_reducible refine mt_not (fun _ => ?_) (fun _ => ?_)) <;> (conv => whnf)) | ((with_reducible refine mt_any (fun _ => ?_) (fun _ => ?_)) <;> (conv => whnf)))
  refine loop_go ttOk zOk foOk (σ := Bool × Wk) (goSt d c.done) (fun s => goInv d c.done fin s.1 s.2) (fun s => (topR d.certs - s.2.c.round).toNat) [2, 4, 6, 7] ?_ ?_
  · conv => whnf
    exact ⟨(true, ⟨c, []⟩), rfl, rfl, hok, ⟨hr.1, hr.2, he⟩, fun _ => rfl, (topR d.certs).toNat, by show topR d.certs - c.round ≤ ((topR d.certs).toNat : Int); omega, hfin⟩
  · rintro ⟨b, w⟩ hin0
    have h0 : goInv d c.done fin b w := hin0
    clear hin0
    cases b with
    | true =>
      conv => whnf
      repeat' (first | ((with_reducible apply rd_intro); (focus (intro K hK; (conv => whnf); first | exact hK | (intro z hz; rw [wrapI (by omega)] at hz; subst hz; exact hK))); (conv => whnf)) | ((with_reducible apply gd_and); (focus ((conv => whnf) <;> first | rfl | (intro K hK; (conv => whnf); first | exact hK | (intro z hz; rw [wrapI (by omega)] at hz; subst hz; exact hK)))); (conv => whnf)) | ((with_reducible apply z_wrap); (focus omega); (conv => whnf)) | ((with_reducible refine mt_dec (fun _ => ?_) (fun _ => ?_)) <;> (conv => whnf)) | ((with_reducible refine mt_eq (fun _ => ?_) (fun _ => ?_)) <;> (conv => whnf)) | ((with_reducible refine mt_ne (fun _ => ?_) (fun _ => ?_)) <;> (conv => whnf)) | ((with_reducible refine mt_not (fun _ => ?_) (fun _ => ?_)) <;> (conv => whnf)) | ((with_reducible refine mt_any (fun _ => ?_) (fun _ => ?_)) <;> (conv => whnf)))
      · rename_i hpos
        have hsp := nextC_spec hw h0.round.1 h0.round.2.2 hpos
        have htop := hw.top
        have hch := h0.chain hw hpos
        ((with_reducible refine draw_pl ttOk zOk foOk mixedOk pl38x5 ?_ ?_); (focus kernel_rfl); (conv => whnf))
        repeat' (first | ((with_reducible apply rd_intro); (focus (intro K hK; (conv => whnf); first | exact hK | (intro z hz; rw [wrapI (by omega)] at hz; subst hz; exact hK))); (conv => whnf)) | ((with_reducible apply gd_and); (focus ((conv => whnf) <;> first | rfl | (intro K hK; (conv => whnf); first | exact hK | (intro z hz; rw [wrapI (by omega)] at hz; subst hz; exact hK)))); (conv => whnf)) | ((with_reducible apply z_wrap); (focus omega); (conv => whnf)) | ((with_reducible refine mt_dec (fun _ => ?_) (fun _ => ?_)) <;> (conv => whnf)) | ((with_reducible refine mt_eq (fun _ => ?_) (fun _ => ?_)) <;> (conv => whnf)) | ((with_reducible refine mt_ne (fun _ => ?_) (fun _ => ?_)) <;> (conv => whnf)) | ((with_reducible refine mt_not (fun _ => ?_) (fun _ => ?_)) <;> (conv => whnf)) | ((with_reducible refine mt_any (fun _ => ?_) (fun _ => ?_)) <;> (conv => whnf)))
        refine (back_ok d hw w.c.round (nextC d w.c.round) h0.round.1 hsp.1 hsp.2.2.2.1 ⟨hsp.2.2.2.2.2, by have := hsp.2.1; omega⟩ hsp.2.2.2.2.1).mono ?_
        rintro _ _ ⟨rfl, rfl⟩
        obtain ⟨l, hl⟩ : ∃ l, backI d w.c.round (nextC d w.c.round) = l := ⟨_, rfl⟩
        rw [hl] at hch ⊢
        have hnl := nums_length l
        conv => whnf
        repeat' (first | ((with_reducible apply rd_intro); (focus (intro K hK; (conv => whnf); first | exact hK | (intro z hz; rw [wrapI (by omega)] at hz; subst hz; exact hK))); (conv => whnf)) | ((with_reducible apply gd_and); (focus ((conv => whnf) <;> first | rfl | (intro K hK; (conv => whnf); first | exact hK | (intro z hz; rw [wrapI (by omega)] at hz; subst hz; exact hK)))); (conv => whnf)) | ((with_reducible apply z_wrap); (focus omega); (conv => whnf)) | ((with_reducible refine mt_dec (fun _ => ?_) (fun _ => ?_)) <;> (conv => whnf)) | ((with_reducible refine mt_eq (fun _ => ?_) (fun _ => ?_)) <;> (conv => whnf)) | ((with_reducible refine mt_ne (fun _ => ?_) (fun _ => ?_)) <;> (conv => whnf)) | ((with_reducible refine mt_not (fun _ => ?_) (fun _ => ?_)) <;> (conv => whnf)) | ((with_reducible refine mt_any (fun _ => ?_) (fun _ => ?_)) <;> (conv => whnf)))
        refine loop_go ttOk zOk foOk (σ := Bool × Wk × Nat) (goIn d c.done l) (fun s => goInI d c.done w l s.1 s.2.1 s.2.2) (fun s => l.length - s.2.2) [2, 4, 6, 37, 38, 39] ?_ ?_
        · conv => whnf
          exact ⟨(true, w, 0), by rw [hnl]; rfl, rfl, goInI.start hw hch h0.okay h0.first⟩
        · rintro ⟨b2, w2, j⟩ hin1
          have hin : goInI d c.done w l b2 w2 j := hin1
          clear hin1
          cases b2 with
          | true =>
            conv => whnf
            repeat' (first | ((with_reducible apply rd_intro); (focus (intro K hK; (conv => whnf); first | exact hK | (intro z hz; rw [wrapI (by omega)] at hz; subst hz; exact hK))); (conv => whnf)) | ((with_reducible apply gd_and); (focus ((conv => whnf) <;> first | rfl | (intro K hK; (conv => whnf); first | exact hK | (intro z hz; rw [wrapI (by omega)] at hz; subst hz; exact hK)))); (conv => whnf)) | ((with_reducible apply z_wrap); (focus omega); (conv => whnf)) | ((with_reducible refine mt_dec (fun _ => ?_) (fun _ => ?_)) <;> (conv => whnf)) | ((with_reducible refine mt_eq (fun _ => ?_) (fun _ => ?_)) <;> (conv => whnf)) | ((with_reducible refine mt_ne (fun _ => ?_) (fun _ => ?_)) <;> (conv => whnf)) | ((with_reducible refine mt_not (fun _ => ?_) (fun _ => ?_)) <;> (conv => whnf)) | ((with_reducible refine mt_any (fun _ => ?_) (fun _ => ?_)) <;> (conv => whnf)))
            · rename_i hjl
              have hjn : j < l.length := Int.ofNat_lt.1 hjl
              refine Exists.elim (hch.at hw hjn) fun x hx => Exists.elim hx fun i hx => Exists.elim hx fun c2 hx => ?_
              have hlen := hch.len hw
              have hlen2 := hw.len
              have hst := hin.step hw hch hjn hx.1 hx.2.1 hx.2.2.1 hx.2.2.2
              refine ⟨Int.natCast_nonneg _, by rw [Int.toNat_natCast, hnl]; exact hjn, ?_⟩
              conv => whnf
              refine ⟨_, by rw [Int.toNat_natCast]; exact nums_at hx.1, ?_⟩
              conv => whnf
              repeat' (first | ((with_reducible apply rd_intro); (focus (intro K hK; (conv => whnf); first | exact hK | (intro z hz; rw [wrapI (by omega)] at hz; subst hz; exact hK))); (conv => whnf)) | ((with_reducible apply gd_and); (focus ((conv => whnf) <;> first | rfl | (intro K hK; (conv => whnf); first | exact hK | (intro z hz; rw [wrapI (by omega)] at hz; subst hz; exact hK)))); (conv => whnf)) | ((with_reducible apply z_wrap); (focus omega); (conv => whnf)) | ((with_reducible refine mt_dec (fun _ => ?_) (fun _ => ?_)) <;> (conv => whnf)) | ((with_reducible refine mt_eq (fun _ => ?_) (fun _ => ?_)) <;> (conv => whnf)) | ((with_reducible refine mt_ne (fun _ => ?_) (fun _ => ?_)) <;> (conv => whnf)) | ((with_reducible refine mt_not (fun _ => ?_) (fun _ => ?_)) <;> (conv => whnf)) | ((with_reducible refine mt_any (fun _ => ?_) (fun _ => ?_)) <;> (conv => whnf)))
              refine (put_ok d hw w2 x hx.2.1 hx.2.2.1 hin.okay.fine.rising hin.okay.fine.few (hin.okay.outs' hw) hin.okay.fine.count).mono ?_
              rintro _ _ ⟨rfl, rfl⟩
              conv => whnf
              repeat' (first | ((with_reducible apply rd_intro); (focus (intro K hK; (conv => whnf); first | exact hK | (intro z hz; rw [wrapI (by omega)] at hz; subst hz; exact hK))); (conv => whnf)) | ((with_reducible apply gd_and); (focus ((conv => whnf) <;> first | rfl | (intro K hK; (conv => whnf); first | exact hK | (intro z hz; rw [wrapI (by omega)] at hz; subst hz; exact hK)))); (conv => whnf)) | ((with_reducible apply z_wrap); (focus omega); (conv => whnf)) | ((with_reducible refine mt_dec (fun _ => ?_) (fun _ => ?_)) <;> (conv => whnf)) | ((with_reducible refine mt_eq (fun _ => ?_) (fun _ => ?_)) <;> (conv => whnf)) | ((with_reducible refine mt_ne (fun _ => ?_) (fun _ => ?_)) <;> (conv => whnf)) | ((with_reducible refine mt_not (fun _ => ?_) (fun _ => ?_)) <;> (conv => whnf)) | ((with_reducible refine mt_any (fun _ => ?_) (fun _ => ?_)) <;> (conv => whnf)))
              exact ⟨(false, w2.put d i c2, j + 1), rfl, by rw [goIn, ← hin.first rfl]; rfl, hst, by show l.length - (j + 1) < l.length - j; omega⟩
            · rename_i hjl
              have hdn := hin.done hw hch hpos h0.round.1 h0.round.2.2 (fin := fin) hjl hl h0.fin
              have hr2 := hdn.1.round
              ((with_reducible refine draw_pl ttOk zOk foOk mixedOk pl38x4 ?_ ?_); (focus kernel_rfl); (conv => whnf))
              repeat' (first | ((with_reducible apply rd_intro); (focus (intro K hK; (conv => whnf); first | exact hK | (intro z hz; rw [wrapI (by omega)] at hz; subst hz; exact hK))); (conv => whnf)) | ((with_reducible apply gd_and); (focus ((conv => whnf) <;> first | rfl | (intro K hK; (conv => whnf); first | exact hK | (intro z hz; rw [wrapI (by omega)] at hz; subst hz; exact hK)))); (conv => whnf)) | ((with_reducible apply z_wrap); (focus omega); (conv => whnf)) | ((with_reducible refine mt_dec (fun _ => ?_) (fun _ => ?_)) <;> (conv => whnf)) | ((with_reducible refine mt_eq (fun _ => ?_) (fun _ => ?_)) <;> (conv => whnf)) | ((with_reducible refine mt_ne (fun _ => ?_) (fun _ => ?_)) <;> (conv => whnf)) | ((with_reducible refine mt_not (fun _ => ?_) (fun _ => ?_)) <;> (conv => whnf)) | ((with_reducible refine mt_any (fun _ => ?_) (fun _ => ?_)) <;> (conv => whnf)))
              refine (next_ok d hw w2.c.round ⟨hr2.1, hr2.2.1⟩).mono ?_
              rintro _ _ ⟨rfl, rfl⟩
              conv => whnf
              repeat' (first | ((with_reducible apply rd_intro); (focus (intro K hK; (conv => whnf); first | exact hK | (intro z hz; rw [wrapI (by omega)] at hz; subst hz; exact hK))); (conv => whnf)) | ((with_reducible apply gd_and); (focus ((conv => whnf) <;> first | rfl | (intro K hK; (conv => whnf); first | exact hK | (intro z hz; rw [wrapI (by omega)] at hz; subst hz; exact hK)))); (conv => whnf)) | ((with_reducible apply z_wrap); (focus omega); (conv => whnf)) | ((with_reducible refine mt_dec (fun _ => ?_) (fun _ => ?_)) <;> (conv => whnf)) | ((with_reducible refine mt_eq (fun _ => ?_) (fun _ => ?_)) <;> (conv => whnf)) | ((with_reducible refine mt_ne (fun _ => ?_) (fun _ => ?_)) <;> (conv => whnf)) | ((with_reducible refine mt_not (fun _ => ?_) (fun _ => ?_)) <;> (conv => whnf)) | ((with_reducible refine mt_any (fun _ => ?_) (fun _ => ?_)) <;> (conv => whnf)))
              exact ⟨(true, w2), rfl, rfl, hdn.1, hdn.2⟩
          | false =>
            conv => whnf
            repeat' (first | ((with_reducible apply rd_intro); (focus (intro K hK; (conv => whnf); first | exact hK | (intro z hz; rw [wrapI (by omega)] at hz; subst hz; exact hK))); (conv => whnf)) | ((with_reducible apply gd_and); (focus ((conv => whnf) <;> first | rfl | (intro K hK; (conv => whnf); first | exact hK | (intro z hz; rw [wrapI (by omega)] at hz; subst hz; exact hK)))); (conv => whnf)) | ((with_reducible apply z_wrap); (focus omega); (conv => whnf)) | ((with_reducible refine mt_dec (fun _ => ?_) (fun _ => ?_)) <;> (conv => whnf)) | ((with_reducible refine mt_eq (fun _ => ?_) (fun _ => ?_)) <;> (conv => whnf)) | ((with_reducible refine mt_ne (fun _ => ?_) (fun _ => ?_)) <;> (conv => whnf)) | ((with_reducible refine mt_not (fun _ => ?_) (fun _ => ?_)) <;> (conv => whnf)) | ((with_reducible refine mt_any (fun _ => ?_) (fun _ => ?_)) <;> (conv => whnf)))
            · rename_i hjl
              have hjn : j < l.length := Int.ofNat_lt.1 hjl
              refine Exists.elim (hch.at hw hjn) fun x hx => Exists.elim hx fun i hx => Exists.elim hx fun c2 hx => ?_
              have hlen := hch.len hw
              have hlen2 := hw.len
              have hst := hin.step hw hch hjn hx.1 hx.2.1 hx.2.2.1 hx.2.2.2
              refine ⟨Int.natCast_nonneg _, by rw [Int.toNat_natCast, hnl]; exact hjn, ?_⟩
              conv => whnf
              refine ⟨_, by rw [Int.toNat_natCast]; exact nums_at hx.1, ?_⟩
              conv => whnf
              repeat' (first | ((with_reducible apply rd_intro); (focus (intro K hK; (conv => whnf); first | exact hK | (intro z hz; rw [wrapI (by omega)] at hz; subst hz; exact hK))); (conv => whnf)) | ((with_reducible apply gd_and); (focus ((conv => whnf) <;> first | rfl | (intro K hK; (conv => whnf); first | exact hK | (intro z hz; rw [wrapI (by omega)] at hz; subst hz; exact hK)))); (conv => whnf)) | ((with_reducible apply z_wrap); (focus omega); (conv => whnf)) | ((with_reducible refine mt_dec (fun _ => ?_) (fun _ => ?_)) <;> (conv => whnf)) | ((with_reducible refine mt_eq (fun _ => ?_) (fun _ => ?_)) <;> (conv => whnf)) | ((with_reducible refine mt_ne (fun _ => ?_) (fun _ => ?_)) <;> (conv => whnf)) | ((with_reducible refine mt_not (fun _ => ?_) (fun _ => ?_)) <;> (conv => whnf)) | ((with_reducible refine mt_any (fun _ => ?_) (fun _ => ?_)) <;> (conv => whnf)))
              refine (put_ok d hw w2 x hx.2.1 hx.2.2.1 hin.okay.fine.rising hin.okay.fine.few (hin.okay.outs' hw) hin.okay.fine.count).mono ?_
              rintro _ _ ⟨rfl, rfl⟩
              conv => whnf
              repeat' (first | ((with_reducible apply rd_intro); (focus (intro K hK; (conv => whnf); first | exact hK | (intro z hz; rw [wrapI (by omega)] at hz; subst hz; exact hK))); (conv => whnf)) | ((with_reducible apply gd_and); (focus ((conv => whnf) <;> first | rfl | (intro K hK; (conv => whnf); first | exact hK | (intro z hz; rw [wrapI (by omega)] at hz; subst hz; exact hK)))); (conv => whnf)) | ((with_reducible apply z_wrap); (focus omega); (conv => whnf)) | ((with_reducible refine mt_dec (fun _ => ?_) (fun _ => ?_)) <;> (conv => whnf)) | ((with_reducible refine mt_eq (fun _ => ?_) (fun _ => ?_)) <;> (conv => whnf)) | ((with_reducible refine mt_ne (fun _ => ?_) (fun _ => ?_)) <;> (conv => whnf)) | ((with_reducible refine mt_not (fun _ => ?_) (fun _ => ?_)) <;> (conv => whnf)) | ((with_reducible refine mt_any (fun _ => ?_) (fun _ => ?_)) <;> (conv => whnf)))
              exact ⟨(false, w2.put d i c2, j + 1), rfl, rfl, hst, by show l.length - (j + 1) < l.length - j; omega⟩
            · rename_i hjl
              have hdn := hin.done hw hch hpos h0.round.1 h0.round.2.2 (fin := fin) hjl hl h0.fin
              have hr2 := hdn.1.round
              ((with_reducible refine draw_pl ttOk zOk foOk mixedOk pl38x4 ?_ ?_); (focus kernel_rfl); (conv => whnf))
              repeat' (first | ((with_reducible apply rd_intro); (focus (intro K hK; (conv => whnf); first | exact hK | (intro z hz; rw [wrapI (by omega)] at hz; subst hz; exact hK))); (conv => whnf)) | ((with_reducible apply gd_and); (focus ((conv => whnf) <;> first | rfl | (intro K hK; (conv => whnf); first | exact hK | (intro z hz; rw [wrapI (by omega)] at hz; subst hz; exact hK)))); (conv => whnf)) | ((with_reducible apply z_wrap); (focus omega); (conv => whnf)) | ((with_reducible refine mt_dec (fun _ => ?_) (fun _ => ?_)) <;> (conv => whnf)) | ((with_reducible refine mt_eq (fun _ => ?_) (fun _ => ?_)) <;> (conv => whnf)) | ((with_reducible refine mt_ne (fun _ => ?_) (fun _ => ?_)) <;> (conv => whnf)) | ((with_reducible refine mt_not (fun _ => ?_) (fun _ => ?_)) <;> (conv => whnf)) | ((with_reducible refine mt_any (fun _ => ?_) (fun _ => ?_)) <;> (conv => whnf)))
              refine (next_ok d hw w2.c.round ⟨hr2.1, hr2.2.1⟩).mono ?_
              rintro _ _ ⟨rfl, rfl⟩
              conv => whnf
              repeat' (first | ((with_reducible apply rd_intro); (focus (intro K hK; (conv => whnf); first | exact hK | (intro z hz; rw [wrapI (by omega)] at hz; subst hz; exact hK))); (conv => whnf)) | ((with_reducible apply gd_and); (focus ((conv => whnf) <;> first | rfl | (intro K hK; (conv => whnf); first | exact hK | (intro z hz; rw [wrapI (by omega)] at hz; subst hz; exact hK)))); (conv => whnf)) | ((with_reducible apply z_wrap); (focus omega); (conv => whnf)) | ((with_reducible refine mt_dec (fun _ => ?_) (fun _ => ?_)) <;> (conv => whnf)) | ((with_reducible refine mt_eq (fun _ => ?_) (fun _ => ?_)) <;> (conv => whnf)) | ((with_reducible refine mt_ne (fun _ => ?_) (fun _ => ?_)) <;> (conv => whnf)) | ((with_reducible refine mt_not (fun _ => ?_) (fun _ => ?_)) <;> (conv => whnf)) | ((with_reducible refine mt_any (fun _ => ?_) (fun _ => ?_)) <;> (conv => whnf)))
              exact ⟨(false, w2), rfl, rfl, hdn.1, hdn.2⟩
      · rename_i hpos
        have hfe : fin = w := Exists.elim h0.fin fun n hn => hn.2.trans (goF_end hpos n)
        ((with_reducible refine draw_pl ttOk zOk foOk mixedOk pl38x10 ?_ ?_); (focus kernel_rfl); (conv => whnf))
        repeat' (first | ((with_reducible apply rd_intro); (focus (intro K hK; (conv => whnf); first | exact hK | (intro z hz; rw [wrapI (by omega)] at hz; subst hz; exact hK))); (conv => whnf)) | ((with_reducible apply gd_and); (focus ((conv => whnf) <;> first | rfl | (intro K hK; (conv => whnf); first | exact hK | (intro z hz; rw [wrapI (by omega)] at hz; subst hz; exact hK)))); (conv => whnf)) | ((with_reducible apply z_wrap); (focus omega); (conv => whnf)) | ((with_reducible refine mt_dec (fun _ => ?_) (fun _ => ?_)) <;> (conv => whnf)) | ((with_reducible refine mt_eq (fun _ => ?_) (fun _ => ?_)) <;> (conv => whnf)) | ((with_reducible refine mt_ne (fun _ => ?_) (fun _ => ?_)) <;> (conv => whnf)) | ((with_reducible refine mt_not (fun _ => ?_) (fun _ => ?_)) <;> (conv => whnf)) | ((with_reducible refine mt_any (fun _ => ?_) (fun _ => ?_)) <;> (conv => whnf)))
        exact .inl ⟨by rw [hfe]; exact h0.first rfl, by rw [hfe], by rw [hfe]⟩
    | false =>
      conv => whnf
      repeat' (first | ((with_reducible apply rd_intro); (focus (intro K hK; (conv => whnf); first | exact hK | (intro z hz; rw [wrapI (by omega)] at hz; subst hz; exact hK))); (conv => whnf)) | ((with_reducible apply gd_and); (focus ((conv => whnf) <;> first | rfl | (intro K hK; (conv => whnf); first | exact hK | (intro z hz; rw [wrapI (by omega)] at hz; subst hz; exact hK)))); (conv => whnf)) | ((with_reducible apply z_wrap); (focus omega); (conv => whnf)) | ((with_reducible refine mt_dec (fun _ => ?_) (fun _ => ?_)) <;> (conv => whnf)) | ((with_reducible refine mt_eq (fun _ => ?_) (fun _ => ?_)) <;> (conv => whnf)) | ((with_reducible refine mt_ne (fun _ => ?_) (fun _ => ?_)) <;> (conv => whnf)) | ((with_reducible refine mt_not (fun _ => ?_) (fun _ => ?_)) <;> (conv => whnf)) | ((with_reducible refine mt_any (fun _ => ?_) (fun _ => ?_)) <;> (conv => whnf)))
      · rename_i hpos
        have hsp := nextC_spec hw h0.round.1 h0.round.2.2 hpos
        have htop := hw.top
        have hch := h0.chain hw hpos
        ((with_reducible refine draw_pl ttOk zOk foOk mixedOk pl38x5 ?_ ?_); (focus kernel_rfl); (conv => whnf))
        repeat' (first | ((with_reducible apply rd_intro); (focus (intro K hK; (conv => whnf); first | exact hK | (intro z hz; rw [wrapI (by omega)] at hz; subst hz; exact hK))); (conv => whnf)) | ((with_reducible apply gd_and); (focus ((conv => whnf) <;> first | rfl | (intro K hK; (conv => whnf); first | exact hK | (intro z hz; rw [wrapI (by omega)] at hz; subst hz; exact hK)))); (conv => whnf)) | ((with_reducible apply z_wrap); (focus omega); (conv => whnf)) | ((with_reducible refine mt_dec (fun _ => ?_) (fun _ => ?_)) <;> (conv => whnf)) | ((with_reducible refine mt_eq (fun _ => ?_) (fun _ => ?_)) <;> (conv => whnf)) | ((with_reducible refine mt_ne (fun _ => ?_) (fun _ => ?_)) <;> (conv => whnf)) | ((with_reducible refine mt_not (fun _ => ?_) (fun _ => ?_)) <;> (conv => whnf)) | ((with_reducible refine mt_any (fun _ => ?_) (fun _ => ?_)) <;> (conv => whnf)))
        refine (back_ok d hw w.c.round (nextC d w.c.round) h0.round.1 hsp.1 hsp.2.2.2.1 ⟨hsp.2.2.2.2.2, by have := hsp.2.1; omega⟩ hsp.2.2.2.2.1).mono ?_
        rintro _ _ ⟨rfl, rfl⟩
        obtain ⟨l, hl⟩ : ∃ l, backI d w.c.round (nextC d w.c.round) = l := ⟨_, rfl⟩
        rw [hl] at hch ⊢
        have hnl := nums_length l
        conv => whnf
        repeat' (first | ((with_reducible apply rd_intro); (focus (intro K hK; (conv => whnf); first | exact hK | (intro z hz; rw [wrapI (by omega)] at hz; subst hz; exact hK))); (conv => whnf)) | ((with_reducible apply gd_and); (focus ((conv => whnf) <;> first | rfl | (intro K hK; (conv => whnf); first | exact hK | (intro z hz; rw [wrapI (by omega)] at hz; subst hz; exact hK)))); (conv => whnf)) | ((with_reducible apply z_wrap); (focus omega); (conv => whnf)) | ((with_reducible refine mt_dec (fun _ => ?_) (fun _ => ?_)) <;> (conv => whnf)) | ((with_reducible refine mt_eq (fun _ => ?_) (fun _ => ?_)) <;> (conv => whnf)) | ((with_reducible refine mt_ne (fun _ => ?_) (fun _ => ?_)) <;> (conv => whnf)) | ((with_reducible refine mt_not (fun _ => ?_) (fun _ => ?_)) <;> (conv => whnf)) | ((with_reducible refine mt_any (fun _ => ?_) (fun _ => ?_)) <;> (conv => whnf)))
        refine loop_go ttOk zOk foOk (σ := Bool × Wk × Nat) (goIn d c.done l) (fun s => goInI d c.done w l s.1 s.2.1 s.2.2) (fun s => l.length - s.2.2) [2, 4, 6, 37, 38, 39] ?_ ?_
        · conv => whnf
          exact ⟨(false, w, 0), by rw [hnl]; rfl, rfl, goInI.start hw hch h0.okay h0.first⟩
        · rintro ⟨b2, w2, j⟩ hin1
          have hin : goInI d c.done w l b2 w2 j := hin1
          clear hin1
          cases b2 with
          | true =>
            conv => whnf
            repeat' (first | ((with_reducible apply rd_intro); (focus (intro K hK; (conv => whnf); first | exact hK | (intro z hz; rw [wrapI (by omega)] at hz; subst hz; exact hK))); (conv => whnf)) | ((with_reducible apply gd_and); (focus ((conv => whnf) <;> first | rfl | (intro K hK; (conv => whnf); first | exact hK | (intro z hz; rw [wrapI (by omega)] at hz; subst hz; exact hK)))); (conv => whnf)) | ((with_reducible apply z_wrap); (focus omega); (conv => whnf)) | ((with_reducible refine mt_dec (fun _ => ?_) (fun _ => ?_)) <;> (conv => whnf)) | ((with_reducible refine mt_eq (fun _ => ?_) (fun _ => ?_)) <;> (conv => whnf)) | ((with_reducible refine mt_ne (fun _ => ?_) (fun _ => ?_)) <;> (conv => whnf)) | ((with_reducible refine mt_not (fun _ => ?_) (fun _ => ?_)) <;> (conv => whnf)) | ((with_reducible refine mt_any (fun _ => ?_) (fun _ => ?_)) <;> (conv => whnf)))
            · rename_i hjl
              have hjn : j < l.length := Int.ofNat_lt.1 hjl
              refine Exists.elim (hch.at hw hjn) fun x hx => Exists.elim hx fun i hx => Exists.elim hx fun c2 hx => ?_
              have hlen := hch.len hw
              have hlen2 := hw.len
              have hst := hin.step hw hch hjn hx.1 hx.2.1 hx.2.2.1 hx.2.2.2
              refine ⟨Int.natCast_nonneg _, by rw [Int.toNat_natCast, hnl]; exact hjn, ?_⟩
              conv => whnf
              refine ⟨_, by rw [Int.toNat_natCast]; exact nums_at hx.1, ?_⟩
              conv => whnf
              repeat' (first | ((with_reducible apply rd_intro); (focus (intro K hK; (conv => whnf); first | exact hK | (intro z hz; rw [wrapI (by omega)] at hz; subst hz; exact hK))); (conv => whnf)) | ((with_reducible apply gd_and); (focus ((conv => whnf) <;> first | rfl | (intro K hK; (conv => whnf); first | exact hK | (intro z hz; rw [wrapI (by omega)] at hz; subst hz; exact hK)))); (conv => whnf)) | ((with_reducible apply z_wrap); (focus omega); (conv => whnf)) | ((with_reducible refine mt_dec (fun _ => ?_) (fun _ => ?_)) <;> (conv => whnf)) | ((with_reducible refine mt_eq (fun _ => ?_) (fun _ => ?_)) <;> (conv => whnf)) | ((with_reducible refine mt_ne (fun _ => ?_) (fun _ => ?_)) <;> (conv => whnf)) | ((with_reducible refine mt_not (fun _ => ?_) (fun _ => ?_)) <;> (conv => whnf)) | ((with_reducible refine mt_any (fun _ => ?_) (fun _ => ?_)) <;> (conv => whnf)))
              refine (put_ok d hw w2 x hx.2.1 hx.2.2.1 hin.okay.fine.rising hin.okay.fine.few (hin.okay.outs' hw) hin.okay.fine.count).mono ?_
              rintro _ _ ⟨rfl, rfl⟩
              conv => whnf
              repeat' (first | ((with_reducible apply rd_intro); (focus (intro K hK; (conv => whnf); first | exact hK | (intro z hz; rw [wrapI (by omega)] at hz; subst hz; exact hK))); (conv => whnf)) | ((with_reducible apply gd_and); (focus ((conv => whnf) <;> first | rfl | (intro K hK; (conv => whnf); first | exact hK | (intro z hz; rw [wrapI (by omega)] at hz; subst hz; exact hK)))); (conv => whnf)) | ((with_reducible apply z_wrap); (focus omega); (conv => whnf)) | ((with_reducible refine mt_dec (fun _ => ?_) (fun _ => ?_)) <;> (conv => whnf)) | ((with_reducible refine mt_eq (fun _ => ?_) (fun _ => ?_)) <;> (conv => whnf)) | ((with_reducible refine mt_ne (fun _ => ?_) (fun _ => ?_)) <;> (conv => whnf)) | ((with_reducible refine mt_not (fun _ => ?_) (fun _ => ?_)) <;> (conv => whnf)) | ((with_reducible refine mt_any (fun _ => ?_) (fun _ => ?_)) <;> (conv => whnf)))
              exact ⟨(false, w2.put d i c2, j + 1), rfl, by rw [goIn, ← hin.first rfl]; rfl, hst, by show l.length - (j + 1) < l.length - j; omega⟩
            · rename_i hjl
              have hdn := hin.done hw hch hpos h0.round.1 h0.round.2.2 (fin := fin) hjl hl h0.fin
              have hr2 := hdn.1.round
              ((with_reducible refine draw_pl ttOk zOk foOk mixedOk pl38x4 ?_ ?_); (focus kernel_rfl); (conv => whnf))
              repeat' (first | ((with_reducible apply rd_intro); (focus (intro K hK; (conv => whnf); first | exact hK | (intro z hz; rw [wrapI (by omega)] at hz; subst hz; exact hK))); (conv => whnf)) | ((with_reducible apply gd_and); (focus ((conv => whnf) <;> first | rfl | (intro K hK; (conv => whnf); first | exact hK | (intro z hz; rw [wrapI (by omega)] at hz; subst hz; exact hK)))); (conv => whnf)) | ((with_reducible apply z_wrap); (focus omega); (conv => whnf)) | ((with_reducible refine mt_dec (fun _ => ?_) (fun _ => ?_)) <;> (conv => whnf)) | ((with_reducible refine mt_eq (fun _ => ?_) (fun _ => ?_)) <;> (conv => whnf)) | ((with_reducible refine mt_ne (fun _ => ?_) (fun _ => ?_)) <;> (conv => whnf)) | ((with_reducible refine mt_not (fun _ => ?_) (fun _ => ?_)) <;> (conv => whnf)) | ((with_reducible refine mt_any (fun _ => ?_) (fun _ => ?_)) <;> (conv => whnf)))
              refine (next_ok d hw w2.c.round ⟨hr2.1, hr2.2.1⟩).mono ?_
              rintro _ _ ⟨rfl, rfl⟩
              conv => whnf
              repeat' (first | ((with_reducible apply rd_intro); (focus (intro K hK; (conv => whnf); first | exact hK | (intro z hz; rw [wrapI (by omega)] at hz; subst hz; exact hK))); (conv => whnf)) | ((with_reducible apply gd_and); (focus ((conv => whnf) <;> first | rfl | (intro K hK; (conv => whnf); first | exact hK | (intro z hz; rw [wrapI (by omega)] at hz; subst hz; exact hK)))); (conv => whnf)) | ((with_reducible apply z_wrap); (focus omega); (conv => whnf)) | ((with_reducible refine mt_dec (fun _ => ?_) (fun _ => ?_)) <;> (conv => whnf)) | ((with_reducible refine mt_eq (fun _ => ?_) (fun _ => ?_)) <;> (conv => whnf)) | ((with_reducible refine mt_ne (fun _ => ?_) (fun _ => ?_)) <;> (conv => whnf)) | ((with_reducible refine mt_not (fun _ => ?_) (fun _ => ?_)) <;> (conv => whnf)) | ((with_reducible refine mt_any (fun _ => ?_) (fun _ => ?_)) <;> (conv => whnf)))
              exact ⟨(true, w2), rfl, rfl, hdn.1, hdn.2⟩
          | false =>
            conv => whnf
            repeat' (first | ((with_reducible apply rd_intro); (focus (intro K hK; (conv => whnf); first | exact hK | (intro z hz; rw [wrapI (by omega)] at hz; subst hz; exact hK))); (conv => whnf)) | ((with_reducible apply gd_and); (focus ((conv => whnf) <;> first | rfl | (intro K hK; (conv => whnf); first | exact hK | (intro z hz; rw [wrapI (by omega)] at hz; subst hz; exact hK)))); (conv => whnf)) | ((with_reducible apply z_wrap); (focus omega); (conv => whnf)) | ((with_reducible refine mt_dec (fun _ => ?_) (fun _ => ?_)) <;> (conv => whnf)) | ((with_reducible refine mt_eq (fun _ => ?_) (fun _ => ?_)) <;> (conv => whnf)) | ((with_reducible refine mt_ne (fun _ => ?_) (fun _ => ?_)) <;> (conv => whnf)) | ((with_reducible refine mt_not (fun _ => ?_) (fun _ => ?_)) <;> (conv => whnf)) | ((with_reducible refine mt_any (fun _ => ?_) (fun _ => ?_)) <;> (conv => whnf)))
            · rename_i hjl
              have hjn : j < l.length := Int.ofNat_lt.1 hjl
              refine Exists.elim (hch.at hw hjn) fun x hx => Exists.elim hx fun i hx => Exists.elim hx fun c2 hx => ?_
              have hlen := hch.len hw
              have hlen2 := hw.len
              have hst := hin.step hw hch hjn hx.1 hx.2.1 hx.2.2.1 hx.2.2.2
              refine ⟨Int.natCast_nonneg _, by rw [Int.toNat_natCast, hnl]; exact hjn, ?_⟩
              conv => whnf
              refine ⟨_, by rw [Int.toNat_natCast]; exact nums_at hx.1, ?_⟩
              conv => whnf
              repeat' (first | ((with_reducible apply rd_intro); (focus (intro K hK; (conv => whnf); first | exact hK | (intro z hz; rw [wrapI (by omega)] at hz; subst hz; exact hK))); (conv => whnf)) | ((with_reducible apply gd_and); (focus ((conv => whnf) <;> first | rfl | (intro K hK; (conv => whnf); first | exact hK | (intro z hz; rw [wrapI (by omega)] at hz; subst hz; exact hK)))); (conv => whnf)) | ((with_reducible apply z_wrap); (focus omega); (conv => whnf)) | ((with_reducible refine mt_dec (fun _ => ?_) (fun _ => ?_)) <;> (conv => whnf)) | ((with_reducible refine mt_eq (fun _ => ?_) (fun _ => ?_)) <;> (conv => whnf)) | ((with_reducible refine mt_ne (fun _ => ?_) (fun _ => ?_)) <;> (conv => whnf)) | ((with_reducible refine mt_not (fun _ => ?_) (fun _ => ?_)) <;> (conv => whnf)) | ((with_reducible refine mt_any (fun _ => ?_) (fun _ => ?_)) <;> (conv => whnf)))
              refine (put_ok d hw w2 x hx.2.1 hx.2.2.1 hin.okay.fine.rising hin.okay.fine.few (hin.okay.outs' hw) hin.okay.fine.count).mono ?_
              rintro _ _ ⟨rfl, rfl⟩
              conv => whnf
              repeat' (first | ((with_reducible apply rd_intro); (focus (intro K hK; (conv => whnf); first | exact hK | (intro z hz; rw [wrapI (by omega)] at hz; subst hz; exact hK))); (conv => whnf)) | ((with_reducible apply gd_and); (focus ((conv => whnf) <;> first | rfl | (intro K hK; (conv => whnf); first | exact hK | (intro z hz; rw [wrapI (by omega)] at hz; subst hz; exact hK)))); (conv => whnf)) | ((with_reducible apply z_wrap); (focus omega); (conv => whnf)) | ((with_reducible refine mt_dec (fun _ => ?_) (fun _ => ?_)) <;> (conv => whnf)) | ((with_reducible refine mt_eq (fun _ => ?_) (fun _ => ?_)) <;> (conv => whnf)) | ((with_reducible refine mt_ne (fun _ => ?_) (fun _ => ?_)) <;> (conv => whnf)) | ((with_reducible refine mt_not (fun _ => ?_) (fun _ => ?_)) <;> (conv => whnf)) | ((with_reducible refine mt_any (fun _ => ?_) (fun _ => ?_)) <;> (conv => whnf)))
              exact ⟨(false, w2.put d i c2, j + 1), rfl, rfl, hst, by show l.length - (j + 1) < l.length - j; omega⟩
            · rename_i hjl
              have hdn := hin.done hw hch hpos h0.round.1 h0.round.2.2 (fin := fin) hjl hl h0.fin
              have hr2 := hdn.1.round
              ((with_reducible refine draw_pl ttOk zOk foOk mixedOk pl38x4 ?_ ?_); (focus kernel_rfl); (conv => whnf))
              repeat' (first | ((with_reducible apply rd_intro); (focus (intro K hK; (conv => whnf); first | exact hK | (intro z hz; rw [wrapI (by omega)] at hz; subst hz; exact hK))); (conv => whnf)) | ((with_reducible apply gd_and); (focus ((conv => whnf) <;> first | rfl | (intro K hK; (conv => whnf); first | exact hK | (intro z hz; rw [wrapI (by omega)] at hz; subst hz; exact hK)))); (conv => whnf)) | ((with_reducible apply z_wrap); (focus omega); (conv => whnf)) | ((with_reducible refine mt_dec (fun _ => ?_) (fun _ => ?_)) <;> (conv => whnf)) | ((with_reducible refine mt_eq (fun _ => ?_) (fun _ => ?_)) <;> (conv => whnf)) | ((with_reducible refine mt_ne (fun _ => ?_) (fun _ => ?_)) <;> (conv => whnf)) | ((with_reducible refine mt_not (fun _ => ?_) (fun _ => ?_)) <;> (conv => whnf)) | ((with_reducible refine mt_any (fun _ => ?_) (fun _ => ?_)) <;> (conv => whnf)))
              refine (next_ok d hw w2.c.round ⟨hr2.1, hr2.2.1⟩).mono ?_
              rintro _ _ ⟨rfl, rfl⟩
              conv => whnf
              repeat' (first | ((with_reducible apply rd_intro); (focus (intro K hK; (conv => whnf); first | exact hK | (intro z hz; rw [wrapI (by omega)] at hz; subst hz; exact hK))); (conv => whnf)) | ((with_reducible apply gd_and); (focus ((conv => whnf) <;> first | rfl | (intro K hK; (conv => whnf); first | exact hK | (intro z hz; rw [wrapI (by omega)] at hz; subst hz; exact hK)))); (conv => whnf)) | ((with_reducible apply z_wrap); (focus omega); (conv => whnf)) | ((with_reducible refine mt_dec (fun _ => ?_) (fun _ => ?_)) <;> (conv => whnf)) | ((with_reducible refine mt_eq (fun _ => ?_) (fun _ => ?_)) <;> (conv => whnf)) | ((with_reducible refine mt_ne (fun _ => ?_) (fun _ => ?_)) <;> (conv => whnf)) | ((with_reducible refine mt_not (fun _ => ?_) (fun _ => ?_)) <;> (conv => whnf)) | ((with_reducible refine mt_any (fun _ => ?_) (fun _ => ?_)) <;> (conv => whnf)))
              exact ⟨(false, w2), rfl, rfl, hdn.1, hdn.2⟩
      · rename_i hpos
        have hfe : fin = w := Exists.elim h0.fin fun n hn => hn.2.trans (goF_end hpos n)
        ((with_reducible refine draw_pl ttOk zOk foOk mixedOk pl38x10 ?_ ?_); (focus kernel_rfl); (conv => whnf))
        repeat' (first | ((with_reducible apply rd_intro); (focus (intro K hK; (conv => whnf); first | exact hK | (intro z hz; rw [wrapI (by omega)] at hz; subst hz; exact hK))); (conv => whnf)) | ((with_reducible apply gd_and); (focus ((conv => whnf) <;> first | rfl | (intro K hK; (conv => whnf); first | exact hK | (intro z hz; rw [wrapI (by omega)] at hz; subst hz; exact hK)))); (conv => whnf)) | ((with_reducible apply z_wrap); (focus omega); (conv => whnf)) | ((with_reducible refine mt_dec (fun _ => ?_) (fun _ => ?_)) <;> (conv => whnf)) | ((with_reducible refine mt_eq (fun _ => ?_) (fun _ => ?_)) <;> (conv => whnf)) | ((with_reducible refine mt_ne (fun _ => ?_) (fun _ => ?_)) <;> (conv => whnf)) | ((with_reducible refine mt_not (fun _ => ?_) (fun _ => ?_)) <;> (conv => whnf)) | ((with_reducible refine mt_any (fun _ => ?_) (fun _ => ?_)) <;> (conv => whnf)))
        exact .inr ⟨by rw [hfe], by rw [hfe]⟩
end Go.Proofs.Ytoeppembokpjkaa

namespace Go.Proofs.Ytoeppembokpjkaa
open Go.Ab Go.RowKit Go.MapKept
attribute [local irreducible] ACalls AW ADraw Into fltB fnear
set_option maxRecDepth 100000
structure curMay (c : Cursor) : Prop where
  round : 0 ≤ c.round ∧ c.round ≤ 1099511627776 ∧ c.round % 2 = 0
  done : riseB c.done 1 65536
  count : 0 ≤ c.count ∧ c.count ≤ 1099511627776
theorem rise_len2 {l : List Int} (h : riseB l 1 65536) : l.length ≤ 65536 := by
  have := sub_len (m := (List.range 65536).map fun n : Nat => (n : Int) + 1) (rising_nodup h.1) fun x hx => by
    have := h.2 x hx
    exact List.mem_map.2 ⟨(x - 1).toNat, by simp; omega, by omega⟩
  simpa using this
theorem digests_true (l : List Int) (h : riseB l 1 65536) : ACalls Try.prog 59 [.d (.sl 1 (nums l))] [] (fun av L => av = .d (.bool true) ∧ L = []) := by
  refine (digests_ok l (by have := rise_len2 h; unfold few; omega)).mono ?_
  rintro _ _ ⟨rfl, rfl⟩
  exact ⟨by rw [@decide_eq_true _ (Classical.propDecidable _) h], rfl⟩
/-- how a cursor's list comes -/
def isDone (dn : DV) (done : List Int) : Prop := (dn = .nils ∧ done = []) ∨ dn = .sl 1 (nums done)
theorem curMay_ok (c : Cursor) (dn : DV) (hdn : isDone dn c.done) (h : curMay c) : ACalls Try.prog 36 [.agg [.d (.int .i64 c.round), .d dn, .d (.int .i64 c.count)]] [] (fun av L => av = .d (.bool true) ∧ L = []) := by
  have hr := h.round
  have hct := h.count
  have hdt := digests_true c.done h.done
  rcases hdn with ⟨rfl, hd⟩ | rfl
  · rw [hd] at hdt
    refine acalls_go ttOk zOk foOk Try.func36 rfl Try.ntmps36 rfl false rfl ?_
    conv => whnf
    repeat' (first | ((with_reducible apply z_wrap); (focus omega); (conv => whnf)) | ((with_reducible refine mt_dec (fun _ => ?_) (fun _ => ?_)) <;> (conv => whnf)) | ((with_reducible refine mt_eq (fun _ => ?_) (fun _ => ?_)) <;> (conv => whnf)) | ((with_reducible refine mt_ne (fun _ => ?_) (fun _ => ?_)) <;> (conv => whnf)) | ((with_reducible refine mt_not (fun _ => ?_) (fun _ => ?_)) <;> (conv => whnf)) | ((with_reducible refine mt_any (fun _ => ?_) (fun _ => ?_)) <;> (conv => whnf)))
    · refine ⟨by decide, ?_⟩
      intro z hz
      have hz2 : z = c.round % 2 := tmod_pos (by omega) hz
      clear hz
      subst hz2
      conv => whnf
      repeat' (first | ((with_reducible apply z_wrap); (focus omega); (conv => whnf)) | ((with_reducible refine mt_dec (fun _ => ?_) (fun _ => ?_)) <;> (conv => whnf)) | ((with_reducible refine mt_eq (fun _ => ?_) (fun _ => ?_)) <;> (conv => whnf)) | ((with_reducible refine mt_ne (fun _ => ?_) (fun _ => ?_)) <;> (conv => whnf)) | ((with_reducible refine mt_not (fun _ => ?_) (fun _ => ?_)) <;> (conv => whnf)) | ((with_reducible refine mt_any (fun _ => ?_) (fun _ => ?_)) <;> (conv => whnf)))
      · refine hdt.mono ?_
        rintro _ _ ⟨rfl, rfl⟩
        conv => whnf
        repeat' (first | ((with_reducible apply z_wrap); (focus omega); (conv => whnf)) | ((with_reducible refine mt_dec (fun _ => ?_) (fun _ => ?_)) <;> (conv => whnf)) | ((with_reducible refine mt_eq (fun _ => ?_) (fun _ => ?_)) <;> (conv => whnf)) | ((with_reducible refine mt_ne (fun _ => ?_) (fun _ => ?_)) <;> (conv => whnf)) | ((with_reducible refine mt_not (fun _ => ?_) (fun _ => ?_)) <;> (conv => whnf)) | ((with_reducible refine mt_any (fun _ => ?_) (fun _ => ?_)) <;> (conv => whnf)))
        · exact ⟨boolEq (by simp; omega), rfl⟩
        · rename_i h; exact absurd hct.1 h
      · rename_i h; exact absurd hr.2.2 h
    · rename_i h1 h2; exact absurd hr.2.1 h2
    · rename_i h1; exact absurd hr.1 h1
  · refine acalls_go ttOk zOk foOk Try.func36 rfl Try.ntmps36 rfl false rfl ?_
    conv => whnf
    repeat' (first | ((with_reducible apply z_wrap); (focus omega); (conv => whnf)) | ((with_reducible refine mt_dec (fun _ => ?_) (fun _ => ?_)) <;> (conv => whnf)) | ((with_reducible refine mt_eq (fun _ => ?_) (fun _ => ?_)) <;> (conv => whnf)) | ((with_reducible refine mt_ne (fun _ => ?_) (fun _ => ?_)) <;> (conv => whnf)) | ((with_reducible refine mt_not (fun _ => ?_) (fun _ => ?_)) <;> (conv => whnf)) | ((with_reducible refine mt_any (fun _ => ?_) (fun _ => ?_)) <;> (conv => whnf)))
    · refine ⟨by decide, ?_⟩
      intro z hz
      have hz2 : z = c.round % 2 := tmod_pos (by omega) hz
      clear hz
      subst hz2
      conv => whnf
      repeat' (first | ((with_reducible apply z_wrap); (focus omega); (conv => whnf)) | ((with_reducible refine mt_dec (fun _ => ?_) (fun _ => ?_)) <;> (conv => whnf)) | ((with_reducible refine mt_eq (fun _ => ?_) (fun _ => ?_)) <;> (conv => whnf)) | ((with_reducible refine mt_ne (fun _ => ?_) (fun _ => ?_)) <;> (conv => whnf)) | ((with_reducible refine mt_not (fun _ => ?_) (fun _ => ?_)) <;> (conv => whnf)) | ((with_reducible refine mt_any (fun _ => ?_) (fun _ => ?_)) <;> (conv => whnf)))
      · refine hdt.mono ?_
        rintro _ _ ⟨rfl, rfl⟩
        conv => whnf
        repeat' (first | ((with_reducible apply z_wrap); (focus omega); (conv => whnf)) | ((with_reducible refine mt_dec (fun _ => ?_) (fun _ => ?_)) <;> (conv => whnf)) | ((with_reducible refine mt_eq (fun _ => ?_) (fun _ => ?_)) <;> (conv => whnf)) | ((with_reducible refine mt_ne (fun _ => ?_) (fun _ => ?_)) <;> (conv => whnf)) | ((with_reducible refine mt_not (fun _ => ?_) (fun _ => ?_)) <;> (conv => whnf)) | ((with_reducible refine mt_any (fun _ => ?_) (fun _ => ?_)) <;> (conv => whnf)))
        · exact ⟨boolEq (by simp; omega), rfl⟩
        · rename_i h; exact absurd hct.1 h
      · rename_i h; exact absurd hr.2.2 h
    · rename_i h1 h2; exact absurd hr.2.1 h2
    · rename_i h1; exact absurd hr.1 h1
/-- how far a cursor goes, and what is put out -/
def finW (d : Dag) (c : Cursor) : Wk := Wk.goF d (topR d.certs).toNat ⟨c, []⟩
theorem start_okay {d : Dag} {c : Cursor} (h : curMay c) : (Wk.mk c []).okay d := ⟨⟨h.done.1, rise_len2 h.done, h.count⟩, Nat.zero_le _⟩
def old (d : Dag) (c : Cursor) : Prop := d.low > 0 ∧ d.low > c.round - 8
def zCurAV : AV := .agg [.d (.int .i64 0), .d .nils, .d (.int .i64 0)]
/-- what a step hands back -/
def Wk.res (w : Wk) : AV := .tup [.agg [.d (.int .i64 w.c.round), .arr 0, .d (.int .i64 w.c.count)], .d (.sl 1 (nums w.outs)), .d (.int .i64 0)]
set_option maxHeartbeats 1000000 in
theorem step_ok (d : Dag) (hw : d.well) (hmay : ACalls Try.prog 35 [d.av] [] (fun av L => av = .d (.bool true) ∧ L = [])) (c : Cursor) (dn : DV) (hdn : isDone dn c.done) (h : curMay c) :
    ACalls Try.prog 12 [d.av, .agg [.d (.int .i64 c.round), .d dn, .d (.int .i64 c.count)]] [] (fun av L => (old d c ∧ av = .tup [zCurAV, .d (.sl 1 []), .d (.int .i64 6)] ∧ L = []) ∨ (¬ old d c ∧ av = (finW d c).res ∧ L = [.row 3 1 (nums (finW d c).c.done) false])) := by
  have hcm := curMay_ok c dn hdn h
  have hfew := rise_len2 h.done
  have hcl := clone_ok c.done (by omega)
  have hr := h.round
  have hgo := go_ok d hw c ⟨hr.1, hr.2.1⟩ hr.2.2 (start_okay h) (finW d c) rfl
  obtain ⟨fw, hfw⟩ : ∃ fw, finW d c = fw := ⟨_, rfl⟩
  rw [hfw] at hgo ⊢
  have hlow := hw.low
  rcases hdn with ⟨rfl, hd⟩ | rfl
  · rw [hd] at hcl hgo
    refine acalls_go ttOk zOk foOk Try.func12 rfl Try.ntmps12 rfl false rfl ?_
    conv => whnf
    refine hmay.mono ?_
    rintro _ _ ⟨rfl, rfl⟩
    conv => whnf
    repeat' (first | ((with_reducible apply z_wrap); (focus omega); (conv => whnf)) | ((with_reducible refine mt_dec (fun _ => ?_) (fun _ => ?_)) <;> (conv => whnf)) | ((with_reducible refine mt_eq (fun _ => ?_) (fun _ => ?_)) <;> (conv => whnf)) | ((with_reducible refine mt_ne (fun _ => ?_) (fun _ => ?_)) <;> (conv => whnf)) | ((with_reducible refine mt_not (fun _ => ?_) (fun _ => ?_)) <;> (conv => whnf)) | ((with_reducible refine mt_any (fun _ => ?_) (fun _ => ?_)) <;> (conv => whnf)))
    refine hcm.mono ?_
    rintro _ _ ⟨rfl, rfl⟩
    conv => whnf
    repeat' (first | ((with_reducible apply z_wrap); (focus omega); (conv => whnf)) | ((with_reducible refine mt_dec (fun _ => ?_) (fun _ => ?_)) <;> (conv => whnf)) | ((with_reducible refine mt_eq (fun _ => ?_) (fun _ => ?_)) <;> (conv => whnf)) | ((with_reducible refine mt_ne (fun _ => ?_) (fun _ => ?_)) <;> (conv => whnf)) | ((with_reducible refine mt_not (fun _ => ?_) (fun _ => ?_)) <;> (conv => whnf)) | ((with_reducible refine mt_any (fun _ => ?_) (fun _ => ?_)) <;> (conv => whnf)))
    · rename_i h1 h2
      exact .inl ⟨⟨h1, h2⟩, rfl, rfl⟩
    · rename_i h1 h2
      have hno : ¬ old d c := fun h => h2 h.2
      refine hcl.mono ?_
      rintro _ _ ⟨rfl, rfl⟩
      conv => whnf
      repeat' (first | ((with_reducible apply z_wrap); (focus omega); (conv => whnf)) | ((with_reducible refine mt_dec (fun _ => ?_) (fun _ => ?_)) <;> (conv => whnf)) | ((with_reducible refine mt_eq (fun _ => ?_) (fun _ => ?_)) <;> (conv => whnf)) | ((with_reducible refine mt_ne (fun _ => ?_) (fun _ => ?_)) <;> (conv => whnf)) | ((with_reducible refine mt_not (fun _ => ?_) (fun _ => ?_)) <;> (conv => whnf)) | ((with_reducible refine mt_any (fun _ => ?_) (fun _ => ?_)) <;> (conv => whnf)))
      refine hgo.mono ?_
      rintro _ _ (⟨hfd, rfl, rfl⟩ | ⟨rfl, rfl⟩)
      · conv => whnf
        repeat' (first | ((with_reducible apply z_wrap); (focus omega); (conv => whnf)) | ((with_reducible refine mt_dec (fun _ => ?_) (fun _ => ?_)) <;> (conv => whnf)) | ((with_reducible refine mt_eq (fun _ => ?_) (fun _ => ?_)) <;> (conv => whnf)) | ((with_reducible refine mt_ne (fun _ => ?_) (fun _ => ?_)) <;> (conv => whnf)) | ((with_reducible refine mt_not (fun _ => ?_) (fun _ => ?_)) <;> (conv => whnf)) | ((with_reducible refine mt_any (fun _ => ?_) (fun _ => ?_)) <;> (conv => whnf)))
        exact .inr ⟨hno, rfl, rfl⟩
      · conv => whnf
        repeat' (first | ((with_reducible apply z_wrap); (focus omega); (conv => whnf)) | ((with_reducible refine mt_dec (fun _ => ?_) (fun _ => ?_)) <;> (conv => whnf)) | ((with_reducible refine mt_eq (fun _ => ?_) (fun _ => ?_)) <;> (conv => whnf)) | ((with_reducible refine mt_ne (fun _ => ?_) (fun _ => ?_)) <;> (conv => whnf)) | ((with_reducible refine mt_not (fun _ => ?_) (fun _ => ?_)) <;> (conv => whnf)) | ((with_reducible refine mt_any (fun _ => ?_) (fun _ => ?_)) <;> (conv => whnf)))
        exact .inr ⟨hno, rfl, rfl⟩
    · rename_i h1
      have hno : ¬ old d c := fun h => h1 h.1
      refine hcl.mono ?_
      rintro _ _ ⟨rfl, rfl⟩
      conv => whnf
      repeat' (first | ((with_reducible apply z_wrap); (focus omega); (conv => whnf)) | ((with_reducible refine mt_dec (fun _ => ?_) (fun _ => ?_)) <;> (conv => whnf)) | ((with_reducible refine mt_eq (fun _ => ?_) (fun _ => ?_)) <;> (conv => whnf)) | ((with_reducible refine mt_ne (fun _ => ?_) (fun _ => ?_)) <;> (conv => whnf)) | ((with_reducible refine mt_not (fun _ => ?_) (fun _ => ?_)) <;> (conv => whnf)) | ((with_reducible refine mt_any (fun _ => ?_) (fun _ => ?_)) <;> (conv => whnf)))
      refine hgo.mono ?_
      rintro _ _ (⟨hfd, rfl, rfl⟩ | ⟨rfl, rfl⟩)
      · conv => whnf
        repeat' (first | ((with_reducible apply z_wrap); (focus omega); (conv => whnf)) | ((with_reducible refine mt_dec (fun _ => ?_) (fun _ => ?_)) <;> (conv => whnf)) | ((with_reducible refine mt_eq (fun _ => ?_) (fun _ => ?_)) <;> (conv => whnf)) | ((with_reducible refine mt_ne (fun _ => ?_) (fun _ => ?_)) <;> (conv => whnf)) | ((with_reducible refine mt_not (fun _ => ?_) (fun _ => ?_)) <;> (conv => whnf)) | ((with_reducible refine mt_any (fun _ => ?_) (fun _ => ?_)) <;> (conv => whnf)))
        exact .inr ⟨hno, rfl, rfl⟩
      · conv => whnf
        repeat' (first | ((with_reducible apply z_wrap); (focus omega); (conv => whnf)) | ((with_reducible refine mt_dec (fun _ => ?_) (fun _ => ?_)) <;> (conv => whnf)) | ((with_reducible refine mt_eq (fun _ => ?_) (fun _ => ?_)) <;> (conv => whnf)) | ((with_reducible refine mt_ne (fun _ => ?_) (fun _ => ?_)) <;> (conv => whnf)) | ((with_reducible refine mt_not (fun _ => ?_) (fun _ => ?_)) <;> (conv => whnf)) | ((with_reducible refine mt_any (fun _ => ?_) (fun _ => ?_)) <;> (conv => whnf)))
        exact .inr ⟨hno, rfl, rfl⟩
  · refine acalls_go ttOk zOk foOk Try.func12 rfl Try.ntmps12 rfl false rfl ?_
    conv => whnf
    refine hmay.mono ?_
    rintro _ _ ⟨rfl, rfl⟩
    conv => whnf
    repeat' (first | ((with_reducible apply z_wrap); (focus omega); (conv => whnf)) | ((with_reducible refine mt_dec (fun _ => ?_) (fun _ => ?_)) <;> (conv => whnf)) | ((with_reducible refine mt_eq (fun _ => ?_) (fun _ => ?_)) <;> (conv => whnf)) | ((with_reducible refine mt_ne (fun _ => ?_) (fun _ => ?_)) <;> (conv => whnf)) | ((with_reducible refine mt_not (fun _ => ?_) (fun _ => ?_)) <;> (conv => whnf)) | ((with_reducible refine mt_any (fun _ => ?_) (fun _ => ?_)) <;> (conv => whnf)))
    refine hcm.mono ?_
    rintro _ _ ⟨rfl, rfl⟩
    conv => whnf
    repeat' (first | ((with_reducible apply z_wrap); (focus omega); (conv => whnf)) | ((with_reducible refine mt_dec (fun _ => ?_) (fun _ => ?_)) <;> (conv => whnf)) | ((with_reducible refine mt_eq (fun _ => ?_) (fun _ => ?_)) <;> (conv => whnf)) | ((with_reducible refine mt_ne (fun _ => ?_) (fun _ => ?_)) <;> (conv => whnf)) | ((with_reducible refine mt_not (fun _ => ?_) (fun _ => ?_)) <;> (conv => whnf)) | ((with_reducible refine mt_any (fun _ => ?_) (fun _ => ?_)) <;> (conv => whnf)))
    · rename_i h1 h2
      exact .inl ⟨⟨h1, h2⟩, rfl, rfl⟩
    · rename_i h1 h2
      have hno : ¬ old d c := fun h => h2 h.2
      refine hcl.mono ?_
      rintro _ _ ⟨rfl, rfl⟩
      conv => whnf
      repeat' (first | ((with_reducible apply z_wrap); (focus omega); (conv => whnf)) | ((with_reducible refine mt_dec (fun _ => ?_) (fun _ => ?_)) <;> (conv => whnf)) | ((with_reducible refine mt_eq (fun _ => ?_) (fun _ => ?_)) <;> (conv => whnf)) | ((with_reducible refine mt_ne (fun _ => ?_) (fun _ => ?_)) <;> (conv => whnf)) | ((with_reducible refine mt_not (fun _ => ?_) (fun _ => ?_)) <;> (conv => whnf)) | ((with_reducible refine mt_any (fun _ => ?_) (fun _ => ?_)) <;> (conv => whnf)))
      refine hgo.mono ?_
      rintro _ _ (⟨hfd, rfl, rfl⟩ | ⟨rfl, rfl⟩)
      · conv => whnf
        repeat' (first | ((with_reducible apply z_wrap); (focus omega); (conv => whnf)) | ((with_reducible refine mt_dec (fun _ => ?_) (fun _ => ?_)) <;> (conv => whnf)) | ((with_reducible refine mt_eq (fun _ => ?_) (fun _ => ?_)) <;> (conv => whnf)) | ((with_reducible refine mt_ne (fun _ => ?_) (fun _ => ?_)) <;> (conv => whnf)) | ((with_reducible refine mt_not (fun _ => ?_) (fun _ => ?_)) <;> (conv => whnf)) | ((with_reducible refine mt_any (fun _ => ?_) (fun _ => ?_)) <;> (conv => whnf)))
        exact .inr ⟨hno, rfl, rfl⟩
      · conv => whnf
        repeat' (first | ((with_reducible apply z_wrap); (focus omega); (conv => whnf)) | ((with_reducible refine mt_dec (fun _ => ?_) (fun _ => ?_)) <;> (conv => whnf)) | ((with_reducible refine mt_eq (fun _ => ?_) (fun _ => ?_)) <;> (conv => whnf)) | ((with_reducible refine mt_ne (fun _ => ?_) (fun _ => ?_)) <;> (conv => whnf)) | ((with_reducible refine mt_not (fun _ => ?_) (fun _ => ?_)) <;> (conv => whnf)) | ((with_reducible refine mt_any (fun _ => ?_) (fun _ => ?_)) <;> (conv => whnf)))
        exact .inr ⟨hno, rfl, rfl⟩
    · rename_i h1
      have hno : ¬ old d c := fun h => h1 h.1
      refine hcl.mono ?_
      rintro _ _ ⟨rfl, rfl⟩
      conv => whnf
      repeat' (first | ((with_reducible apply z_wrap); (focus omega); (conv => whnf)) | ((with_reducible refine mt_dec (fun _ => ?_) (fun _ => ?_)) <;> (conv => whnf)) | ((with_reducible refine mt_eq (fun _ => ?_) (fun _ => ?_)) <;> (conv => whnf)) | ((with_reducible refine mt_ne (fun _ => ?_) (fun _ => ?_)) <;> (conv => whnf)) | ((with_reducible refine mt_not (fun _ => ?_) (fun _ => ?_)) <;> (conv => whnf)) | ((with_reducible refine mt_any (fun _ => ?_) (fun _ => ?_)) <;> (conv => whnf)))
      refine hgo.mono ?_
      rintro _ _ (⟨hfd, rfl, rfl⟩ | ⟨rfl, rfl⟩)
      · conv => whnf
        repeat' (first | ((with_reducible apply z_wrap); (focus omega); (conv => whnf)) | ((with_reducible refine mt_dec (fun _ => ?_) (fun _ => ?_)) <;> (conv => whnf)) | ((with_reducible refine mt_eq (fun _ => ?_) (fun _ => ?_)) <;> (conv => whnf)) | ((with_reducible refine mt_ne (fun _ => ?_) (fun _ => ?_)) <;> (conv => whnf)) | ((with_reducible refine mt_not (fun _ => ?_) (fun _ => ?_)) <;> (conv => whnf)) | ((with_reducible refine mt_any (fun _ => ?_) (fun _ => ?_)) <;> (conv => whnf)))
        exact .inr ⟨hno, rfl, rfl⟩
      · conv => whnf
        repeat' (first | ((with_reducible apply z_wrap); (focus omega); (conv => whnf)) | ((with_reducible refine mt_dec (fun _ => ?_) (fun _ => ?_)) <;> (conv => whnf)) | ((with_reducible refine mt_eq (fun _ => ?_) (fun _ => ?_)) <;> (conv => whnf)) | ((with_reducible refine mt_ne (fun _ => ?_) (fun _ => ?_)) <;> (conv => whnf)) | ((with_reducible refine mt_not (fun _ => ?_) (fun _ => ?_)) <;> (conv => whnf)) | ((with_reducible refine mt_any (fun _ => ?_) (fun _ => ?_)) <;> (conv => whnf)))
        exact .inr ⟨hno, rfl, rfl⟩
end Go.Proofs.Ytoeppembokpjkaa

namespace Go.Ab
noncomputable section
open Go.RowKit
/-! ## a call some of whose arguments own rows within: these go over as data -/
def deepK (x : AV) (L : List AB) (K : AV → List AB → Prop) : Prop :=
  match x with
  | .agg xs => argsK xs L fun ys L' => K (.agg ys) L'
  | x => argK x L K
noncomputable def deepsK (xs : List AV) : List AB → (List AV → List AB → Prop) → Prop :=
  List.rec (motive := fun _ => List AB → (List AV → List AB → Prop) → Prop) (fun L K => K [] L) (fun x _ ih L K => deepK x L fun y L1 => ih L1 fun l L2 => K (y :: l) L2) xs
theorem argsS_ok {c : Ctx} (hc : c.wf) {E : Nat → Option Nat} {w : World} : ∀ {xs : List AV} {L : List AB} {K : List AV → List AB → Prop} {us : List Value}, SimH c E L w → argsK xs L K → VRs (rcOf c.M0 E L w) xs us →
    ∃ ys L', K ys L' ∧ SimH c E L' w ∧ (rcOf c.M0 E L w).le (rcOf c.M0 E L' w) ∧ VRs (rcOf c.M0 E L' w) ys us
  | [], L, K, us, hs, h, hv => ⟨[], L, h, hs, .refl _, by simpa [VRs] using hv⟩
  | x :: xs, L, K, us, hs, h, hv => by
    simp only [VRs] at hv
    obtain ⟨u, us', rfl, h0, h1, h2⟩ := hv
    obtain ⟨y, L1, k1, k2, k3, k4⟩ := argK_ok hc hs (show argK x L fun y L1 => argsK xs L1 fun l L2 => K (y :: l) L2 from h) h1
    obtain ⟨ys, L2, m1, m2, m3, m4⟩ := argsS_ok hc (xs := xs) k2 k1 (VRs.mono k3 _ _ h2)
    exact ⟨y :: ys, L2, m1, m2, k3.trans m3, by simp only [VRs]; exact ⟨u, us', rfl, h0, VR.mono m3 _ _ k4, m4⟩⟩
theorem deepK_ok {c : Ctx} (hc : c.wf) {E : Nat → Option Nat} {L : List AB} {w : World} (hs : SimH c E L w) {x : AV} {K : AV → List AB → Prop} (h : deepK x L K) {v : Value} (hv : VR (rcOf c.M0 E L w) x v) :
    ∃ y L', K y L' ∧ SimH c E L' w ∧ (rcOf c.M0 E L w).le (rcOf c.M0 E L' w) ∧ VR (rcOf c.M0 E L' w) y v := by
  unfold deepK at h
  split at h
  · rename_i xs
    simp only [VR] at hv
    obtain ⟨us, rfl, hv⟩ := hv
    obtain ⟨ys, L', h1, h2, h3, h4⟩ := argsS_ok hc hs h hv
    exact ⟨_, L', h1, h2, h3, by simp only [VR]; exact ⟨us, rfl, h4⟩⟩
  · exact argK_ok hc hs h hv
theorem deepsK_ok {c : Ctx} (hc : c.wf) {E : Nat → Option Nat} {w : World} : ∀ {xs : List AV} {L : List AB} {K : List AV → List AB → Prop} {us : List Value}, SimH c E L w → deepsK xs L K → VRt (rcOf c.M0 E L w) xs us →
    ∃ ys L', K ys L' ∧ SimH c E L' w ∧ (rcOf c.M0 E L w).le (rcOf c.M0 E L' w) ∧ VRt (rcOf c.M0 E L' w) ys us
  | [], L, K, us, hs, h, hv => ⟨[], L, h, hs, .refl _, by simpa [VRt] using hv⟩
  | x :: xs, L, K, us, hs, h, hv => by
    simp only [VRt] at hv
    obtain ⟨u, us', rfl, h1, h2⟩ := hv
    obtain ⟨y, L1, k1, k2, k3, k4⟩ := deepK_ok hc hs (show deepK x L fun y L1 => deepsK xs L1 fun l L2 => K (y :: l) L2 from h) h1
    obtain ⟨ys, L2, m1, m2, m3, m4⟩ := deepsK_ok hc (xs := xs) k2 k1 (VRt.mono k3 _ _ h2)
    exact ⟨y :: ys, L2, m1, m2, k3.trans m3, by simp only [VRt]; exact ⟨u, us', rfl, VR.mono m3 _ _ k4, m4⟩⟩
theorem acalls_deep {P : Program} {f : FuncId} {avs : List AV} {L : List AB} {post : AV → List AB → Prop} (h : deepsK avs L fun avs1 L1 => callRawK P f avs1 L1 post) : ACalls P f avs L post := by
  intro c vs hc hL hs hv
  subst hL
  obtain ⟨avs1, L1, h1, h2, h3, h4⟩ := deepsK_ok hc hs h hv
  refine (callRawK_ok hc h2 h1 h4).mono ?_
  rintro e w' ⟨v, av, E', L', k1, k2, k3, k4, k5⟩
  exact ⟨v, av, L', E', k1, k2, k3, k5⟩
/-- what a call hands back, all of it as data -/
def dataK (x : AV) (L : List AB) (K : AV → List AB → Prop) : Prop :=
  match x with
  | .tup xs => deepsK xs L fun ys L' => K (.tup ys) L'
  | x => deepK x L K
theorem dataK_ok {c : Ctx} (hc : c.wf) {E : Nat → Option Nat} {L : List AB} {w : World} (hs : SimH c E L w) {x : AV} {K : AV → List AB → Prop} (h : dataK x L K) {v : Value} (hv : VR (rcOf c.M0 E L w) x v) :
    ∃ y L', K y L' ∧ SimH c E L' w ∧ (rcOf c.M0 E L w).le (rcOf c.M0 E L' w) ∧ VR (rcOf c.M0 E L' w) y v := by
  unfold dataK at h
  split at h
  · rename_i xs
    simp only [VR] at hv
    obtain ⟨us, rfl, hv⟩ := hv
    obtain ⟨ys, L', h1, h2, h3, h4⟩ := deepsK_ok hc hs h hv
    exact ⟨_, L', h1, h2, h3, by simp only [VR]; exact ⟨us, rfl, h4⟩⟩
  · exact deepK_ok hc hs h hv
theorem acalls_data {P : Program} {f : FuncId} {avs : List AV} {Lin : List AB} {post post' : AV → List AB → Prop} (h : ACalls P f avs Lin post) (hp : ∀ av L, post av L → dataK av L fun av' L' => finK Lin.length av' L' post') : ACalls P f avs Lin post' := by
  intro c vs hc hL hs hv
  refine (h c vs hc hL hs hv).mono ?_
  rintro e w' ⟨v, av, L', E', rfl, k2, k3, k4⟩
  obtain ⟨y, L2, h1, h2, h3, h4⟩ := dataK_ok hc k3 (hp _ _ k2) k4
  obtain ⟨E3, av3, L3, m1, m2, m3⟩ := finK_ok h1 (by rw [hL]) h2 h4
  exact ⟨v, av3, L3, E3, rfl, m1, m2, m3⟩
/-- a contract of arguments that say less of the same values -/
theorem acalls_args {P : Program} {f : FuncId} {avs avs' : List AV} {Lin : List AB} {post : AV → List AB → Prop} (hv : ∀ (R : RC) (vs : List Value), VRt R avs vs → VRt R avs' vs) (h : ACalls P f avs' Lin post) : ACalls P f avs Lin post :=
  fun c vs h1 h2 h3 h4 => h c vs h1 h2 h3 (hv _ _ h4)
theorem nil_sl {rd : Addr → Value → Prop} {n : Nat} (hn : 0 < n) {v : Value} (h : VD rd .nils v) : VD rd (.sl n []) v := by
  simp only [VD] at h
  subst h
  simp only [VD]
  exact ⟨hn, none, 0, rfl, by simp, by simp [maxLen], fun _ => rfl, fun _ h => by cases h⟩
theorem nil_third {n : Nat} (hn : 0 < n) {a b : AV} {r : List AV} : ∀ (R : RC) (vs : List Value), VRt R (.agg [a, b, .d .nils] :: r) vs → VRt R (.agg [a, b, .d (.sl n [])] :: r) vs := by
  intro R vs h
  simp only [VRt, VR, VRs] at h ⊢
  obtain ⟨u, us', rfl, ⟨us, rfl, u1, r1, e1, h1, h2, u2, r2, rfl, h3, h4, u3, r3, rfl, h5, h6, rfl⟩, h7⟩ := h
  exact ⟨_, us', rfl, ⟨us, rfl, u1, _, e1, h1, h2, u2, _, rfl, h3, h4, u3, [], rfl, h5, nil_sl hn h6, rfl⟩, h7⟩
/-- a slot's own row, from here on as data -/
theorem aw_seal {P : Program} {n k0 : Nat} (s : Nat) {x : Code} {Q : Exit → AF → List AB → Prop} {F : AF} {L : List AB} (h : toDK (fget F s) L fun d L' => AW P n k0 x Q ((s, .d d) :: F) L') : AW P n k0 x Q F L := by
  intro c E a w hc hcn hk hs
  obtain ⟨d, L', h1, _, h2, h3, h4⟩ := toDK_ok hc hs.h h (hs.slots s)
  refine h1 c E a w hc hcn hk ⟨h2, fun t => ?_, hs.nt, hs.df⟩
  rw [fget_cons]
  cases hb : Nat.beq s t with
  | false => exact VR.mono h3 _ _ (hs.slots t)
  | true =>
    have := Nat.eq_of_beq_eq_true hb
    subst this
    simp only [cond_true, VR]
    exact h4
end
end Go.Ab

namespace Go.Proofs.Ytoeppembokpjkaa
open Go.Ab Go.RowKit Go.MapKept
attribute [local irreducible] ACalls AW ADraw Into fltB fnear
set_option maxRecDepth 100000
/-- the DAG of one, three rounds high -/
def wCert (r : Int) : Cert := ⟨1, r, [], if r > 1 then [r - 1] else [], r, [1]⟩
def wDag : Dag := ⟨1, 0, [wCert 1, wCert 2, wCert 3]⟩
theorem wDag_valid : Valid wDag := by
  refine ⟨rfl, by decide, by decide, ?_, by decide, by simp [sortedC, wDag, wCert, Cert.before], by decide, ?_⟩
  · intro c hc
    simp only [wDag, List.mem_cons, List.not_mem_nil, or_false] at hc
    rcases hc with rfl | rfl | rfl <;>
      exact ⟨⟨rfl, by decide, by decide, ⟨by decide, by simp [wCert, risingI], by decide⟩, ⟨by decide, by simp [wCert, risingI], by decide⟩, by decide, by decide⟩, by decide, ⟨by simp [wCert, risingI], by decide⟩, by decide⟩
  · intro c hc hr
    simp only [wDag, List.mem_cons, List.not_mem_nil, or_false] at hc
    rcases hc with rfl | rfl | rfl
    · exact absurd hr (by decide)
    · intro x hx
      exact ⟨wCert 1, by simp [wDag], by simp [wCert] at hx; simp [wCert, hx], by decide⟩
    · intro x hx
      exact ⟨wCert 2, by simp [wDag], by simp [wCert] at hx; simp [wCert, hx], by decide⟩
def c0 : Cursor := ⟨0, [], 0⟩
theorem c0_may : curMay c0 := by
  exact ⟨by decide, ⟨List.Pairwise.nil, by simp [c0]⟩, by decide⟩
theorem sortI_self {l : List Int} (h : risingI l) : sortI l = l := List.mergeSort_of_pairwise (h.imp fun h => by simp; omega)
theorem wDag_fin : finW wDag c0 = ⟨⟨2, [1, 2], 2⟩, [1, 2]⟩ := by
  have h1 : nextC wDag 0 = 2 := by
    show nextR wDag 2 = 2
    exact next_here (by decide) (by decide)
  have h2 : nextC wDag 2 = 0 := by
    show nextR wDag 4 = 0
    exact next_top (by decide)
  have h3 : backI wDag 0 2 = [2] := by
    unfold backI
    rw [back_end (by decide)]
    decide
  have h4 : (Wk.mk c0 []).putL wDag [2] = ⟨⟨2, [1, 2], 2⟩, [1, 2]⟩ := by
    show (Wk.mk c0 []).putA wDag 2 = _
    rw [putA_eq (i := 1) (c := wCert 2) (by decide) rfl]
    have h5 : behindI wDag 1 2 [] = [1, 2] := by decide
    show Wk.mk ⟨2, sortI (keepI wDag 2 ([] ++ behindI wDag 1 2 [])), min (0 + ((behindI wDag 1 2 []).length : Int)) 1099511627776⟩ ([] ++ behindI wDag 1 2 []) = _
    rw [h5, show keepI wDag 2 ([] ++ [1, 2]) = [1, 2] by decide, sortI_self (by simp [risingI])]
    rfl
  show Wk.goF wDag 3 ⟨c0, []⟩ = _
  rw [Wk.goF, if_pos (by show nextC wDag 0 > 0; rw [h1]; decide)]
  show Wk.goF wDag 2 ((Wk.mk c0 []).putL wDag (backI wDag 0 (nextC wDag 0))) = _
  rw [h1, h3, h4]
  exact goF_end (by show ¬ nextC wDag 2 > 0; rw [h2]; decide) _
theorem wStep_ok : ACalls Try.prog 12 [wDag.av, .agg [.d (.int .i64 0), .d .nils, .d (.int .i64 0)]] [] (fun av L => av = .tup [.agg [.d (.int .i64 2), .arr 0, .d (.int .i64 2)], .d (.sl 1 (nums [1, 2])), .d (.int .i64 0)] ∧ L = [.row 3 1 (nums [1, 2]) false]) := by
  refine (step_ok wDag wDag_valid.well (dagMay_ok wDag wDag_valid) c0 .nils (.inl ⟨rfl, rfl⟩) c0_may).mono ?_
  rintro av L (⟨h, _⟩ | ⟨_, rfl, rfl⟩)
  · exact absurd h.1 (by decide)
  · rw [wDag_fin]
    exact ⟨rfl, rfl⟩
def wSt : Nat → AF × List AB
  | 0 => ([(1, .ptr 0 0), (2, .d (.int .i64 1))], [.cells [.d (.int .i64 1), .d (.int .i64 0), .d .nils]])
  | 1 => ([(1, .ptr 0 0), (2, .d (.int .i64 2))], [.cells [.d (.int .i64 1), .d (.int .i64 0), .arr 1], .row 46 6 (certsD [wCert 1]) false])
  | 2 => ([(1, .ptr 0 0), (2, .d (.int .i64 3))], [.cells [.d (.int .i64 1), .d (.int .i64 0), .arr 1], .row 46 6 (certsD [wCert 1, wCert 2]) false])
  | _ => ([(1, .ptr 0 0), (2, .d (.int .i64 4))], [.cells [.d (.int .i64 1), .d (.int .i64 0), .arr 1], .row 46 6 (certsD [wCert 1, wCert 2, wCert 3]) false])
theorem wakes_ok : ACalls Try.prog 17 [] [] (fun av L => av = .d (.bool true) ∧ L = []) := by
  refine acalls_go ttOk zOk foOk Try.func17 rfl Try.ntmps17 rfl false rfl ?_
  conv => whnf
  refine loop_go ttOk zOk foOk (σ := Nat) wSt (fun j => j ≤ 3) (fun j => 3 - j) [1, 2] ?_ ?_
  · conv => whnf
    exact ⟨0, rfl, rfl, by omega⟩
  · intro j hj
    obtain rfl | rfl | rfl | rfl : j = 0 ∨ j = 1 ∨ j = 2 ∨ j = 3 := by omega
    · conv => whnf
      repeat' (first | ((with_reducible apply z_wrap); (focus omega); (conv => whnf)) | ((with_reducible refine mt_dec (fun _ => ?_) (fun _ => ?_)) <;> (conv => whnf)) | ((with_reducible refine mt_eq (fun _ => ?_) (fun _ => ?_)) <;> (conv => whnf)) | ((with_reducible refine mt_ne (fun _ => ?_) (fun _ => ?_)) <;> (conv => whnf)) | ((with_reducible refine mt_not (fun _ => ?_) (fun _ => ?_)) <;> (conv => whnf)) | ((with_reducible refine mt_any (fun _ => ?_) (fun _ => ?_)) <;> (conv => whnf)))
      refine ⟨by decide, ?_⟩
      conv => whnf
      repeat' (first | ((with_reducible apply z_wrap); (focus omega); (conv => whnf)) | ((with_reducible refine mt_dec (fun _ => ?_) (fun _ => ?_)) <;> (conv => whnf)) | ((with_reducible refine mt_eq (fun _ => ?_) (fun _ => ?_)) <;> (conv => whnf)) | ((with_reducible refine mt_ne (fun _ => ?_) (fun _ => ?_)) <;> (conv => whnf)) | ((with_reducible refine mt_not (fun _ => ?_) (fun _ => ?_)) <;> (conv => whnf)) | ((with_reducible refine mt_any (fun _ => ?_) (fun _ => ?_)) <;> (conv => whnf)))
      exact ⟨1, rfl, rfl, by omega, by omega⟩
    · conv => whnf
      repeat' (first | ((with_reducible apply z_wrap); (focus omega); (conv => whnf)) | ((with_reducible refine mt_dec (fun _ => ?_) (fun _ => ?_)) <;> (conv => whnf)) | ((with_reducible refine mt_eq (fun _ => ?_) (fun _ => ?_)) <;> (conv => whnf)) | ((with_reducible refine mt_ne (fun _ => ?_) (fun _ => ?_)) <;> (conv => whnf)) | ((with_reducible refine mt_not (fun _ => ?_) (fun _ => ?_)) <;> (conv => whnf)) | ((with_reducible refine mt_any (fun _ => ?_) (fun _ => ?_)) <;> (conv => whnf)))
      refine ⟨by decide, ?_⟩
      conv => whnf
      repeat' (first | ((with_reducible apply z_wrap); (focus omega); (conv => whnf)) | ((with_reducible refine mt_dec (fun _ => ?_) (fun _ => ?_)) <;> (conv => whnf)) | ((with_reducible refine mt_eq (fun _ => ?_) (fun _ => ?_)) <;> (conv => whnf)) | ((with_reducible refine mt_ne (fun _ => ?_) (fun _ => ?_)) <;> (conv => whnf)) | ((with_reducible refine mt_not (fun _ => ?_) (fun _ => ?_)) <;> (conv => whnf)) | ((with_reducible refine mt_any (fun _ => ?_) (fun _ => ?_)) <;> (conv => whnf)))
      exact ⟨2, rfl, rfl, by omega, by omega⟩
    · conv => whnf
      repeat' (first | ((with_reducible apply z_wrap); (focus omega); (conv => whnf)) | ((with_reducible refine mt_dec (fun _ => ?_) (fun _ => ?_)) <;> (conv => whnf)) | ((with_reducible refine mt_eq (fun _ => ?_) (fun _ => ?_)) <;> (conv => whnf)) | ((with_reducible refine mt_ne (fun _ => ?_) (fun _ => ?_)) <;> (conv => whnf)) | ((with_reducible refine mt_not (fun _ => ?_) (fun _ => ?_)) <;> (conv => whnf)) | ((with_reducible refine mt_any (fun _ => ?_) (fun _ => ?_)) <;> (conv => whnf)))
      refine ⟨by decide, ?_⟩
      conv => whnf
      repeat' (first | ((with_reducible apply z_wrap); (focus omega); (conv => whnf)) | ((with_reducible refine mt_dec (fun _ => ?_) (fun _ => ?_)) <;> (conv => whnf)) | ((with_reducible refine mt_eq (fun _ => ?_) (fun _ => ?_)) <;> (conv => whnf)) | ((with_reducible refine mt_ne (fun _ => ?_) (fun _ => ?_)) <;> (conv => whnf)) | ((with_reducible refine mt_not (fun _ => ?_) (fun _ => ?_)) <;> (conv => whnf)) | ((with_reducible refine mt_any (fun _ => ?_) (fun _ => ?_)) <;> (conv => whnf)))
      exact ⟨3, rfl, rfl, by omega, by omega⟩
    · conv => whnf
      repeat' (first | ((with_reducible apply z_wrap); (focus omega); (conv => whnf)) | ((with_reducible refine mt_dec (fun _ => ?_) (fun _ => ?_)) <;> (conv => whnf)) | ((with_reducible refine mt_eq (fun _ => ?_) (fun _ => ?_)) <;> (conv => whnf)) | ((with_reducible refine mt_ne (fun _ => ?_) (fun _ => ?_)) <;> (conv => whnf)) | ((with_reducible refine mt_not (fun _ => ?_) (fun _ => ?_)) <;> (conv => whnf)) | ((with_reducible refine mt_any (fun _ => ?_) (fun _ => ?_)) <;> (conv => whnf)))
      refine acalls_deep ?_
      conv => whnf
      refine wStep_ok.mono ?_
      rintro _ _ ⟨rfl, rfl⟩
      conv => whnf
      refine (num_ok 0).mono ?_
      rintro _ _ ⟨rfl, rfl⟩
      conv => whnf
      repeat' (first | ((with_reducible apply z_wrap); (focus omega); (conv => whnf)) | ((with_reducible refine mt_dec (fun _ => ?_) (fun _ => ?_)) <;> (conv => whnf)) | ((with_reducible refine mt_eq (fun _ => ?_) (fun _ => ?_)) <;> (conv => whnf)) | ((with_reducible refine mt_ne (fun _ => ?_) (fun _ => ?_)) <;> (conv => whnf)) | ((with_reducible refine mt_not (fun _ => ?_) (fun _ => ?_)) <;> (conv => whnf)) | ((with_reducible refine mt_any (fun _ => ?_) (fun _ => ?_)) <;> (conv => whnf)))
      (refine Or.inl ?_; (conv => whnf))
      refine (eqNumbers_ok [1, 2] [1, 2] (by unfold few; decide)).mono ?_
      rintro _ _ ⟨rfl, rfl⟩
      conv => whnf
      repeat' (first | ((with_reducible apply z_wrap); (focus omega); (conv => whnf)) | ((with_reducible refine mt_dec (fun _ => ?_) (fun _ => ?_)) <;> (conv => whnf)) | ((with_reducible refine mt_eq (fun _ => ?_) (fun _ => ?_)) <;> (conv => whnf)) | ((with_reducible refine mt_ne (fun _ => ?_) (fun _ => ?_)) <;> (conv => whnf)) | ((with_reducible refine mt_not (fun _ => ?_) (fun _ => ?_)) <;> (conv => whnf)) | ((with_reducible refine mt_any (fun _ => ?_) (fun _ => ?_)) <;> (conv => whnf)))
      exact ⟨rfl, rfl⟩
end Go.Proofs.Ytoeppembokpjkaa

namespace Go.Proofs.Ytoeppembokpjkaa
open Go.Ab Go.RowKit Go.MapKept
attribute [local irreducible] ACalls AW ADraw Into fltB fnear
set_option maxRecDepth 100000
theorem getC_no {l : List Cert} {x : Int} (h : ∀ c ∈ l, c.digest ≠ x) : getC l x = none := by
  unfold getC
  rw [List.findIdx?_eq_none_iff]
  intro c hc
  simp [h c hc]
theorem getC_here {l : List Cert} {x : Int} {j : Nat} {c : Cert} (hc : l[j]? = some c) (hx : c.digest = x) (h : ∀ c ∈ l.take j, c.digest ≠ x) : getC l x = some j := by
  unfold getC
  rw [List.findIdx?_eq_some_iff_getElem]
  obtain ⟨hj, rfl⟩ := List.getElem?_eq_some_iff.1 hc
  refine ⟨hj, by simpa using hx, fun i hi => ?_⟩
  have := h l[i] (List.mem_take_iff_getElem.2 ⟨i, by omega, rfl⟩)
  simpa using this
theorem rFind_ok (d : Dag) (hd : few d.certs) (x : Int) : ACalls Try.prog 23 [d.av, .d (.int .i64 x)] [] (fun av L => av = .d (.int .i64 (getI d.certs x)) ∧ L = []) := by
  have hcl := certsD_length d.certs
  unfold few at hd
  refine acalls_go ttOk zOk foOk Try.func23 rfl Try.ntmps23 rfl false rfl ?_
  conv => whnf
  refine loop_go ttOk zOk foOk (σ := Nat) (fun j => ([(1, .d (.int .i64 x)), (2, .ptr 0 0), (5, .d (.int .i64 j))], [.cells d.cells])) (fun j => j ≤ d.certs.length ∧ ∀ c ∈ d.certs.take j, c.digest ≠ x) (fun j => d.certs.length - j) [1, 2, 5] ?_ ?_
  · conv => whnf
    exact ⟨0, rfl, rfl, Nat.zero_le _, by simp⟩
  · rintro j ⟨hj, hall⟩
    conv => whnf
    rw [hcl]
    repeat' (first | ((with_reducible apply z_wrap); (focus omega); (conv => whnf)) | ((with_reducible refine mt_dec (fun _ => ?_) (fun _ => ?_)) <;> (conv => whnf)) | ((with_reducible refine mt_eq (fun _ => ?_) (fun _ => ?_)) <;> (conv => whnf)) | ((with_reducible refine mt_ne (fun _ => ?_) (fun _ => ?_)) <;> (conv => whnf)) | ((with_reducible refine mt_not (fun _ => ?_) (fun _ => ?_)) <;> (conv => whnf)) | ((with_reducible refine mt_any (fun _ => ?_) (fun _ => ?_)) <;> (conv => whnf)))
    · rename_i h
      refine Exists.elim (⟨_, List.getElem?_eq_getElem (by omega)⟩ : ∃ c, d.certs[j]? = some c) fun c hc => ?_
      refine ⟨by omega, c.cs, certsD_at hc, ?_⟩
      conv => whnf
      repeat' (first | ((with_reducible apply z_wrap); (focus omega); (conv => whnf)) | ((with_reducible refine mt_dec (fun _ => ?_) (fun _ => ?_)) <;> (conv => whnf)) | ((with_reducible refine mt_eq (fun _ => ?_) (fun _ => ?_)) <;> (conv => whnf)) | ((with_reducible refine mt_ne (fun _ => ?_) (fun _ => ?_)) <;> (conv => whnf)) | ((with_reducible refine mt_not (fun _ => ?_) (fun _ => ?_)) <;> (conv => whnf)) | ((with_reducible refine mt_any (fun _ => ?_) (fun _ => ?_)) <;> (conv => whnf)))
      · rename_i h2
        rw [getI, getC_here hc h2 hall]
        exact ⟨rfl, rfl⟩
      · rename_i h2
        refine ⟨j + 1, rfl, rfl, ⟨by omega, fun y hy => ?_⟩, by omega⟩
        rw [List.take_add_one, hc] at hy
        rcases List.mem_append.1 hy with hy | hy
        · exact hall y hy
        · simp at hy; rw [hy]; exact h2
    · rename_i h
      rw [List.take_of_length_le (by omega)] at hall
      rw [getI, getC_no hall]
      exact ⟨rfl, rfl⟩
end Go.Proofs.Ytoeppembokpjkaa

namespace Go.Proofs.Ytoeppembokpjkaa
open Go.Ab Go.RowKit Go.MapKept
attribute [local irreducible] ACalls AW ADraw Into fltB fnear
set_option maxRecDepth 100000
def lackB (d : Dag) (r x : Int) : Bool := match certOf d x with | some c => decide (c.round ≠ r - 1) | none => true
def lacksI (d : Dag) (c : Cert) : List Int := if c.round - 1 ≤ d.low then [] else c.pars.filter fun x => lackB d c.round x
theorem rLacks_ok (d : Dag) (hd : few d.certs) (c : Cert) (hc : c.pars.length ≤ 1099511627776) (hr : 1 ≤ c.round ∧ c.round ≤ 1099511627776) : ACalls Try.prog 34 [d.av, c.hav] [] (fun av L => av = .d (.sl 1 (nums (lacksI d c))) ∧ L = []) := by
  have hcl := certsD_length d.certs
  have hpl := nums_length c.pars
  refine acalls_go ttOk zOk foOk Try.func34 rfl Try.ntmps34 rfl false rfl ?_
  conv => whnf
  repeat' (first | ((with_reducible apply rd_intro); (focus (intro K hK; (conv => whnf); first | exact hK | (intro z hz; rw [wrapI (by omega)] at hz; subst hz; exact hK))); (conv => whnf)) | ((with_reducible apply gd_and); (focus ((conv => whnf) <;> first | rfl | (intro K hK; (conv => whnf); first | exact hK | (intro z hz; rw [wrapI (by omega)] at hz; subst hz; exact hK)))); (conv => whnf)) | ((with_reducible apply z_wrap); (focus omega); (conv => whnf)) | ((with_reducible refine mt_dec (fun _ => ?_) (fun _ => ?_)) <;> (conv => whnf)) | ((with_reducible refine mt_eq (fun _ => ?_) (fun _ => ?_)) <;> (conv => whnf)) | ((with_reducible refine mt_ne (fun _ => ?_) (fun _ => ?_)) <;> (conv => whnf)) | ((with_reducible refine mt_not (fun _ => ?_) (fun _ => ?_)) <;> (conv => whnf)) | ((with_reducible refine mt_any (fun _ => ?_) (fun _ => ?_)) <;> (conv => whnf)))
  · rename_i h
    rw [lacksI, if_pos h]
    exact ⟨rfl, rfl⟩
  · rename_i h
    rw [lacksI, if_neg h]
    refine loop_go ttOk zOk foOk (σ := Nat) (fun j => ([(2, .ptr 0 0), (3, .ptr 1 0), (5, .arr 2), (6, .d (.int .i64 j))], [.cells d.cells, .cells c.hcells, .row 3 1 (nums ((c.pars.take j).filter fun x => lackB d c.round x)) false])) (fun j => j ≤ c.pars.length) (fun j => c.pars.length - j) [2, 3, 5, 6] ?_ ?_
    · conv => whnf
      exact ⟨0, rfl, rfl, Nat.zero_le _⟩
    · intro j hj
      conv => whnf
      rw [hpl]
      repeat' (first | ((with_reducible apply rd_intro); (focus (intro K hK; (conv => whnf); first | exact hK | (intro z hz; rw [wrapI (by omega)] at hz; subst hz; exact hK))); (conv => whnf)) | ((with_reducible apply gd_and); (focus ((conv => whnf) <;> first | rfl | (intro K hK; (conv => whnf); first | exact hK | (intro z hz; rw [wrapI (by omega)] at hz; subst hz; exact hK)))); (conv => whnf)) | ((with_reducible apply z_wrap); (focus omega); (conv => whnf)) | ((with_reducible refine mt_dec (fun _ => ?_) (fun _ => ?_)) <;> (conv => whnf)) | ((with_reducible refine mt_eq (fun _ => ?_) (fun _ => ?_)) <;> (conv => whnf)) | ((with_reducible refine mt_ne (fun _ => ?_) (fun _ => ?_)) <;> (conv => whnf)) | ((with_reducible refine mt_not (fun _ => ?_) (fun _ => ?_)) <;> (conv => whnf)) | ((with_reducible refine mt_any (fun _ => ?_) (fun _ => ?_)) <;> (conv => whnf)))
      · rename_i hjl
        refine Exists.elim (⟨_, List.getElem?_eq_getElem (by omega)⟩ : ∃ x, c.pars[j]? = some x) fun x hx => ?_
        ((with_reducible refine draw_pl ttOk zOk foOk mixedOk pl34x7 ?_ ?_); (focus kernel_rfl); (conv => whnf))
        repeat' (first | ((with_reducible apply rd_intro); (focus (intro K hK; (conv => whnf); first | exact hK | (intro z hz; rw [wrapI (by omega)] at hz; subst hz; exact hK))); (conv => whnf)) | ((with_reducible apply gd_and); (focus ((conv => whnf) <;> first | rfl | (intro K hK; (conv => whnf); first | exact hK | (intro z hz; rw [wrapI (by omega)] at hz; subst hz; exact hK)))); (conv => whnf)) | ((with_reducible apply z_wrap); (focus omega); (conv => whnf)) | ((with_reducible refine mt_dec (fun _ => ?_) (fun _ => ?_)) <;> (conv => whnf)) | ((with_reducible refine mt_eq (fun _ => ?_) (fun _ => ?_)) <;> (conv => whnf)) | ((with_reducible refine mt_ne (fun _ => ?_) (fun _ => ?_)) <;> (conv => whnf)) | ((with_reducible refine mt_not (fun _ => ?_) (fun _ => ?_)) <;> (conv => whnf)) | ((with_reducible refine mt_any (fun _ => ?_) (fun _ => ?_)) <;> (conv => whnf)))
        ((with_reducible apply rd_intro); (focus (intro K hK; (conv => whnf); exact ⟨by omega, [.int .i64 x], nums_at hx, hK⟩)); (conv => whnf))
        repeat' (first | ((with_reducible apply rd_intro); (focus (intro K hK; (conv => whnf); first | exact hK | (intro z hz; rw [wrapI (by omega)] at hz; subst hz; exact hK))); (conv => whnf)) | ((with_reducible apply gd_and); (focus ((conv => whnf) <;> first | rfl | (intro K hK; (conv => whnf); first | exact hK | (intro z hz; rw [wrapI (by omega)] at hz; subst hz; exact hK)))); (conv => whnf)) | ((with_reducible apply z_wrap); (focus omega); (conv => whnf)) | ((with_reducible refine mt_dec (fun _ => ?_) (fun _ => ?_)) <;> (conv => whnf)) | ((with_reducible refine mt_eq (fun _ => ?_) (fun _ => ?_)) <;> (conv => whnf)) | ((with_reducible refine mt_ne (fun _ => ?_) (fun _ => ?_)) <;> (conv => whnf)) | ((with_reducible refine mt_not (fun _ => ?_) (fun _ => ?_)) <;> (conv => whnf)) | ((with_reducible refine mt_any (fun _ => ?_) (fun _ => ?_)) <;> (conv => whnf)))
        refine (rFind_ok d hd x).mono ?_
        rintro _ _ ⟨rfl, rfl⟩
        conv => whnf
        repeat' (first | ((with_reducible apply rd_intro); (focus (intro K hK; (conv => whnf); first | exact hK | (intro z hz; rw [wrapI (by omega)] at hz; subst hz; exact hK))); (conv => whnf)) | ((with_reducible apply gd_and); (focus ((conv => whnf) <;> first | rfl | (intro K hK; (conv => whnf); first | exact hK | (intro z hz; rw [wrapI (by omega)] at hz; subst hz; exact hK)))); (conv => whnf)) | ((with_reducible apply z_wrap); (focus omega); (conv => whnf)) | ((with_reducible refine mt_dec (fun _ => ?_) (fun _ => ?_)) <;> (conv => whnf)) | ((with_reducible refine mt_eq (fun _ => ?_) (fun _ => ?_)) <;> (conv => whnf)) | ((with_reducible refine mt_ne (fun _ => ?_) (fun _ => ?_)) <;> (conv => whnf)) | ((with_reducible refine mt_not (fun _ => ?_) (fun _ => ?_)) <;> (conv => whnf)) | ((with_reducible refine mt_any (fun _ => ?_) (fun _ => ?_)) <;> (conv => whnf)))
        have hsn : ∀ b, lackB d c.round x = b → (c.pars.take (j + 1)).filter (fun x => lackB d c.round x) = (c.pars.take j).filter (fun x => lackB d c.round x) ++ (if b then [x] else []) := by
          intro b hb
          rw [List.take_add_one, hx]
          simp only [Option.toList_some, List.filter_append, List.filter_cons, hb]
          cases b <;> rfl
        have hfl : ((c.pars.take j).filter (fun x => lackB d c.round x)).length ≤ j := by
          have h1 := List.length_filter_le (fun x => lackB d c.round x) (c.pars.take j)
          rw [List.length_take] at h1
          omega
        have hfn := nums_length ((c.pars.take j).filter (fun x => lackB d c.round x))
        cases hg : getC d.certs x with
        | none =>
          rw [show getI d.certs x = -1 by rw [getI, hg]; rfl]
          have hlb : lackB d c.round x = true := by rw [lackB, certOf, hg]; rfl
          conv => whnf
          repeat' (first | ((with_reducible apply rd_intro); (focus (intro K hK; (conv => whnf); first | exact hK | (intro z hz; rw [wrapI (by omega)] at hz; subst hz; exact hK))); (conv => whnf)) | ((with_reducible apply gd_and); (focus ((conv => whnf) <;> first | rfl | (intro K hK; (conv => whnf); first | exact hK | (intro z hz; rw [wrapI (by omega)] at hz; subst hz; exact hK)))); (conv => whnf)) | ((with_reducible apply z_wrap); (focus omega); (conv => whnf)) | ((with_reducible refine mt_dec (fun _ => ?_) (fun _ => ?_)) <;> (conv => whnf)) | ((with_reducible refine mt_eq (fun _ => ?_) (fun _ => ?_)) <;> (conv => whnf)) | ((with_reducible refine mt_ne (fun _ => ?_) (fun _ => ?_)) <;> (conv => whnf)) | ((with_reducible refine mt_not (fun _ => ?_) (fun _ => ?_)) <;> (conv => whnf)) | ((with_reducible refine mt_any (fun _ => ?_) (fun _ => ?_)) <;> (conv => whnf)))
          ((with_reducible refine draw_pl ttOk zOk foOk mixedOk pl34x8 ?_ ?_); (focus kernel_rfl); (conv => whnf))
          repeat' (first | ((with_reducible apply rd_intro); (focus (intro K hK; (conv => whnf); first | exact hK | (intro z hz; rw [wrapI (by omega)] at hz; subst hz; exact hK))); (conv => whnf)) | ((with_reducible apply gd_and); (focus ((conv => whnf) <;> first | rfl | (intro K hK; (conv => whnf); first | exact hK | (intro z hz; rw [wrapI (by omega)] at hz; subst hz; exact hK)))); (conv => whnf)) | ((with_reducible apply z_wrap); (focus omega); (conv => whnf)) | ((with_reducible refine mt_dec (fun _ => ?_) (fun _ => ?_)) <;> (conv => whnf)) | ((with_reducible refine mt_eq (fun _ => ?_) (fun _ => ?_)) <;> (conv => whnf)) | ((with_reducible refine mt_ne (fun _ => ?_) (fun _ => ?_)) <;> (conv => whnf)) | ((with_reducible refine mt_not (fun _ => ?_) (fun _ => ?_)) <;> (conv => whnf)) | ((with_reducible refine mt_any (fun _ => ?_) (fun _ => ?_)) <;> (conv => whnf)))
          refine ⟨by omega, [.int .i64 x], nums_at hx, ?_⟩
          conv => whnf
          repeat' (first | ((with_reducible apply rd_intro); (focus (intro K hK; (conv => whnf); first | exact hK | (intro z hz; rw [wrapI (by omega)] at hz; subst hz; exact hK))); (conv => whnf)) | ((with_reducible apply gd_and); (focus ((conv => whnf) <;> first | rfl | (intro K hK; (conv => whnf); first | exact hK | (intro z hz; rw [wrapI (by omega)] at hz; subst hz; exact hK)))); (conv => whnf)) | ((with_reducible apply z_wrap); (focus omega); (conv => whnf)) | ((with_reducible refine mt_dec (fun _ => ?_) (fun _ => ?_)) <;> (conv => whnf)) | ((with_reducible refine mt_eq (fun _ => ?_) (fun _ => ?_)) <;> (conv => whnf)) | ((with_reducible refine mt_ne (fun _ => ?_) (fun _ => ?_)) <;> (conv => whnf)) | ((with_reducible refine mt_not (fun _ => ?_) (fun _ => ?_)) <;> (conv => whnf)) | ((with_reducible refine mt_any (fun _ => ?_) (fun _ => ?_)) <;> (conv => whnf)))
          refine ⟨by simp [hfn]; omega, ?_⟩
          conv => whnf
          repeat' (first | ((with_reducible apply rd_intro); (focus (intro K hK; (conv => whnf); first | exact hK | (intro z hz; rw [wrapI (by omega)] at hz; subst hz; exact hK))); (conv => whnf)) | ((with_reducible apply gd_and); (focus ((conv => whnf) <;> first | rfl | (intro K hK; (conv => whnf); first | exact hK | (intro z hz; rw [wrapI (by omega)] at hz; subst hz; exact hK)))); (conv => whnf)) | ((with_reducible apply z_wrap); (focus omega); (conv => whnf)) | ((with_reducible refine mt_dec (fun _ => ?_) (fun _ => ?_)) <;> (conv => whnf)) | ((with_reducible refine mt_eq (fun _ => ?_) (fun _ => ?_)) <;> (conv => whnf)) | ((with_reducible refine mt_ne (fun _ => ?_) (fun _ => ?_)) <;> (conv => whnf)) | ((with_reducible refine mt_not (fun _ => ?_) (fun _ => ?_)) <;> (conv => whnf)) | ((with_reducible refine mt_any (fun _ => ?_) (fun _ => ?_)) <;> (conv => whnf)))
          refine ⟨j + 1, rfl, ?_, by omega, by omega⟩
          rw [hsn _ hlb, ← nums_apps]
          rfl
        | some k =>
          obtain ⟨c', hc', hd'⟩ := getC_some hg
          rw [show getI d.certs x = (k : Int) by rw [getI, hg]; rfl]
          have hlb : lackB d c.round x = decide (c'.round ≠ c.round - 1) := by rw [lackB, certOf, hg, Option.bind_some, hc']
          have hkl := (List.getElem?_eq_some_iff.1 hc').1
          conv => whnf
          repeat' (first | ((with_reducible apply rd_intro); (focus (intro K hK; (conv => whnf); first | exact hK | (intro z hz; rw [wrapI (by omega)] at hz; subst hz; exact hK))); (conv => whnf)) | ((with_reducible apply gd_and); (focus ((conv => whnf) <;> first | rfl | (intro K hK; (conv => whnf); first | exact hK | (intro z hz; rw [wrapI (by omega)] at hz; subst hz; exact hK)))); (conv => whnf)) | ((with_reducible apply z_wrap); (focus omega); (conv => whnf)) | ((with_reducible refine mt_dec (fun _ => ?_) (fun _ => ?_)) <;> (conv => whnf)) | ((with_reducible refine mt_eq (fun _ => ?_) (fun _ => ?_)) <;> (conv => whnf)) | ((with_reducible refine mt_ne (fun _ => ?_) (fun _ => ?_)) <;> (conv => whnf)) | ((with_reducible refine mt_not (fun _ => ?_) (fun _ => ?_)) <;> (conv => whnf)) | ((with_reducible refine mt_any (fun _ => ?_) (fun _ => ?_)) <;> (conv => whnf)))
          ((with_reducible refine draw_pl ttOk zOk foOk mixedOk pl34x8 ?_ ?_); (focus kernel_rfl); (conv => whnf))
          repeat' (first | ((with_reducible apply rd_intro); (focus (intro K hK; (conv => whnf); first | exact hK | (intro z hz; rw [wrapI (by omega)] at hz; subst hz; exact hK))); (conv => whnf)) | ((with_reducible apply gd_and); (focus ((conv => whnf) <;> first | rfl | (intro K hK; (conv => whnf); first | exact hK | (intro z hz; rw [wrapI (by omega)] at hz; subst hz; exact hK)))); (conv => whnf)) | ((with_reducible apply z_wrap); (focus omega); (conv => whnf)) | ((with_reducible refine mt_dec (fun _ => ?_) (fun _ => ?_)) <;> (conv => whnf)) | ((with_reducible refine mt_eq (fun _ => ?_) (fun _ => ?_)) <;> (conv => whnf)) | ((with_reducible refine mt_ne (fun _ => ?_) (fun _ => ?_)) <;> (conv => whnf)) | ((with_reducible refine mt_not (fun _ => ?_) (fun _ => ?_)) <;> (conv => whnf)) | ((with_reducible refine mt_any (fun _ => ?_) (fun _ => ?_)) <;> (conv => whnf)))
          ((with_reducible apply rd_intro); (focus (intro K hK; (conv => whnf); exact ⟨by omega, c'.cs, certsD_at hc', hK⟩)); (conv => whnf))
          repeat' (first | ((with_reducible apply rd_intro); (focus (intro K hK; (conv => whnf); first | exact hK | (intro z hz; rw [wrapI (by omega)] at hz; subst hz; exact hK))); (conv => whnf)) | ((with_reducible apply gd_and); (focus ((conv => whnf) <;> first | rfl | (intro K hK; (conv => whnf); first | exact hK | (intro z hz; rw [wrapI (by omega)] at hz; subst hz; exact hK)))); (conv => whnf)) | ((with_reducible apply z_wrap); (focus omega); (conv => whnf)) | ((with_reducible refine mt_dec (fun _ => ?_) (fun _ => ?_)) <;> (conv => whnf)) | ((with_reducible refine mt_eq (fun _ => ?_) (fun _ => ?_)) <;> (conv => whnf)) | ((with_reducible refine mt_ne (fun _ => ?_) (fun _ => ?_)) <;> (conv => whnf)) | ((with_reducible refine mt_not (fun _ => ?_) (fun _ => ?_)) <;> (conv => whnf)) | ((with_reducible refine mt_any (fun _ => ?_) (fun _ => ?_)) <;> (conv => whnf)))
          · rename_i h1
            rw [decide_eq_true (by omega)] at hlb
            refine ⟨by omega, [.int .i64 x], nums_at hx, ?_⟩
            conv => whnf
            repeat' (first | ((with_reducible apply rd_intro); (focus (intro K hK; (conv => whnf); first | exact hK | (intro z hz; rw [wrapI (by omega)] at hz; subst hz; exact hK))); (conv => whnf)) | ((with_reducible apply gd_and); (focus ((conv => whnf) <;> first | rfl | (intro K hK; (conv => whnf); first | exact hK | (intro z hz; rw [wrapI (by omega)] at hz; subst hz; exact hK)))); (conv => whnf)) | ((with_reducible apply z_wrap); (focus omega); (conv => whnf)) | ((with_reducible refine mt_dec (fun _ => ?_) (fun _ => ?_)) <;> (conv => whnf)) | ((with_reducible refine mt_eq (fun _ => ?_) (fun _ => ?_)) <;> (conv => whnf)) | ((with_reducible refine mt_ne (fun _ => ?_) (fun _ => ?_)) <;> (conv => whnf)) | ((with_reducible refine mt_not (fun _ => ?_) (fun _ => ?_)) <;> (conv => whnf)) | ((with_reducible refine mt_any (fun _ => ?_) (fun _ => ?_)) <;> (conv => whnf)))
            refine ⟨by simp [hfn]; omega, ?_⟩
            conv => whnf
            repeat' (first | ((with_reducible apply rd_intro); (focus (intro K hK; (conv => whnf); first | exact hK | (intro z hz; rw [wrapI (by omega)] at hz; subst hz; exact hK))); (conv => whnf)) | ((with_reducible apply gd_and); (focus ((conv => whnf) <;> first | rfl | (intro K hK; (conv => whnf); first | exact hK | (intro z hz; rw [wrapI (by omega)] at hz; subst hz; exact hK)))); (conv => whnf)) | ((with_reducible apply z_wrap); (focus omega); (conv => whnf)) | ((with_reducible refine mt_dec (fun _ => ?_) (fun _ => ?_)) <;> (conv => whnf)) | ((with_reducible refine mt_eq (fun _ => ?_) (fun _ => ?_)) <;> (conv => whnf)) | ((with_reducible refine mt_ne (fun _ => ?_) (fun _ => ?_)) <;> (conv => whnf)) | ((with_reducible refine mt_not (fun _ => ?_) (fun _ => ?_)) <;> (conv => whnf)) | ((with_reducible refine mt_any (fun _ => ?_) (fun _ => ?_)) <;> (conv => whnf)))
            refine ⟨j + 1, rfl, ?_, by omega, by omega⟩
            rw [hsn _ hlb, ← nums_apps]
            rfl
          · rename_i h1
            rw [decide_eq_false (by omega)] at hlb
            refine ⟨j + 1, rfl, ?_, by omega, by omega⟩
            rw [hsn _ hlb]; simp [Dag.cells, Cert.hcells]
      · rename_i hjl
        rw [List.take_of_length_le (by omega)]
        exact ⟨rfl, rfl⟩
end Go.Proofs.Ytoeppembokpjkaa
