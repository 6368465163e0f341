/- Part of the proof of CursorExact: the contracts of the functions. -/
import Derived.Test.YtoeppembokpjkaaGreatCursorExactCodC

set_option linter.unusedVariables false
set_option linter.unusedSimpArgs false
namespace Go.Proofs.YtoeppembokpjkaaGreat
open Go.Ab Go.RowKit Go.MapKept
attribute [local irreducible] ACalls AW ADraw Into fltB fnear
set_option maxRecDepth 100000
/-- going on, as data -/
def Wk.goF (d : Dag) : Nat → Wk → Wk
  | 0, w => w
  | n + 1, w => if nextC d w.c.round > 0 then Wk.goF d n (w.putL d (backI d w.c.round (nextC d w.c.round))) else w
theorem goF_end {d : Dag} {w : Wk} (h : ¬ nextC d w.c.round > 0) : ∀ n, Wk.goF d n w = w
  | 0 => rfl
  | n + 1 => by rw [Wk.goF, if_neg h]
def zCur : AB := .cells [.d (.int .i64 0), .d .nils, .d (.int .i64 0)]
def Wk.cellsAt (d : Dag) (w : Wk) (i j : Nat) : AB := .cells (w.cells d i j)
/-- the outer loop's state: b: nothing was put out yet -/
def goSt (d : Dag) (done0 : List Int) : Bool × Wk → AF × List AB
  | (true, w) => ([(2, .ptr 1 0), (4, .ptr 2 0), (6, .ptr 3 0), (7, .d (.int .i64 (nextC d w.c.round)))], [.row 3 1 (nums w.c.done) false, .cells d.cells, zCur, .cells (w.cells d 0 4), .row 3 1 (nums w.outs) false])
  | (false, w) => ([(2, .ptr 1 0), (4, .ptr 2 0), (6, .ptr 3 0), (7, .d (.int .i64 (nextC d w.c.round)))], [.row 3 1 (nums done0) true, .cells d.cells, zCur, .cells (w.cells d 4 5), .row 3 1 (nums w.c.done) false, .row 3 1 (nums w.outs) false])
def goIn (d : Dag) (done0 : List Int) (l : List Int) : Bool × Wk × Nat → AF × List AB
  | (true, w, j) => ([(2, .ptr 1 0), (4, .ptr 2 0), (6, .ptr 3 0), (37, .arr 4), (38, .d (.int .i64 l.length)), (39, .d (.int .i64 j))], [.row 3 1 (nums w.c.done) false, .cells d.cells, zCur, .cells (w.cells d 0 5), .row 3 1 (nums l) false, .row 3 1 (nums w.outs) false])
  | (false, w, j) => ([(2, .ptr 1 0), (4, .ptr 2 0), (6, .ptr 3 0), (37, .arr 4), (38, .d (.int .i64 l.length)), (39, .d (.int .i64 j))], [.row 3 1 (nums done0) true, .cells d.cells, zCur, .cells (w.cells d 5 6), .row 3 1 (nums l) false, .row 3 1 (nums w.c.done) false, .row 3 1 (nums w.outs) false])
theorem nextR_spec (d : Dag) : ∀ r : Int, nextR d r = 0 ∨ (r ≤ nextR d r ∧ nextR d r < topR d.certs ∧ settled d (nextR d r) = true ∧ nextR d r % 2 = r % 2) := by
  intro r
  induction r using nextR.induct (d := d) with
  | case1 r h => exact .inl (next_top h)
  | case2 r h h2 => rw [next_here h h2]; exact .inr ⟨by omega, by omega, h2, rfl⟩
  | case3 r h h2 ih =>
    rw [next_on h (by simpa using h2)]
    rcases ih with ih | ⟨i1, i2, i3, i4⟩
    · exact .inl ih
    · exact .inr ⟨by omega, i2, i3, by omega⟩
theorem settled_anchor {d : Dag} (hn : 0 < d.nodes) {r : Int} (h : settled d r = true) : anchorI d r ≠ 0 := by
  intro h0
  unfold settled at h
  have hv : votes d r = 0 := by
    unfold votes
    rw [h0]
    rw [List.filter_eq_nil_iff.2]
    · rfl
    · intro c _; simp
  rw [hv] at h
  simp at h
  omega
theorem nextC_spec {d : Dag} (hw : d.well) {after : Int} (ha : 0 ≤ after) (he : after % 2 = 0) (h : nextC d after > 0) : after < nextC d after ∧ nextC d after < topR d.certs ∧ settled d (nextC d after) = true ∧ nextC d after % 2 = 0 ∧ anchorI d (nextC d after) ≠ 0 ∧ 2 ≤ nextC d after := by
  have hl := hw.low
  rcases nextR_spec d (max after (d.low - d.low % 2) + 2) with h1 | ⟨h1, h2, h3, h4⟩
  · unfold nextC at h; omega
  · unfold nextC at h ⊢
    have h5 : (d.low - d.low % 2) % 2 = 0 := by omega
    have h6 : (max after (d.low - d.low % 2) + 2) % 2 = 0 := by
      rcases Int.le_total after (d.low - d.low % 2) with h7 | h7
      · rw [Int.max_eq_right h7]; omega
      · rw [Int.max_eq_left h7]; omega
    exact ⟨by omega, h2, h3, by omega, settled_anchor hw.nodes.1 h3, by omega⟩
structure goInv (d : Dag) (done0 : List Int) (fin : Wk) (b : Bool) (w : Wk) : Prop where
  okay : w.okay d
  round : 0 ≤ w.c.round ∧ w.c.round ≤ 1099511627776 ∧ w.c.round % 2 = 0
  first : b = true → w.c.done = done0
  fin : ∃ n : Nat, topR d.certs - w.c.round ≤ n ∧ fin = Wk.goF d n w
structure goInI (d : Dag) (done0 : List Int) (w0 : Wk) (l : List Int) (b : Bool) (w : Wk) (j : Nat) : Prop where
  okay : w.okay d
  le : j ≤ l.length
  first : b = true → w.c.done = done0
  is : w = w0.putL d (l.take j)
  next : ∀ x ∈ l.drop j, w.c.round < roundOf d x
  last : ∀ x, 0 < j → l[j - 1]? = some x → w.c.round = roundOf d x
structure Chain (d : Dag) (w0 : Wk) (l : List Int) : Prop where
  all : ∀ x ∈ l, ∃ q, w0.c.round < q ∧ q ≤ nextC d w0.c.round ∧ x = anchorI d q ∧ anchorI d q ≠ 0
  up : l.Pairwise fun x y => roundOf d x < roundOf d y
  last : l.getLast? = some (anchorI d (nextC d w0.c.round))
theorem Chain.at {d : Dag} (hw : d.well) {w0 : Wk} {l : List Int} (h : Chain d w0 l) {j : Nat} (hj : j < l.length) : ∃ x i c, l[j]? = some x ∧ getC d.certs x = some i ∧ d.certs[i]? = some c ∧ roundOf d x = c.round := by
  obtain ⟨q, q1, q2, hxq, q3⟩ := h.all l[j] (List.getElem_mem hj)
  obtain ⟨c2, hco, hcr, _⟩ := anchor_cert hw q3
  rw [← hxq] at hco
  obtain ⟨hcm, hcd, i, hg, hc2⟩ := certOf_some hco
  exact ⟨l[j], i, c2, List.getElem?_eq_getElem hj, hg, hc2, by rw [roundOf, hco]; rfl⟩
theorem Chain.len {d : Dag} (hw : d.well) {w0 : Wk} {l : List Int} (h : Chain d w0 l) : l.length ≤ d.certs.length := by
  have hn : l.Nodup := h.up.imp fun {a b} hab e => by rw [e] at hab; omega
  have := sub_len (m := d.certs.map (·.digest)) hn fun x hx => by
    obtain ⟨q, _, _, rfl, q3⟩ := h.all x hx
    obtain ⟨c, hc, _⟩ := anchor_cert hw q3
    obtain ⟨h1, h2, _⟩ := certOf_some hc
    exact List.mem_map.2 ⟨c, h1, h2⟩
  simpa using this
theorem goInI.start {d : Dag} (hw : d.well) {done0 : List Int} {w : Wk} {l : List Int} (h : Chain d w l) (hok : w.okay d) {b : Bool} (hb : b = true → w.c.done = done0) : goInI d done0 w l b w 0 := by
  refine ⟨hok, Nat.zero_le _, hb, rfl, ?_, fun x h => absurd h (Nat.lt_irrefl 0)⟩
  intro x hx
  obtain ⟨q, q1, q2, rfl, q3⟩ := h.all x (by simpa using hx)
  rw [anchor_round hw q3]; exact q1
theorem goInI.step {d : Dag} (hw : d.well) {done0 : List Int} {w0 : Wk} {l : List Int} (hch : Chain d w0 l) {b : Bool} {w : Wk} {j : Nat} (h : goInI d done0 w0 l b w j) (hj : j < l.length) {x : Int} {i : Nat} {c : Cert} (hx : l[j]? = some x) (hg : getC d.certs x = some i) (hc : d.certs[i]? = some c) (hr : roundOf d x = c.round) : goInI d done0 w0 l false (w.put d i c) (j + 1) := by
  have hlt : w.c.round < c.round := by rw [← hr]; exact h.next x (by rw [List.mem_iff_getElem?]; exact ⟨0, by rw [List.getElem?_drop]; simpa using hx⟩)
  refine ⟨h.okay.put hw hc hlt, by omega, (fun h => by cases h), ?_, ?_, ?_⟩
  · rw [List.take_add_one, hx, Wk.putL, Option.toList_some, List.foldl_append, List.foldl_cons, List.foldl_nil]
    show _ = Wk.putA d (w0.putL d (l.take j)) x
    rw [← h.is, putA_eq hg hc]
  · intro y hy
    show c.round < _
    rw [← hr]
    have hp : (l.drop j).Pairwise (fun x y => roundOf d x < roundOf d y) := hch.up.sublist (List.drop_sublist ..)
    rw [List.drop_eq_getElem_cons hj] at hp
    have := (List.pairwise_cons.1 hp).1 y hy
    rw [List.getElem?_eq_getElem hj] at hx
    rw [← Option.some.inj hx]
    exact this
  · intro y _ hy
    rw [Nat.add_sub_cancel, hx] at hy
    cases hy
    exact hr.symm
theorem goInI.done {d : Dag} (hw : d.well) {done0 : List Int} {w0 : Wk} {l : List Int} (hch : Chain d w0 l) (hpos : nextC d w0.c.round > 0) (h0 : 0 ≤ w0.c.round) (he : w0.c.round % 2 = 0) {fin : Wk} {b : Bool} {w : Wk} {j : Nat} (h : goInI d done0 w0 l b w j) (hj : ¬ (j : Int) < l.length) (hl : backI d w0.c.round (nextC d w0.c.round) = l)
    (hfin : ∃ n : Nat, topR d.certs - w0.c.round ≤ n ∧ fin = Wk.goF d n w0) : goInv d done0 fin b w ∧ (topR d.certs - w.c.round).toNat < (topR d.certs - w0.c.round).toNat := by
  obtain ⟨s1, s2, s3, s4, s5, s6⟩ := nextC_spec hw h0 he hpos
  have hjl : j = l.length := by have := h.le; omega
  subst hjl
  have his := h.is
  rw [List.take_length] at his
  have hlast : l[l.length - 1]? = some (anchorI d (nextC d w0.c.round)) := by rw [← List.getLast?_eq_getElem?]; exact hch.last
  have hlen0 : 0 < l.length := by
    rcases Nat.eq_zero_or_pos l.length with h | h
    · rw [List.length_eq_zero_iff.1 h] at hlast; cases hlast
    · exact h
  have hround : w.c.round = nextC d w0.c.round := by rw [h.last _ hlen0 hlast, anchor_round hw s5]
  have htop := hw.top
  refine ⟨⟨h.okay, ⟨by omega, by omega, by omega⟩, h.first, ?_⟩, by omega⟩
  obtain ⟨n, h4, h5⟩ := hfin
  cases n with
  | zero => exact absurd h4 (by omega)
  | succ m =>
    rw [Wk.goF, if_pos hpos, hl, ← his] at h5
    exact ⟨m, by omega, h5⟩
theorem goInv.chain {d : Dag} (hw : d.well) {done0 : List Int} {fin : Wk} {b : Bool} {w : Wk} (h : goInv d done0 fin b w) (hpos : nextC d w.c.round > 0) : Chain d w (backI d w.c.round (nextC d w.c.round)) := by
  obtain ⟨s1, s2, s3, s4, s5, s6⟩ := nextC_spec hw h.round.1 h.round.2.2 hpos
  obtain ⟨a1, a2, a3⟩ := backI_all hw s1 s5
  exact ⟨a1, a2, a3⟩
set_option maxHeartbeats 4000000 in
theorem go_ok (d : Dag) (hw : d.well) (c : Cursor) (hr : 0 ≤ c.round ∧ c.round ≤ 1099511627776) (he : c.round % 2 = 0) (hok : (Wk.mk c []).okay d) (fin : Wk) (hfin : fin = Wk.goF d (topR d.certs).toNat ⟨c, []⟩) :
    ACalls Tryz.prog 57 [d.av, .agg [.d (.int .i64 c.round), .arr 0, .d (.int .i64 c.count)]] [.row 3 1 (nums c.done) false] (fun av L => (fin.c.done = c.done ∧ av = .tup [.agg [.d (.int .i64 fin.c.round), .arr 0, .d (.int .i64 fin.c.count)], .arr 1] ∧ L = [.row 3 1 (nums fin.c.done) false, .row 3 1 (nums fin.outs) false]) ∨ (av = .tup [.agg [.d (.int .i64 fin.c.round), .arr 1, .d (.int .i64 fin.c.count)], .arr 2] ∧ L = [.row 3 1 (nums c.done) true, .row 3 1 (nums fin.c.done) false, .row 3 1 (nums fin.outs) false])) := by
  refine acalls_go ttOk zOk foOk Tryz.func57 rfl Tryz.ntmps57 rfl true rfl ?_
  conv => whnf
  ((with_reducible refine draw_pl ttOk zOk foOk mixedOk pl57x2 ?_ ?_); (focus kernel_rfl); (conv => whnf))
  repeat' (first | ((with_reducible apply rd_intro); (focus (intro K hK; (conv => whnf); first | exact hK | (intro z hz; rw [wrapI (by omega)] at hz; subst hz; exact hK))); (conv => whnf)) | ((with_reducible apply gd_and); (focus ((conv => whnf) <;> first | rfl | (intro K hK; (conv => whnf); first | exact hK | (intro z hz; rw [wrapI (by omega)] at hz; subst hz; exact hK)))); (conv => whnf)) | ((with_reducible apply z_wrap); (focus omega); (conv => whnf)) | ((with_reducible first | apply mt_dec | apply mt_eq | apply mt_ne | apply mt_not | apply mt_any) <;> (intro _; conv => whnf)))
  refine (next_ok d hw c.round hr).mono ?_
  rintro _ _ ⟨rfl, rfl⟩
  conv => whnf
  repeat' (first | ((with_reducible apply rd_intro); (focus (intro K hK; (conv => whnf); first | exact hK | (intro z hz; rw [wrapI (by omega)] at hz; subst hz; exact hK))); (conv => whnf)) | ((with_reducible apply gd_and); (focus ((conv => whnf) <;> first | rfl | (intro K hK; (conv => whnf); first | exact hK | (intro z hz; rw [wrapI (by omega)] at hz; subst hz; exact hK)))); (conv => whnf)) | ((with_reducible apply z_wrap); (focus omega); (conv => whnf)) | ((with_reducible first | apply mt_dec | apply mt_eq | apply mt_ne | apply mt_not | apply mt_any) <;> (intro _; conv => whnf)))
  refine loop_go ttOk zOk foOk (σ := Bool × Wk) (goSt d c.done) (fun s => goInv d c.done fin s.1 s.2) (fun s => (topR d.certs - s.2.c.round).toNat) [2, 4, 6, 7] ?_ ?_
  · conv => whnf
    exact ⟨(true, ⟨c, []⟩), rfl, rfl, hok, ⟨hr.1, hr.2, he⟩, fun _ => rfl, (topR d.certs).toNat, by show topR d.certs - c.round ≤ ((topR d.certs).toNat : Int); omega, hfin⟩
  · rintro ⟨b, w⟩ hin0
    have h0 : goInv d c.done fin b w := hin0
    clear hin0
    cases b with
    | true =>
      conv => whnf
      repeat' (first | ((with_reducible apply rd_intro); (focus (intro K hK; (conv => whnf); first | exact hK | (intro z hz; rw [wrapI (by omega)] at hz; subst hz; exact hK))); (conv => whnf)) | ((with_reducible apply gd_and); (focus ((conv => whnf) <;> first | rfl | (intro K hK; (conv => whnf); first | exact hK | (intro z hz; rw [wrapI (by omega)] at hz; subst hz; exact hK)))); (conv => whnf)) | ((with_reducible apply z_wrap); (focus omega); (conv => whnf)) | ((with_reducible first | apply mt_dec | apply mt_eq | apply mt_ne | apply mt_not | apply mt_any) <;> (intro _; conv => whnf)))
      · rename_i hpos
        have hsp := nextC_spec hw h0.round.1 h0.round.2.2 hpos
        have htop := hw.top
        have hch := h0.chain hw hpos
        ((with_reducible refine draw_pl ttOk zOk foOk mixedOk pl57x5 ?_ ?_); (focus kernel_rfl); (conv => whnf))
        repeat' (first | ((with_reducible apply rd_intro); (focus (intro K hK; (conv => whnf); first | exact hK | (intro z hz; rw [wrapI (by omega)] at hz; subst hz; exact hK))); (conv => whnf)) | ((with_reducible apply gd_and); (focus ((conv => whnf) <;> first | rfl | (intro K hK; (conv => whnf); first | exact hK | (intro z hz; rw [wrapI (by omega)] at hz; subst hz; exact hK)))); (conv => whnf)) | ((with_reducible apply z_wrap); (focus omega); (conv => whnf)) | ((with_reducible first | apply mt_dec | apply mt_eq | apply mt_ne | apply mt_not | apply mt_any) <;> (intro _; conv => whnf)))
        refine (back_ok d hw w.c.round (nextC d w.c.round) h0.round.1 hsp.1 hsp.2.2.2.1 ⟨hsp.2.2.2.2.2, by have := hsp.2.1; omega⟩ hsp.2.2.2.2.1).mono ?_
        rintro _ _ ⟨rfl, rfl⟩
        obtain ⟨l, hl⟩ : ∃ l, backI d w.c.round (nextC d w.c.round) = l := ⟨_, rfl⟩
        rw [hl] at hch ⊢
        have hnl := nums_length l
        conv => whnf
        repeat' (first | ((with_reducible apply rd_intro); (focus (intro K hK; (conv => whnf); first | exact hK | (intro z hz; rw [wrapI (by omega)] at hz; subst hz; exact hK))); (conv => whnf)) | ((with_reducible apply gd_and); (focus ((conv => whnf) <;> first | rfl | (intro K hK; (conv => whnf); first | exact hK | (intro z hz; rw [wrapI (by omega)] at hz; subst hz; exact hK)))); (conv => whnf)) | ((with_reducible apply z_wrap); (focus omega); (conv => whnf)) | ((with_reducible first | apply mt_dec | apply mt_eq | apply mt_ne | apply mt_not | apply mt_any) <;> (intro _; conv => whnf)))
        refine loop_go ttOk zOk foOk (σ := Bool × Wk × Nat) (goIn d c.done l) (fun s => goInI d c.done w l s.1 s.2.1 s.2.2) (fun s => l.length - s.2.2) [2, 4, 6, 37, 38, 39] ?_ ?_
        · conv => whnf
          exact ⟨(true, w, 0), by rw [hnl]; rfl, rfl, goInI.start hw hch h0.okay h0.first⟩
        · rintro ⟨b2, w2, j⟩ hin1
          have hin : goInI d c.done w l b2 w2 j := hin1
          clear hin1
          cases b2 with
          | true =>
            conv => whnf
            repeat' (first | ((with_reducible apply rd_intro); (focus (intro K hK; (conv => whnf); first | exact hK | (intro z hz; rw [wrapI (by omega)] at hz; subst hz; exact hK))); (conv => whnf)) | ((with_reducible apply gd_and); (focus ((conv => whnf) <;> first | rfl | (intro K hK; (conv => whnf); first | exact hK | (intro z hz; rw [wrapI (by omega)] at hz; subst hz; exact hK)))); (conv => whnf)) | ((with_reducible apply z_wrap); (focus omega); (conv => whnf)) | ((with_reducible first | apply mt_dec | apply mt_eq | apply mt_ne | apply mt_not | apply mt_any) <;> (intro _; conv => whnf)))
            · rename_i hjl
              have hjn : j < l.length := Int.ofNat_lt.1 hjl
              refine Exists.elim (hch.at hw hjn) fun x hx => Exists.elim hx fun i hx => Exists.elim hx fun c2 hx => ?_
              have hlen := hch.len hw
              have hlen2 := hw.len
              have hst := hin.step hw hch hjn hx.1 hx.2.1 hx.2.2.1 hx.2.2.2
              refine ⟨Int.natCast_nonneg _, by rw [Int.toNat_natCast, hnl]; exact hjn, ?_⟩
              conv => whnf
              refine ⟨_, by rw [Int.toNat_natCast]; exact nums_at hx.1, ?_⟩
              conv => whnf
              repeat' (first | ((with_reducible apply rd_intro); (focus (intro K hK; (conv => whnf); first | exact hK | (intro z hz; rw [wrapI (by omega)] at hz; subst hz; exact hK))); (conv => whnf)) | ((with_reducible apply gd_and); (focus ((conv => whnf) <;> first | rfl | (intro K hK; (conv => whnf); first | exact hK | (intro z hz; rw [wrapI (by omega)] at hz; subst hz; exact hK)))); (conv => whnf)) | ((with_reducible apply z_wrap); (focus omega); (conv => whnf)) | ((with_reducible first | apply mt_dec | apply mt_eq | apply mt_ne | apply mt_not | apply mt_any) <;> (intro _; conv => whnf)))
              refine (put_ok d hw w2 x hx.2.1 hx.2.2.1 hin.okay.fine.rising hin.okay.fine.few (hin.okay.outs' hw) hin.okay.fine.count).mono ?_
              rintro _ _ ⟨rfl, rfl⟩
              conv => whnf
              repeat' (first | ((with_reducible apply rd_intro); (focus (intro K hK; (conv => whnf); first | exact hK | (intro z hz; rw [wrapI (by omega)] at hz; subst hz; exact hK))); (conv => whnf)) | ((with_reducible apply gd_and); (focus ((conv => whnf) <;> first | rfl | (intro K hK; (conv => whnf); first | exact hK | (intro z hz; rw [wrapI (by omega)] at hz; subst hz; exact hK)))); (conv => whnf)) | ((with_reducible apply z_wrap); (focus omega); (conv => whnf)) | ((with_reducible first | apply mt_dec | apply mt_eq | apply mt_ne | apply mt_not | apply mt_any) <;> (intro _; conv => whnf)))
              exact ⟨(false, w2.put d i c2, j + 1), rfl, by rw [goIn, ← hin.first rfl]; rfl, hst, by show l.length - (j + 1) < l.length - j; omega⟩
            · rename_i hjl
              have hdn := hin.done hw hch hpos h0.round.1 h0.round.2.2 (fin := fin) hjl hl h0.fin
              have hr2 := hdn.1.round
              ((with_reducible refine draw_pl ttOk zOk foOk mixedOk pl57x4 ?_ ?_); (focus kernel_rfl); (conv => whnf))
              repeat' (first | ((with_reducible apply rd_intro); (focus (intro K hK; (conv => whnf); first | exact hK | (intro z hz; rw [wrapI (by omega)] at hz; subst hz; exact hK))); (conv => whnf)) | ((with_reducible apply gd_and); (focus ((conv => whnf) <;> first | rfl | (intro K hK; (conv => whnf); first | exact hK | (intro z hz; rw [wrapI (by omega)] at hz; subst hz; exact hK)))); (conv => whnf)) | ((with_reducible apply z_wrap); (focus omega); (conv => whnf)) | ((with_reducible first | apply mt_dec | apply mt_eq | apply mt_ne | apply mt_not | apply mt_any) <;> (intro _; conv => whnf)))
              refine (next_ok d hw w2.c.round ⟨hr2.1, hr2.2.1⟩).mono ?_
              rintro _ _ ⟨rfl, rfl⟩
              conv => whnf
              repeat' (first | ((with_reducible apply rd_intro); (focus (intro K hK; (conv => whnf); first | exact hK | (intro z hz; rw [wrapI (by omega)] at hz; subst hz; exact hK))); (conv => whnf)) | ((with_reducible apply gd_and); (focus ((conv => whnf) <;> first | rfl | (intro K hK; (conv => whnf); first | exact hK | (intro z hz; rw [wrapI (by omega)] at hz; subst hz; exact hK)))); (conv => whnf)) | ((with_reducible apply z_wrap); (focus omega); (conv => whnf)) | ((with_reducible first | apply mt_dec | apply mt_eq | apply mt_ne | apply mt_not | apply mt_any) <;> (intro _; conv => whnf)))
              exact ⟨(true, w2), rfl, rfl, hdn.1, hdn.2⟩
          | false =>
            conv => whnf
            repeat' (first | ((with_reducible apply rd_intro); (focus (intro K hK; (conv => whnf); first | exact hK | (intro z hz; rw [wrapI (by omega)] at hz; subst hz; exact hK))); (conv => whnf)) | ((with_reducible apply gd_and); (focus ((conv => whnf) <;> first | rfl | (intro K hK; (conv => whnf); first | exact hK | (intro z hz; rw [wrapI (by omega)] at hz; subst hz; exact hK)))); (conv => whnf)) | ((with_reducible apply z_wrap); (focus omega); (conv => whnf)) | ((with_reducible first | apply mt_dec | apply mt_eq | apply mt_ne | apply mt_not | apply mt_any) <;> (intro _; conv => whnf)))
            · rename_i hjl
              have hjn : j < l.length := Int.ofNat_lt.1 hjl
              refine Exists.elim (hch.at hw hjn) fun x hx => Exists.elim hx fun i hx => Exists.elim hx fun c2 hx => ?_
              have hlen := hch.len hw
              have hlen2 := hw.len
              have hst := hin.step hw hch hjn hx.1 hx.2.1 hx.2.2.1 hx.2.2.2
              refine ⟨Int.natCast_nonneg _, by rw [Int.toNat_natCast, hnl]; exact hjn, ?_⟩
              conv => whnf
              refine ⟨_, by rw [Int.toNat_natCast]; exact nums_at hx.1, ?_⟩
              conv => whnf
              repeat' (first | ((with_reducible apply rd_intro); (focus (intro K hK; (conv => whnf); first | exact hK | (intro z hz; rw [wrapI (by omega)] at hz; subst hz; exact hK))); (conv => whnf)) | ((with_reducible apply gd_and); (focus ((conv => whnf) <;> first | rfl | (intro K hK; (conv => whnf); first | exact hK | (intro z hz; rw [wrapI (by omega)] at hz; subst hz; exact hK)))); (conv => whnf)) | ((with_reducible apply z_wrap); (focus omega); (conv => whnf)) | ((with_reducible first | apply mt_dec | apply mt_eq | apply mt_ne | apply mt_not | apply mt_any) <;> (intro _; conv => whnf)))
              refine (put_ok d hw w2 x hx.2.1 hx.2.2.1 hin.okay.fine.rising hin.okay.fine.few (hin.okay.outs' hw) hin.okay.fine.count).mono ?_
              rintro _ _ ⟨rfl, rfl⟩
              conv => whnf
              repeat' (first | ((with_reducible apply rd_intro); (focus (intro K hK; (conv => whnf); first | exact hK | (intro z hz; rw [wrapI (by omega)] at hz; subst hz; exact hK))); (conv => whnf)) | ((with_reducible apply gd_and); (focus ((conv => whnf) <;> first | rfl | (intro K hK; (conv => whnf); first | exact hK | (intro z hz; rw [wrapI (by omega)] at hz; subst hz; exact hK)))); (conv => whnf)) | ((with_reducible apply z_wrap); (focus omega); (conv => whnf)) | ((with_reducible first | apply mt_dec | apply mt_eq | apply mt_ne | apply mt_not | apply mt_any) <;> (intro _; conv => whnf)))
              exact ⟨(false, w2.put d i c2, j + 1), rfl, rfl, hst, by show l.length - (j + 1) < l.length - j; omega⟩
            · rename_i hjl
              have hdn := hin.done hw hch hpos h0.round.1 h0.round.2.2 (fin := fin) hjl hl h0.fin
              have hr2 := hdn.1.round
              ((with_reducible refine draw_pl ttOk zOk foOk mixedOk pl57x4 ?_ ?_); (focus kernel_rfl); (conv => whnf))
              repeat' (first | ((with_reducible apply rd_intro); (focus (intro K hK; (conv => whnf); first | exact hK | (intro z hz; rw [wrapI (by omega)] at hz; subst hz; exact hK))); (conv => whnf)) | ((with_reducible apply gd_and); (focus ((conv => whnf) <;> first | rfl | (intro K hK; (conv => whnf); first | exact hK | (intro z hz; rw [wrapI (by omega)] at hz; subst hz; exact hK)))); (conv => whnf)) | ((with_reducible apply z_wrap); (focus omega); (conv => whnf)) | ((with_reducible first | apply mt_dec | apply mt_eq | apply mt_ne | apply mt_not | apply mt_any) <;> (intro _; conv => whnf)))
              refine (next_ok d hw w2.c.round ⟨hr2.1, hr2.2.1⟩).mono ?_
              rintro _ _ ⟨rfl, rfl⟩
              conv => whnf
              repeat' (first | ((with_reducible apply rd_intro); (focus (intro K hK; (conv => whnf); first | exact hK | (intro z hz; rw [wrapI (by omega)] at hz; subst hz; exact hK))); (conv => whnf)) | ((with_reducible apply gd_and); (focus ((conv => whnf) <;> first | rfl | (intro K hK; (conv => whnf); first | exact hK | (intro z hz; rw [wrapI (by omega)] at hz; subst hz; exact hK)))); (conv => whnf)) | ((with_reducible apply z_wrap); (focus omega); (conv => whnf)) | ((with_reducible first | apply mt_dec | apply mt_eq | apply mt_ne | apply mt_not | apply mt_any) <;> (intro _; conv => whnf)))
              exact ⟨(false, w2), rfl, rfl, hdn.1, hdn.2⟩
      · rename_i hpos
        have hfe : fin = w := Exists.elim h0.fin fun n hn => hn.2.trans (goF_end hpos n)
        ((with_reducible refine draw_pl ttOk zOk foOk mixedOk pl57x10 ?_ ?_); (focus kernel_rfl); (conv => whnf))
        repeat' (first | ((with_reducible apply rd_intro); (focus (intro K hK; (conv => whnf); first | exact hK | (intro z hz; rw [wrapI (by omega)] at hz; subst hz; exact hK))); (conv => whnf)) | ((with_reducible apply gd_and); (focus ((conv => whnf) <;> first | rfl | (intro K hK; (conv => whnf); first | exact hK | (intro z hz; rw [wrapI (by omega)] at hz; subst hz; exact hK)))); (conv => whnf)) | ((with_reducible apply z_wrap); (focus omega); (conv => whnf)) | ((with_reducible first | apply mt_dec | apply mt_eq | apply mt_ne | apply mt_not | apply mt_any) <;> (intro _; conv => whnf)))
        exact .inl ⟨by rw [hfe]; exact h0.first rfl, by rw [hfe], by rw [hfe]⟩
    | false =>
      conv => whnf
      repeat' (first | ((with_reducible apply rd_intro); (focus (intro K hK; (conv => whnf); first | exact hK | (intro z hz; rw [wrapI (by omega)] at hz; subst hz; exact hK))); (conv => whnf)) | ((with_reducible apply gd_and); (focus ((conv => whnf) <;> first | rfl | (intro K hK; (conv => whnf); first | exact hK | (intro z hz; rw [wrapI (by omega)] at hz; subst hz; exact hK)))); (conv => whnf)) | ((with_reducible apply z_wrap); (focus omega); (conv => whnf)) | ((with_reducible first | apply mt_dec | apply mt_eq | apply mt_ne | apply mt_not | apply mt_any) <;> (intro _; conv => whnf)))
      · rename_i hpos
        have hsp := nextC_spec hw h0.round.1 h0.round.2.2 hpos
        have htop := hw.top
        have hch := h0.chain hw hpos
        ((with_reducible refine draw_pl ttOk zOk foOk mixedOk pl57x5 ?_ ?_); (focus kernel_rfl); (conv => whnf))
        repeat' (first | ((with_reducible apply rd_intro); (focus (intro K hK; (conv => whnf); first | exact hK | (intro z hz; rw [wrapI (by omega)] at hz; subst hz; exact hK))); (conv => whnf)) | ((with_reducible apply gd_and); (focus ((conv => whnf) <;> first | rfl | (intro K hK; (conv => whnf); first | exact hK | (intro z hz; rw [wrapI (by omega)] at hz; subst hz; exact hK)))); (conv => whnf)) | ((with_reducible apply z_wrap); (focus omega); (conv => whnf)) | ((with_reducible first | apply mt_dec | apply mt_eq | apply mt_ne | apply mt_not | apply mt_any) <;> (intro _; conv => whnf)))
        refine (back_ok d hw w.c.round (nextC d w.c.round) h0.round.1 hsp.1 hsp.2.2.2.1 ⟨hsp.2.2.2.2.2, by have := hsp.2.1; omega⟩ hsp.2.2.2.2.1).mono ?_
        rintro _ _ ⟨rfl, rfl⟩
        obtain ⟨l, hl⟩ : ∃ l, backI d w.c.round (nextC d w.c.round) = l := ⟨_, rfl⟩
        rw [hl] at hch ⊢
        have hnl := nums_length l
        conv => whnf
        repeat' (first | ((with_reducible apply rd_intro); (focus (intro K hK; (conv => whnf); first | exact hK | (intro z hz; rw [wrapI (by omega)] at hz; subst hz; exact hK))); (conv => whnf)) | ((with_reducible apply gd_and); (focus ((conv => whnf) <;> first | rfl | (intro K hK; (conv => whnf); first | exact hK | (intro z hz; rw [wrapI (by omega)] at hz; subst hz; exact hK)))); (conv => whnf)) | ((with_reducible apply z_wrap); (focus omega); (conv => whnf)) | ((with_reducible first | apply mt_dec | apply mt_eq | apply mt_ne | apply mt_not | apply mt_any) <;> (intro _; conv => whnf)))
        refine loop_go ttOk zOk foOk (σ := Bool × Wk × Nat) (goIn d c.done l) (fun s => goInI d c.done w l s.1 s.2.1 s.2.2) (fun s => l.length - s.2.2) [2, 4, 6, 37, 38, 39] ?_ ?_
        · conv => whnf
          exact ⟨(false, w, 0), by rw [hnl]; rfl, rfl, goInI.start hw hch h0.okay h0.first⟩
        · rintro ⟨b2, w2, j⟩ hin1
          have hin : goInI d c.done w l b2 w2 j := hin1
          clear hin1
          cases b2 with
          | true =>
            conv => whnf
            repeat' (first | ((with_reducible apply rd_intro); (focus (intro K hK; (conv => whnf); first | exact hK | (intro z hz; rw [wrapI (by omega)] at hz; subst hz; exact hK))); (conv => whnf)) | ((with_reducible apply gd_and); (focus ((conv => whnf) <;> first | rfl | (intro K hK; (conv => whnf); first | exact hK | (intro z hz; rw [wrapI (by omega)] at hz; subst hz; exact hK)))); (conv => whnf)) | ((with_reducible apply z_wrap); (focus omega); (conv => whnf)) | ((with_reducible first | apply mt_dec | apply mt_eq | apply mt_ne | apply mt_not | apply mt_any) <;> (intro _; conv => whnf)))
            · rename_i hjl
              have hjn : j < l.length := Int.ofNat_lt.1 hjl
              refine Exists.elim (hch.at hw hjn) fun x hx => Exists.elim hx fun i hx => Exists.elim hx fun c2 hx => ?_
              have hlen := hch.len hw
              have hlen2 := hw.len
              have hst := hin.step hw hch hjn hx.1 hx.2.1 hx.2.2.1 hx.2.2.2
              refine ⟨Int.natCast_nonneg _, by rw [Int.toNat_natCast, hnl]; exact hjn, ?_⟩
              conv => whnf
              refine ⟨_, by rw [Int.toNat_natCast]; exact nums_at hx.1, ?_⟩
              conv => whnf
              repeat' (first | ((with_reducible apply rd_intro); (focus (intro K hK; (conv => whnf); first | exact hK | (intro z hz; rw [wrapI (by omega)] at hz; subst hz; exact hK))); (conv => whnf)) | ((with_reducible apply gd_and); (focus ((conv => whnf) <;> first | rfl | (intro K hK; (conv => whnf); first | exact hK | (intro z hz; rw [wrapI (by omega)] at hz; subst hz; exact hK)))); (conv => whnf)) | ((with_reducible apply z_wrap); (focus omega); (conv => whnf)) | ((with_reducible first | apply mt_dec | apply mt_eq | apply mt_ne | apply mt_not | apply mt_any) <;> (intro _; conv => whnf)))
              refine (put_ok d hw w2 x hx.2.1 hx.2.2.1 hin.okay.fine.rising hin.okay.fine.few (hin.okay.outs' hw) hin.okay.fine.count).mono ?_
              rintro _ _ ⟨rfl, rfl⟩
              conv => whnf
              repeat' (first | ((with_reducible apply rd_intro); (focus (intro K hK; (conv => whnf); first | exact hK | (intro z hz; rw [wrapI (by omega)] at hz; subst hz; exact hK))); (conv => whnf)) | ((with_reducible apply gd_and); (focus ((conv => whnf) <;> first | rfl | (intro K hK; (conv => whnf); first | exact hK | (intro z hz; rw [wrapI (by omega)] at hz; subst hz; exact hK)))); (conv => whnf)) | ((with_reducible apply z_wrap); (focus omega); (conv => whnf)) | ((with_reducible first | apply mt_dec | apply mt_eq | apply mt_ne | apply mt_not | apply mt_any) <;> (intro _; conv => whnf)))
              exact ⟨(false, w2.put d i c2, j + 1), rfl, by rw [goIn, ← hin.first rfl]; rfl, hst, by show l.length - (j + 1) < l.length - j; omega⟩
            · rename_i hjl
              have hdn := hin.done hw hch hpos h0.round.1 h0.round.2.2 (fin := fin) hjl hl h0.fin
              have hr2 := hdn.1.round
              ((with_reducible refine draw_pl ttOk zOk foOk mixedOk pl57x4 ?_ ?_); (focus kernel_rfl); (conv => whnf))
              repeat' (first | ((with_reducible apply rd_intro); (focus (intro K hK; (conv => whnf); first | exact hK | (intro z hz; rw [wrapI (by omega)] at hz; subst hz; exact hK))); (conv => whnf)) | ((with_reducible apply gd_and); (focus ((conv => whnf) <;> first | rfl | (intro K hK; (conv => whnf); first | exact hK | (intro z hz; rw [wrapI (by omega)] at hz; subst hz; exact hK)))); (conv => whnf)) | ((with_reducible apply z_wrap); (focus omega); (conv => whnf)) | ((with_reducible first | apply mt_dec | apply mt_eq | apply mt_ne | apply mt_not | apply mt_any) <;> (intro _; conv => whnf)))
              refine (next_ok d hw w2.c.round ⟨hr2.1, hr2.2.1⟩).mono ?_
              rintro _ _ ⟨rfl, rfl⟩
              conv => whnf
              repeat' (first | ((with_reducible apply rd_intro); (focus (intro K hK; (conv => whnf); first | exact hK | (intro z hz; rw [wrapI (by omega)] at hz; subst hz; exact hK))); (conv => whnf)) | ((with_reducible apply gd_and); (focus ((conv => whnf) <;> first | rfl | (intro K hK; (conv => whnf); first | exact hK | (intro z hz; rw [wrapI (by omega)] at hz; subst hz; exact hK)))); (conv => whnf)) | ((with_reducible apply z_wrap); (focus omega); (conv => whnf)) | ((with_reducible first | apply mt_dec | apply mt_eq | apply mt_ne | apply mt_not | apply mt_any) <;> (intro _; conv => whnf)))
              exact ⟨(true, w2), rfl, rfl, hdn.1, hdn.2⟩
          | false =>
            conv => whnf
            repeat' (first | ((with_reducible apply rd_intro); (focus (intro K hK; (conv => whnf); first | exact hK | (intro z hz; rw [wrapI (by omega)] at hz; subst hz; exact hK))); (conv => whnf)) | ((with_reducible apply gd_and); (focus ((conv => whnf) <;> first | rfl | (intro K hK; (conv => whnf); first | exact hK | (intro z hz; rw [wrapI (by omega)] at hz; subst hz; exact hK)))); (conv => whnf)) | ((with_reducible apply z_wrap); (focus omega); (conv => whnf)) | ((with_reducible first | apply mt_dec | apply mt_eq | apply mt_ne | apply mt_not | apply mt_any) <;> (intro _; conv => whnf)))
            · rename_i hjl
              have hjn : j < l.length := Int.ofNat_lt.1 hjl
              refine Exists.elim (hch.at hw hjn) fun x hx => Exists.elim hx fun i hx => Exists.elim hx fun c2 hx => ?_
              have hlen := hch.len hw
              have hlen2 := hw.len
              have hst := hin.step hw hch hjn hx.1 hx.2.1 hx.2.2.1 hx.2.2.2
              refine ⟨Int.natCast_nonneg _, by rw [Int.toNat_natCast, hnl]; exact hjn, ?_⟩
              conv => whnf
              refine ⟨_, by rw [Int.toNat_natCast]; exact nums_at hx.1, ?_⟩
              conv => whnf
              repeat' (first | ((with_reducible apply rd_intro); (focus (intro K hK; (conv => whnf); first | exact hK | (intro z hz; rw [wrapI (by omega)] at hz; subst hz; exact hK))); (conv => whnf)) | ((with_reducible apply gd_and); (focus ((conv => whnf) <;> first | rfl | (intro K hK; (conv => whnf); first | exact hK | (intro z hz; rw [wrapI (by omega)] at hz; subst hz; exact hK)))); (conv => whnf)) | ((with_reducible apply z_wrap); (focus omega); (conv => whnf)) | ((with_reducible first | apply mt_dec | apply mt_eq | apply mt_ne | apply mt_not | apply mt_any) <;> (intro _; conv => whnf)))
              refine (put_ok d hw w2 x hx.2.1 hx.2.2.1 hin.okay.fine.rising hin.okay.fine.few (hin.okay.outs' hw) hin.okay.fine.count).mono ?_
              rintro _ _ ⟨rfl, rfl⟩
              conv => whnf
              repeat' (first | ((with_reducible apply rd_intro); (focus (intro K hK; (conv => whnf); first | exact hK | (intro z hz; rw [wrapI (by omega)] at hz; subst hz; exact hK))); (conv => whnf)) | ((with_reducible apply gd_and); (focus ((conv => whnf) <;> first | rfl | (intro K hK; (conv => whnf); first | exact hK | (intro z hz; rw [wrapI (by omega)] at hz; subst hz; exact hK)))); (conv => whnf)) | ((with_reducible apply z_wrap); (focus omega); (conv => whnf)) | ((with_reducible first | apply mt_dec | apply mt_eq | apply mt_ne | apply mt_not | apply mt_any) <;> (intro _; conv => whnf)))
              exact ⟨(false, w2.put d i c2, j + 1), rfl, rfl, hst, by show l.length - (j + 1) < l.length - j; omega⟩
            · rename_i hjl
              have hdn := hin.done hw hch hpos h0.round.1 h0.round.2.2 (fin := fin) hjl hl h0.fin
              have hr2 := hdn.1.round
              ((with_reducible refine draw_pl ttOk zOk foOk mixedOk pl57x4 ?_ ?_); (focus kernel_rfl); (conv => whnf))
              repeat' (first | ((with_reducible apply rd_intro); (focus (intro K hK; (conv => whnf); first | exact hK | (intro z hz; rw [wrapI (by omega)] at hz; subst hz; exact hK))); (conv => whnf)) | ((with_reducible apply gd_and); (focus ((conv => whnf) <;> first | rfl | (intro K hK; (conv => whnf); first | exact hK | (intro z hz; rw [wrapI (by omega)] at hz; subst hz; exact hK)))); (conv => whnf)) | ((with_reducible apply z_wrap); (focus omega); (conv => whnf)) | ((with_reducible first | apply mt_dec | apply mt_eq | apply mt_ne | apply mt_not | apply mt_any) <;> (intro _; conv => whnf)))
              refine (next_ok d hw w2.c.round ⟨hr2.1, hr2.2.1⟩).mono ?_
              rintro _ _ ⟨rfl, rfl⟩
              conv => whnf
              repeat' (first | ((with_reducible apply rd_intro); (focus (intro K hK; (conv => whnf); first | exact hK | (intro z hz; rw [wrapI (by omega)] at hz; subst hz; exact hK))); (conv => whnf)) | ((with_reducible apply gd_and); (focus ((conv => whnf) <;> first | rfl | (intro K hK; (conv => whnf); first | exact hK | (intro z hz; rw [wrapI (by omega)] at hz; subst hz; exact hK)))); (conv => whnf)) | ((with_reducible apply z_wrap); (focus omega); (conv => whnf)) | ((with_reducible first | apply mt_dec | apply mt_eq | apply mt_ne | apply mt_not | apply mt_any) <;> (intro _; conv => whnf)))
              exact ⟨(false, w2), rfl, rfl, hdn.1, hdn.2⟩
      · rename_i hpos
        have hfe : fin = w := Exists.elim h0.fin fun n hn => hn.2.trans (goF_end hpos n)
        ((with_reducible refine draw_pl ttOk zOk foOk mixedOk pl57x10 ?_ ?_); (focus kernel_rfl); (conv => whnf))
        repeat' (first | ((with_reducible apply rd_intro); (focus (intro K hK; (conv => whnf); first | exact hK | (intro z hz; rw [wrapI (by omega)] at hz; subst hz; exact hK))); (conv => whnf)) | ((with_reducible apply gd_and); (focus ((conv => whnf) <;> first | rfl | (intro K hK; (conv => whnf); first | exact hK | (intro z hz; rw [wrapI (by omega)] at hz; subst hz; exact hK)))); (conv => whnf)) | ((with_reducible apply z_wrap); (focus omega); (conv => whnf)) | ((with_reducible first | apply mt_dec | apply mt_eq | apply mt_ne | apply mt_not | apply mt_any) <;> (intro _; conv => whnf)))
        exact .inr ⟨by rw [hfe], by rw [hfe]⟩
end Go.Proofs.YtoeppembokpjkaaGreat

namespace Go.Proofs.YtoeppembokpjkaaGreat
open Go.Ab Go.RowKit Go.MapKept
attribute [local irreducible] ACalls AW ADraw Into fltB fnear
set_option maxRecDepth 100000
structure curMay (c : Cursor) : Prop where
  round : 0 ≤ c.round ∧ c.round ≤ 1099511627776 ∧ c.round % 2 = 0
  done : riseB c.done 1 65536
  count : 0 ≤ c.count ∧ c.count ≤ 1099511627776
theorem rise_len2 {l : List Int} (h : riseB l 1 65536) : l.length ≤ 65536 := by
  have := sub_len (m := (List.range 65536).map fun n : Nat => (n : Int) + 1) (rising_nodup h.1) fun x hx => by
    have := h.2 x hx
    exact List.mem_map.2 ⟨(x - 1).toNat, by simp; omega, by omega⟩
  simpa using this
theorem digests_true (l : List Int) (h : riseB l 1 65536) : ACalls Tryz.prog 81 [.d (.sl 1 (nums l))] [] (fun av L => av = .d (.bool true) ∧ L = []) := by
  refine (digests_ok l (by have := rise_len2 h; unfold few; omega)).mono ?_
  rintro _ _ ⟨rfl, rfl⟩
  exact ⟨by rw [@decide_eq_true _ (Classical.propDecidable _) h], rfl⟩
/-- how a cursor's list comes -/
def isDone (dn : DV) (done : List Int) : Prop := (dn = .nils ∧ done = []) ∨ dn = .sl 1 (nums done)
theorem curMay_ok (c : Cursor) (dn : DV) (hdn : isDone dn c.done) (h : curMay c) : ACalls Tryz.prog 55 [.agg [.d (.int .i64 c.round), .d dn, .d (.int .i64 c.count)]] [] (fun av L => av = .d (.bool true) ∧ L = []) := by
  have hr := h.round
  have hct := h.count
  have hdt := digests_true c.done h.done
  rcases hdn with ⟨rfl, hd⟩ | rfl
  · rw [hd] at hdt
    refine acalls_go ttOk zOk foOk Tryz.func55 rfl Tryz.ntmps55 rfl false rfl ?_
    conv => whnf
    repeat' (first | ((with_reducible apply z_wrap); (focus omega); (conv => whnf)) | ((with_reducible first | apply mt_dec | apply mt_eq | apply mt_ne | apply mt_not | apply mt_any) <;> (intro _; conv => whnf)))
    · refine ⟨by decide, ?_⟩
      intro z hz
      have hz2 : z = c.round % 2 := tmod_pos (by omega) hz
      clear hz
      subst hz2
      conv => whnf
      repeat' (first | ((with_reducible apply z_wrap); (focus omega); (conv => whnf)) | ((with_reducible first | apply mt_dec | apply mt_eq | apply mt_ne | apply mt_not | apply mt_any) <;> (intro _; conv => whnf)))
      · refine hdt.mono ?_
        rintro _ _ ⟨rfl, rfl⟩
        conv => whnf
        repeat' (first | ((with_reducible apply z_wrap); (focus omega); (conv => whnf)) | ((with_reducible first | apply mt_dec | apply mt_eq | apply mt_ne | apply mt_not | apply mt_any) <;> (intro _; conv => whnf)))
        · exact ⟨boolEq (by simp; omega), rfl⟩
        · rename_i h; exact absurd hct.1 h
      · rename_i h; exact absurd hr.2.2 h
    · rename_i h1 h2; exact absurd hr.2.1 h2
    · rename_i h1; exact absurd hr.1 h1
  · refine acalls_go ttOk zOk foOk Tryz.func55 rfl Tryz.ntmps55 rfl false rfl ?_
    conv => whnf
    repeat' (first | ((with_reducible apply z_wrap); (focus omega); (conv => whnf)) | ((with_reducible first | apply mt_dec | apply mt_eq | apply mt_ne | apply mt_not | apply mt_any) <;> (intro _; conv => whnf)))
    · refine ⟨by decide, ?_⟩
      intro z hz
      have hz2 : z = c.round % 2 := tmod_pos (by omega) hz
      clear hz
      subst hz2
      conv => whnf
      repeat' (first | ((with_reducible apply z_wrap); (focus omega); (conv => whnf)) | ((with_reducible first | apply mt_dec | apply mt_eq | apply mt_ne | apply mt_not | apply mt_any) <;> (intro _; conv => whnf)))
      · refine hdt.mono ?_
        rintro _ _ ⟨rfl, rfl⟩
        conv => whnf
        repeat' (first | ((with_reducible apply z_wrap); (focus omega); (conv => whnf)) | ((with_reducible first | apply mt_dec | apply mt_eq | apply mt_ne | apply mt_not | apply mt_any) <;> (intro _; conv => whnf)))
        · exact ⟨boolEq (by simp; omega), rfl⟩
        · rename_i h; exact absurd hct.1 h
      · rename_i h; exact absurd hr.2.2 h
    · rename_i h1 h2; exact absurd hr.2.1 h2
    · rename_i h1; exact absurd hr.1 h1
/-- how far a cursor goes, and what is put out -/
def finW (d : Dag) (c : Cursor) : Wk := Wk.goF d (topR d.certs).toNat ⟨c, []⟩
theorem start_okay {d : Dag} {c : Cursor} (h : curMay c) : (Wk.mk c []).okay d := ⟨⟨h.done.1, rise_len2 h.done, h.count⟩, Nat.zero_le _⟩
def old (d : Dag) (c : Cursor) : Prop := d.low > 0 ∧ d.low > c.round - 8
def zCurAV : AV := .agg [.d (.int .i64 0), .d .nils, .d (.int .i64 0)]
/-- what a step hands back -/
def Wk.res (w : Wk) : AV := .tup [.agg [.d (.int .i64 w.c.round), .arr 0, .d (.int .i64 w.c.count)], .d (.sl 1 (nums w.outs)), .d (.int .i64 0)]
set_option maxHeartbeats 1000000 in
theorem step_ok (d : Dag) (hw : d.well) (hmay : ACalls Tryz.prog 54 [d.av] [] (fun av L => av = .d (.bool true) ∧ L = [])) (c : Cursor) (dn : DV) (hdn : isDone dn c.done) (h : curMay c) :
    ACalls Tryz.prog 14 [d.av, .agg [.d (.int .i64 c.round), .d dn, .d (.int .i64 c.count)]] [] (fun av L => (old d c ∧ av = .tup [zCurAV, .d (.sl 1 []), .d (.int .i64 6)] ∧ L = []) ∨ (¬ old d c ∧ av = (finW d c).res ∧ L = [.row 3 1 (nums (finW d c).c.done) false])) := by
  have hcm := curMay_ok c dn hdn h
  have hfew := rise_len2 h.done
  have hcl := clone_ok c.done (by omega)
  have hr := h.round
  have hgo := go_ok d hw c ⟨hr.1, hr.2.1⟩ hr.2.2 (start_okay h) (finW d c) rfl
  obtain ⟨fw, hfw⟩ : ∃ fw, finW d c = fw := ⟨_, rfl⟩
  rw [hfw] at hgo ⊢
  have hlow := hw.low
  rcases hdn with ⟨rfl, hd⟩ | rfl
  · rw [hd] at hcl hgo
    refine acalls_go ttOk zOk foOk Tryz.func14 rfl Tryz.ntmps14 rfl false rfl ?_
    conv => whnf
    refine hmay.mono ?_
    rintro _ _ ⟨rfl, rfl⟩
    conv => whnf
    repeat' (first | ((with_reducible apply z_wrap); (focus omega); (conv => whnf)) | ((with_reducible first | apply mt_dec | apply mt_eq | apply mt_ne | apply mt_not | apply mt_any) <;> (intro _; conv => whnf)))
    refine hcm.mono ?_
    rintro _ _ ⟨rfl, rfl⟩
    conv => whnf
    repeat' (first | ((with_reducible apply z_wrap); (focus omega); (conv => whnf)) | ((with_reducible first | apply mt_dec | apply mt_eq | apply mt_ne | apply mt_not | apply mt_any) <;> (intro _; conv => whnf)))
    · rename_i h1 h2
      exact .inl ⟨⟨h1, h2⟩, rfl, rfl⟩
    · rename_i h1 h2
      have hno : ¬ old d c := fun h => h2 h.2
      refine hcl.mono ?_
      rintro _ _ ⟨rfl, rfl⟩
      conv => whnf
      repeat' (first | ((with_reducible apply z_wrap); (focus omega); (conv => whnf)) | ((with_reducible first | apply mt_dec | apply mt_eq | apply mt_ne | apply mt_not | apply mt_any) <;> (intro _; conv => whnf)))
      refine hgo.mono ?_
      rintro _ _ (⟨hfd, rfl, rfl⟩ | ⟨rfl, rfl⟩)
      · conv => whnf
        repeat' (first | ((with_reducible apply z_wrap); (focus omega); (conv => whnf)) | ((with_reducible first | apply mt_dec | apply mt_eq | apply mt_ne | apply mt_not | apply mt_any) <;> (intro _; conv => whnf)))
        exact .inr ⟨hno, rfl, rfl⟩
      · conv => whnf
        repeat' (first | ((with_reducible apply z_wrap); (focus omega); (conv => whnf)) | ((with_reducible first | apply mt_dec | apply mt_eq | apply mt_ne | apply mt_not | apply mt_any) <;> (intro _; conv => whnf)))
        exact .inr ⟨hno, rfl, rfl⟩
    · rename_i h1
      have hno : ¬ old d c := fun h => h1 h.1
      refine hcl.mono ?_
      rintro _ _ ⟨rfl, rfl⟩
      conv => whnf
      repeat' (first | ((with_reducible apply z_wrap); (focus omega); (conv => whnf)) | ((with_reducible first | apply mt_dec | apply mt_eq | apply mt_ne | apply mt_not | apply mt_any) <;> (intro _; conv => whnf)))
      refine hgo.mono ?_
      rintro _ _ (⟨hfd, rfl, rfl⟩ | ⟨rfl, rfl⟩)
      · conv => whnf
        repeat' (first | ((with_reducible apply z_wrap); (focus omega); (conv => whnf)) | ((with_reducible first | apply mt_dec | apply mt_eq | apply mt_ne | apply mt_not | apply mt_any) <;> (intro _; conv => whnf)))
        exact .inr ⟨hno, rfl, rfl⟩
      · conv => whnf
        repeat' (first | ((with_reducible apply z_wrap); (focus omega); (conv => whnf)) | ((with_reducible first | apply mt_dec | apply mt_eq | apply mt_ne | apply mt_not | apply mt_any) <;> (intro _; conv => whnf)))
        exact .inr ⟨hno, rfl, rfl⟩
  · refine acalls_go ttOk zOk foOk Tryz.func14 rfl Tryz.ntmps14 rfl false rfl ?_
    conv => whnf
    refine hmay.mono ?_
    rintro _ _ ⟨rfl, rfl⟩
    conv => whnf
    repeat' (first | ((with_reducible apply z_wrap); (focus omega); (conv => whnf)) | ((with_reducible first | apply mt_dec | apply mt_eq | apply mt_ne | apply mt_not | apply mt_any) <;> (intro _; conv => whnf)))
    refine hcm.mono ?_
    rintro _ _ ⟨rfl, rfl⟩
    conv => whnf
    repeat' (first | ((with_reducible apply z_wrap); (focus omega); (conv => whnf)) | ((with_reducible first | apply mt_dec | apply mt_eq | apply mt_ne | apply mt_not | apply mt_any) <;> (intro _; conv => whnf)))
    · rename_i h1 h2
      exact .inl ⟨⟨h1, h2⟩, rfl, rfl⟩
    · rename_i h1 h2
      have hno : ¬ old d c := fun h => h2 h.2
      refine hcl.mono ?_
      rintro _ _ ⟨rfl, rfl⟩
      conv => whnf
      repeat' (first | ((with_reducible apply z_wrap); (focus omega); (conv => whnf)) | ((with_reducible first | apply mt_dec | apply mt_eq | apply mt_ne | apply mt_not | apply mt_any) <;> (intro _; conv => whnf)))
      refine hgo.mono ?_
      rintro _ _ (⟨hfd, rfl, rfl⟩ | ⟨rfl, rfl⟩)
      · conv => whnf
        repeat' (first | ((with_reducible apply z_wrap); (focus omega); (conv => whnf)) | ((with_reducible first | apply mt_dec | apply mt_eq | apply mt_ne | apply mt_not | apply mt_any) <;> (intro _; conv => whnf)))
        exact .inr ⟨hno, rfl, rfl⟩
      · conv => whnf
        repeat' (first | ((with_reducible apply z_wrap); (focus omega); (conv => whnf)) | ((with_reducible first | apply mt_dec | apply mt_eq | apply mt_ne | apply mt_not | apply mt_any) <;> (intro _; conv => whnf)))
        exact .inr ⟨hno, rfl, rfl⟩
    · rename_i h1
      have hno : ¬ old d c := fun h => h1 h.1
      refine hcl.mono ?_
      rintro _ _ ⟨rfl, rfl⟩
      conv => whnf
      repeat' (first | ((with_reducible apply z_wrap); (focus omega); (conv => whnf)) | ((with_reducible first | apply mt_dec | apply mt_eq | apply mt_ne | apply mt_not | apply mt_any) <;> (intro _; conv => whnf)))
      refine hgo.mono ?_
      rintro _ _ (⟨hfd, rfl, rfl⟩ | ⟨rfl, rfl⟩)
      · conv => whnf
        repeat' (first | ((with_reducible apply z_wrap); (focus omega); (conv => whnf)) | ((with_reducible first | apply mt_dec | apply mt_eq | apply mt_ne | apply mt_not | apply mt_any) <;> (intro _; conv => whnf)))
        exact .inr ⟨hno, rfl, rfl⟩
      · conv => whnf
        repeat' (first | ((with_reducible apply z_wrap); (focus omega); (conv => whnf)) | ((with_reducible first | apply mt_dec | apply mt_eq | apply mt_ne | apply mt_not | apply mt_any) <;> (intro _; conv => whnf)))
        exact .inr ⟨hno, rfl, rfl⟩
end Go.Proofs.YtoeppembokpjkaaGreat

namespace Go.Proofs.YtoeppembokpjkaaGreat
open Go.Ab Go.RowKit Go.MapKept
attribute [local irreducible] ACalls AW ADraw Into fltB fnear
set_option maxRecDepth 100000
/-! ## the page's In; a cursor's Check -/
def inC (l : List Int) (x : Int) : Option Nat := l.findIdx? fun y => decide (y = x)
def inI (l : List Int) (x : Int) : Int := (inC l x).elim (-1) fun i => (i : Int)
theorem inC_no {l : List Int} {x : Int} (h : ∀ c ∈ l, c ≠ x) : inC l x = none := by
  unfold inC
  rw [List.findIdx?_eq_none_iff]
  intro c hc
  simp [h c hc]
theorem inC_here {l : List Int} {x : Int} {j : Nat} (hc : l[j]? = some x) (h : ∀ c ∈ l.take j, c ≠ x) : inC l x = some j := by
  unfold inC
  rw [List.findIdx?_eq_some_iff_getElem]
  obtain ⟨hj, rfl⟩ := List.getElem?_eq_some_iff.1 hc
  refine ⟨hj, by simp, fun i hi => ?_⟩
  have := h l[i] (List.mem_take_iff_getElem.2 ⟨i, by omega, rfl⟩)
  simpa using this
theorem inI_not {l : List Int} {x : Int} (h : x ∉ l) : inI l x = -1 := by
  rw [inI, inC_no (l := l) (x := x) fun c hc e => h (by rw [← e]; exact hc)]; rfl
theorem inI_in {l : List Int} {x : Int} (h : x ∈ l) : 0 ≤ inI l x := by
  unfold inI
  cases hc : inC l x with
  | none =>
    unfold inC at hc
    rw [List.findIdx?_eq_none_iff] at hc
    have := hc x h
    simp at this
  | some i => show (0 : Int) ≤ (i : Int); omega
theorem inI_iff {l : List Int} {x : Int} : inI l x ≥ 0 ↔ x ∈ l := by
  constructor
  · intro h
    refine Classical.byContradiction fun hn => ?_
    rw [inI_not hn] at h; omega
  · exact inI_in
theorem inI_range (l : List Int) (x : Int) : -1 ≤ inI l x ∧ inI l x < max 1 (l.length : Int) := by
  unfold inI
  cases hc : inC l x with
  | none => show (-1 : Int) ≤ -1 ∧ (-1 : Int) < _; omega
  | some i =>
    unfold inC at hc
    rw [List.findIdx?_eq_some_iff_getElem] at hc
    obtain ⟨hj, _⟩ := hc
    show (-1 : Int) ≤ (i : Int) ∧ (i : Int) < _; omega
theorem in_ok (l : List Int) (hl : few l) (x : Int) : ACalls Tryz.prog 40 [.d (.sl 1 (nums l)), .d (.int .i64 x)] [] (fun av L => av = .d (.int .i64 (inI l x)) ∧ L = []) := by
  have hcl := nums_length l
  unfold few at hl
  refine acalls_go ttOk zOk foOk Tryz.func40 rfl Tryz.ntmps40 rfl false rfl ?_
  conv => whnf
  refine loop_go ttOk zOk foOk (σ := Nat) (fun j => ([(0, .d (.sl 1 (nums l))), (1, .d (.int .i64 x)), (5, .d (.int .i64 j))], [])) (fun j => j ≤ l.length ∧ ∀ c ∈ l.take j, c ≠ x) (fun j => l.length - j) [0, 1, 5] ?_ ?_
  · conv => whnf
    exact ⟨0, rfl, rfl, Nat.zero_le _, by simp⟩
  · rintro j ⟨hj, hall⟩
    conv => whnf
    rw [hcl]
    repeat' (first | ((with_reducible apply z_wrap); (focus omega); (conv => whnf)) | ((with_reducible first | apply mt_dec | apply mt_eq | apply mt_ne | apply mt_not | apply mt_any) <;> (intro _; conv => whnf)))
    · rename_i h
      refine Exists.elim (⟨_, List.getElem?_eq_getElem (by omega)⟩ : ∃ c, l[j]? = some c) fun c hc => ?_
      refine ⟨by omega, [.int .i64 c], nums_at hc, ?_⟩
      conv => whnf
      repeat' (first | ((with_reducible apply z_wrap); (focus omega); (conv => whnf)) | ((with_reducible first | apply mt_dec | apply mt_eq | apply mt_ne | apply mt_not | apply mt_any) <;> (intro _; conv => whnf)))
      · rename_i h2
        rw [inI, inC_here (by rw [hc, h2]) hall]
        exact ⟨rfl, rfl⟩
      · rename_i h2
        refine ⟨j + 1, rfl, rfl, ⟨by omega, fun y hy => ?_⟩, by omega⟩
        rw [List.take_add_one, hc] at hy
        rcases List.mem_append.1 hy with hy | hy
        · exact hall y hy
        · simp at hy; rw [hy]; exact h2
    · rename_i h
      rw [List.take_of_length_le (by omega)] at hall
      rw [inI, inC_no hall]
      exact ⟨rfl, rfl⟩
theorem curCheck_ok (c : Cursor) (dn : DV) (hdn : isDone dn c.done) (h : curMay c) : ACalls Tryz.prog 16 [.agg [.d (.int .i64 c.round), .d dn, .d (.int .i64 c.count)]] [] (fun av L => av = .d (.int .i64 0) ∧ L = []) := by
  have hm := curMay_ok c dn hdn h
  refine acalls_go ttOk zOk foOk Tryz.func16 rfl Tryz.ntmps16 rfl false rfl ?_
  conv => whnf
  refine hm.mono ?_
  rintro _ _ ⟨rfl, rfl⟩
  conv => whnf
  exact ⟨rfl, rfl⟩
end Go.Proofs.YtoeppembokpjkaaGreat

namespace Go.Proofs.YtoeppembokpjkaaGreat
open Go.Ab Go.RowKit Go.MapKept
attribute [local irreducible] ACalls AW ADraw Into fltB fnear
set_option maxRecDepth 100000
/-! ## the page's anchors, votes, and what is settled -/
theorem rLeader_ok (n r : Int) (hn : 0 < n ∧ n ≤ 16) (hr : 2 ≤ r ∧ r ≤ 1099511627777) : ACalls Tryz.prog 99 [.d (.int .i64 n), .d (.int .i64 r)] [] (fun av L => av = .d (.int .i64 (leadI n r)) ∧ L = []) := by
  have h1 := Int.emod_nonneg (r / 2 - 1) (show n ≠ 0 by omega)
  have h2 := Int.emod_lt_of_pos (r / 2 - 1) hn.1
  refine acalls_go ttOk zOk foOk Tryz.func99 rfl Tryz.ntmps99 rfl false rfl ?_
  conv => whnf
  refine ⟨by decide, ?_⟩
  intro z hz
  have : z = r / 2 := by rw [hz, Int.tdiv_eq_ediv_of_nonneg (by omega), wrapI (by omega)]
  clear hz
  subst this
  conv => whnf
  ((with_reducible apply z_wrap); (focus omega); (conv => whnf))
  refine ⟨by omega, ?_⟩
  intro z hz
  have : z = (r / 2 - 1) % n := by rw [hz, Int.tmod_eq_emod_of_nonneg (by omega)]
  clear hz
  subst this
  conv => whnf
  ((with_reducible apply z_wrap); (focus omega); (conv => whnf))
  exact ⟨rfl, rfl⟩
theorem rFew_ok (n : Int) (hn : 0 < n ∧ n ≤ 16) : ACalls Tryz.prog 98 [.d (.int .i64 n)] [] (fun av L => av = .d (.int .i64 (n / 3 + 1)) ∧ L = []) := by
  refine acalls_go ttOk zOk foOk Tryz.func98 rfl Tryz.ntmps98 rfl false rfl ?_
  conv => whnf
  refine ⟨by decide, ?_⟩
  intro z hz
  have : z = n / 3 := by rw [hz, Int.tdiv_eq_ediv_of_nonneg (by omega), wrapI (by omega)]
  clear hz
  subst this
  conv => whnf
  ((with_reducible apply z_wrap); (focus omega); (conv => whnf))
  exact ⟨rfl, rfl⟩
def atX (l : List Cert) (r a : Int) : Option Nat := l.findIdx? fun c => decide (c.round = r ∧ c.author = a)
def atI (l : List Cert) (r a : Int) : Int := (atX l r a).elim (-1) fun i => (i : Int)
theorem atX_no {l : List Cert} {r a : Int} (h : ∀ c ∈ l, ¬ (c.round = r ∧ c.author = a)) : atX l r a = none := by
  unfold atX
  rw [List.findIdx?_eq_none_iff]
  intro c hc
  simpa using h c hc
theorem atX_here {l : List Cert} {r a : Int} {j : Nat} {c : Cert} (hc : l[j]? = some c) (hx : c.round = r ∧ c.author = a) (h : ∀ c ∈ l.take j, ¬ (c.round = r ∧ c.author = a)) : atX l r a = some j := by
  unfold atX
  rw [List.findIdx?_eq_some_iff_getElem]
  obtain ⟨hj, rfl⟩ := List.getElem?_eq_some_iff.1 hc
  refine ⟨hj, by simpa using hx, fun i hi => ?_⟩
  have := h l[i] (List.mem_take_iff_getElem.2 ⟨i, by omega, rfl⟩)
  simpa using this
theorem atC_of {l : List Cert} {r a : Int} : atC l r a = (atX l r a).bind fun i => l[i]? := by
  unfold atC atX
  induction l with
  | nil => rfl
  | cons c l ih =>
    rw [List.find?_cons, List.findIdx?_cons]
    cases hc : decide (c.round = r ∧ c.author = a) with
    | true => rfl
    | false =>
      rw [if_neg Bool.false_ne_true, ih]
      cases List.findIdx? (fun c => decide (c.round = r ∧ c.author = a)) l with
      | none => rfl
      | some i => rfl
theorem rAt_ok (d : Dag) (hd : few d.certs) (r a : Int) : ACalls Tryz.prog 86 [d.av, .d (.int .i64 r), .d (.int .i64 a)] [] (fun av L => av = .d (.int .i64 (atI d.certs r a)) ∧ L = []) := by
  have hcl := certsD_length d.certs
  unfold few at hd
  refine acalls_go ttOk zOk foOk Tryz.func86 rfl Tryz.ntmps86 rfl false rfl ?_
  conv => whnf
  refine loop_go ttOk zOk foOk (σ := Nat) (fun j => ([(1, .d (.int .i64 r)), (2, .d (.int .i64 a)), (3, .ptr 0 0), (7, .d (.int .i64 j))], [.cells d.cells])) (fun j => j ≤ d.certs.length ∧ ∀ c ∈ d.certs.take j, ¬ (c.round = r ∧ c.author = a)) (fun j => d.certs.length - j) [1, 2, 3, 7] ?_ ?_
  · conv => whnf
    exact ⟨0, rfl, rfl, Nat.zero_le _, by simp⟩
  · rintro j ⟨hj, hall⟩
    conv => whnf
    rw [hcl]
    repeat' (first | ((with_reducible apply rd_intro); (focus (intro K hK; (conv => whnf); first | exact hK | (intro z hz; rw [wrapI (by omega)] at hz; subst hz; exact hK))); (conv => whnf)) | ((with_reducible apply gd_and); (focus ((conv => whnf) <;> first | rfl | (intro K hK; (conv => whnf); first | exact hK | (intro z hz; rw [wrapI (by omega)] at hz; subst hz; exact hK)))); (conv => whnf)) | ((with_reducible apply z_wrap); (focus omega); (conv => whnf)) | ((with_reducible first | apply mt_dec | apply mt_eq | apply mt_ne | apply mt_not | apply mt_any) <;> (intro _; conv => whnf)))
    · rename_i h
      refine Exists.elim (⟨_, List.getElem?_eq_getElem (by omega)⟩ : ∃ c, d.certs[j]? = some c) fun c hc => ?_
      have hon : ¬ (c.round = r ∧ c.author = a) → ∀ y ∈ d.certs.take (j + 1), ¬ (y.round = r ∧ y.author = a) := by
        intro hn y hy
        rw [List.take_add_one, hc] at hy
        rcases List.mem_append.1 hy with hy | hy
        · exact hall y hy
        · simp at hy; rw [hy]; exact hn
      refine ⟨by omega, c.cs, certsD_at hc, ?_⟩
      conv => whnf
      repeat' (first | ((with_reducible apply rd_intro); (focus (intro K hK; (conv => whnf); first | exact hK | (intro z hz; rw [wrapI (by omega)] at hz; subst hz; exact hK))); (conv => whnf)) | ((with_reducible apply gd_and); (focus ((conv => whnf) <;> first | rfl | (intro K hK; (conv => whnf); first | exact hK | (intro z hz; rw [wrapI (by omega)] at hz; subst hz; exact hK)))); (conv => whnf)) | ((with_reducible apply z_wrap); (focus omega); (conv => whnf)) | ((with_reducible first | apply mt_dec | apply mt_eq | apply mt_ne | apply mt_not | apply mt_any) <;> (intro _; conv => whnf)))
      · rename_i h1
        refine ⟨by omega, c.cs, certsD_at hc, ?_⟩
        conv => whnf
        repeat' (first | ((with_reducible apply rd_intro); (focus (intro K hK; (conv => whnf); first | exact hK | (intro z hz; rw [wrapI (by omega)] at hz; subst hz; exact hK))); (conv => whnf)) | ((with_reducible apply gd_and); (focus ((conv => whnf) <;> first | rfl | (intro K hK; (conv => whnf); first | exact hK | (intro z hz; rw [wrapI (by omega)] at hz; subst hz; exact hK)))); (conv => whnf)) | ((with_reducible apply z_wrap); (focus omega); (conv => whnf)) | ((with_reducible first | apply mt_dec | apply mt_eq | apply mt_ne | apply mt_not | apply mt_any) <;> (intro _; conv => whnf)))
        · rename_i h2
          rw [atI, atX_here hc ⟨h1, h2⟩ hall]
          exact ⟨rfl, rfl⟩
        · rename_i h2
          exact ⟨j + 1, rfl, rfl, ⟨by omega, hon fun h => h2 h.2⟩, by omega⟩
      · rename_i h1
        exact ⟨j + 1, rfl, rfl, ⟨by omega, hon fun h => h1 h.1⟩, by omega⟩
    · rename_i h
      rw [List.take_of_length_le (by omega)] at hall
      rw [atI, atX_no hall]
      exact ⟨rfl, rfl⟩
theorem rAnchor_ok (d : Dag) (hd : few d.certs) (hn : 0 < d.nodes ∧ d.nodes ≤ 16) (r : Int) (hr : 2 ≤ r ∧ r ≤ 1099511627777) : ACalls Tryz.prog 74 [d.av, .d (.int .i64 r)] [] (fun av L => av = .d (.int .i64 (anchorI d r)) ∧ L = []) := by
  have hcl := certsD_length d.certs
  have hat := rAt_ok d hd r (leadI d.nodes r)
  unfold few at hd
  obtain ⟨a, hla⟩ : ∃ a, leadI d.nodes r = a := ⟨_, rfl⟩
  have hle := rLeader_ok d.nodes r hn hr
  rw [hla] at hle hat
  rw [anchorI, hla, atC_of]
  unfold atI at hat
  refine acalls_go ttOk zOk foOk Tryz.func74 rfl Tryz.ntmps74 rfl false rfl ?_
  conv => whnf
  cases hx : atX d.certs r a with
  | none =>
    rw [hx] at hat
    ((with_reducible refine draw_pl ttOk zOk foOk mixedOk pl74x1 ?_ ?_); (focus kernel_rfl); (conv => whnf))
    repeat' (first | ((with_reducible apply rd_intro); (focus (intro K hK; (conv => whnf); first | exact hK | (intro z hz; rw [wrapI (by omega)] at hz; subst hz; exact hK))); (conv => whnf)) | ((with_reducible apply gd_and); (focus ((conv => whnf) <;> first | rfl | (intro K hK; (conv => whnf); first | exact hK | (intro z hz; rw [wrapI (by omega)] at hz; subst hz; exact hK)))); (conv => whnf)) | ((with_reducible apply z_wrap); (focus omega); (conv => whnf)) | ((with_reducible first | apply mt_dec | apply mt_eq | apply mt_ne | apply mt_not | apply mt_any) <;> (intro _; conv => whnf)))
    refine hle.mono ?_
    rintro _ _ ⟨rfl, rfl⟩
    conv => whnf
    repeat' (first | ((with_reducible apply rd_intro); (focus (intro K hK; (conv => whnf); first | exact hK | (intro z hz; rw [wrapI (by omega)] at hz; subst hz; exact hK))); (conv => whnf)) | ((with_reducible apply gd_and); (focus ((conv => whnf) <;> first | rfl | (intro K hK; (conv => whnf); first | exact hK | (intro z hz; rw [wrapI (by omega)] at hz; subst hz; exact hK)))); (conv => whnf)) | ((with_reducible apply z_wrap); (focus omega); (conv => whnf)) | ((with_reducible first | apply mt_dec | apply mt_eq | apply mt_ne | apply mt_not | apply mt_any) <;> (intro _; conv => whnf)))
    refine hat.mono ?_
    rintro _ _ ⟨rfl, rfl⟩
    conv => whnf
    repeat' (first | ((with_reducible apply rd_intro); (focus (intro K hK; (conv => whnf); first | exact hK | (intro z hz; rw [wrapI (by omega)] at hz; subst hz; exact hK))); (conv => whnf)) | ((with_reducible apply gd_and); (focus ((conv => whnf) <;> first | rfl | (intro K hK; (conv => whnf); first | exact hK | (intro z hz; rw [wrapI (by omega)] at hz; subst hz; exact hK)))); (conv => whnf)) | ((with_reducible apply z_wrap); (focus omega); (conv => whnf)) | ((with_reducible first | apply mt_dec | apply mt_eq | apply mt_ne | apply mt_not | apply mt_any) <;> (intro _; conv => whnf)))
    · exact ⟨rfl, rfl⟩
  | some i =>
    simp only [hx, Option.elim] at hat
    have hi := (List.findIdx?_eq_some_iff_getElem.1 hx).1
    refine Exists.elim (⟨_, List.getElem?_eq_getElem hi⟩ : ∃ c, d.certs[i]? = some c) fun c hc => ?_
    rw [show ((some i).bind fun i => d.certs[i]?) = some c from hc]
    ((with_reducible refine draw_pl ttOk zOk foOk mixedOk pl74x1 ?_ ?_); (focus kernel_rfl); (conv => whnf))
    repeat' (first | ((with_reducible apply rd_intro); (focus (intro K hK; (conv => whnf); first | exact hK | (intro z hz; rw [wrapI (by omega)] at hz; subst hz; exact hK))); (conv => whnf)) | ((with_reducible apply gd_and); (focus ((conv => whnf) <;> first | rfl | (intro K hK; (conv => whnf); first | exact hK | (intro z hz; rw [wrapI (by omega)] at hz; subst hz; exact hK)))); (conv => whnf)) | ((with_reducible apply z_wrap); (focus omega); (conv => whnf)) | ((with_reducible first | apply mt_dec | apply mt_eq | apply mt_ne | apply mt_not | apply mt_any) <;> (intro _; conv => whnf)))
    refine hle.mono ?_
    rintro _ _ ⟨rfl, rfl⟩
    conv => whnf
    repeat' (first | ((with_reducible apply rd_intro); (focus (intro K hK; (conv => whnf); first | exact hK | (intro z hz; rw [wrapI (by omega)] at hz; subst hz; exact hK))); (conv => whnf)) | ((with_reducible apply gd_and); (focus ((conv => whnf) <;> first | rfl | (intro K hK; (conv => whnf); first | exact hK | (intro z hz; rw [wrapI (by omega)] at hz; subst hz; exact hK)))); (conv => whnf)) | ((with_reducible apply z_wrap); (focus omega); (conv => whnf)) | ((with_reducible first | apply mt_dec | apply mt_eq | apply mt_ne | apply mt_not | apply mt_any) <;> (intro _; conv => whnf)))
    refine hat.mono ?_
    rintro _ _ ⟨rfl, rfl⟩
    conv => whnf
    repeat' (first | ((with_reducible apply rd_intro); (focus (intro K hK; (conv => whnf); first | exact hK | (intro z hz; rw [wrapI (by omega)] at hz; subst hz; exact hK))); (conv => whnf)) | ((with_reducible apply gd_and); (focus ((conv => whnf) <;> first | rfl | (intro K hK; (conv => whnf); first | exact hK | (intro z hz; rw [wrapI (by omega)] at hz; subst hz; exact hK)))); (conv => whnf)) | ((with_reducible apply z_wrap); (focus omega); (conv => whnf)) | ((with_reducible first | apply mt_dec | apply mt_eq | apply mt_ne | apply mt_not | apply mt_any) <;> (intro _; conv => whnf)))
    refine ⟨by omega, c.cs, certsD_at hc, ?_⟩
    conv => whnf
    exact ⟨rfl, rfl⟩
theorem rVotes_ok (d : Dag) (hd : few d.certs) (hn : 0 < d.nodes ∧ d.nodes ≤ 16) (hp : fewC d) (r : Int) (hr : 2 ≤ r ∧ r ≤ 1099511627776) : ACalls Tryz.prog 97 [d.av, .d (.int .i64 r)] [] (fun av L => av = .d (.int .i64 (votes d r)) ∧ L = []) := by
  have hcl := certsD_length d.certs
  have han := rAnchor_ok d hd hn r ⟨hr.1, by omega⟩
  unfold few at hd
  obtain ⟨a, ha⟩ : ∃ a, anchorI d r = a := ⟨_, rfl⟩
  rw [ha] at han
  have hv : ∀ l : List Cert, ((ofR l (r + 1)).filter fun c => decide (a > 0 ∧ a ∈ c.pars)) = l.filter fun c => decide (a > 0 ∧ a ∈ c.pars) && decide (c.round = r + 1) := by
    intro l; rw [ofR, List.filter_filter]
  rw [votes, ha, hv]
  refine acalls_go ttOk zOk foOk Tryz.func97 rfl Tryz.ntmps97 rfl false rfl ?_
  conv => whnf
  refine han.mono ?_
  rintro _ _ ⟨rfl, rfl⟩
  conv => whnf
  refine loop_go ttOk zOk foOk (σ := Nat) (fun j => ([(1, .d (.int .i64 r)), (2, .ptr 0 0), (5, .d (.int .i64 a)), (6, .d (.int .i64 (((d.certs.take j).filter fun c => decide (a > 0 ∧ a ∈ c.pars) && decide (c.round = r + 1)).length : Nat))), (7, .d (.int .i64 j))], [.cells d.cells])) (fun j => j ≤ d.certs.length) (fun j => d.certs.length - j) [1, 2, 5, 6, 7] ?_ ?_
  · conv => whnf
    exact ⟨0, rfl, rfl, Nat.zero_le _⟩
  · intro j hj
    have hlen : ((d.certs.take j).filter fun c => decide (a > 0 ∧ a ∈ c.pars) && decide (c.round = r + 1)).length ≤ j := by
      have h1 := List.length_filter_le (fun c : Cert => decide (a > 0 ∧ a ∈ c.pars) && decide (c.round = r + 1)) (d.certs.take j)
      rw [List.length_take] at h1
      omega
    conv => whnf
    rw [hcl]
    repeat' (first | ((with_reducible apply rd_intro); (focus (intro K hK; (conv => whnf); first | exact hK | (intro z hz; rw [wrapI (by omega)] at hz; subst hz; exact hK))); (conv => whnf)) | ((with_reducible apply gd_and); (focus ((conv => whnf) <;> first | rfl | (intro K hK; (conv => whnf); first | exact hK | (intro z hz; rw [wrapI (by omega)] at hz; subst hz; exact hK)))); (conv => whnf)) | ((with_reducible apply z_wrap); (focus omega); (conv => whnf)) | ((with_reducible first | apply mt_dec | apply mt_eq | apply mt_ne | apply mt_not | apply mt_any) <;> (intro _; conv => whnf)))
    · rename_i h ha0
      refine Exists.elim (⟨_, List.getElem?_eq_getElem (by omega)⟩ : ∃ c, d.certs[j]? = some c) fun c hc => ?_
      refine ⟨by omega, c.cs, certsD_at hc, ?_⟩
      conv => whnf
      repeat' (first | ((with_reducible apply rd_intro); (focus (intro K hK; (conv => whnf); first | exact hK | (intro z hz; rw [wrapI (by omega)] at hz; subst hz; exact hK))); (conv => whnf)) | ((with_reducible apply gd_and); (focus ((conv => whnf) <;> first | rfl | (intro K hK; (conv => whnf); first | exact hK | (intro z hz; rw [wrapI (by omega)] at hz; subst hz; exact hK)))); (conv => whnf)) | ((with_reducible apply z_wrap); (focus omega); (conv => whnf)) | ((with_reducible first | apply mt_dec | apply mt_eq | apply mt_ne | apply mt_not | apply mt_any) <;> (intro _; conv => whnf)))
      · rename_i h1
        refine ⟨by omega, c.cs, certsD_at hc, ?_⟩
        conv => whnf
        repeat' (first | ((with_reducible apply rd_intro); (focus (intro K hK; (conv => whnf); first | exact hK | (intro z hz; rw [wrapI (by omega)] at hz; subst hz; exact hK))); (conv => whnf)) | ((with_reducible apply gd_and); (focus ((conv => whnf) <;> first | rfl | (intro K hK; (conv => whnf); first | exact hK | (intro z hz; rw [wrapI (by omega)] at hz; subst hz; exact hK)))); (conv => whnf)) | ((with_reducible apply z_wrap); (focus omega); (conv => whnf)) | ((with_reducible first | apply mt_dec | apply mt_eq | apply mt_ne | apply mt_not | apply mt_any) <;> (intro _; conv => whnf)))
        refine (in_ok c.pars (hp c (List.mem_of_getElem? hc)) a).mono ?_
        rintro _ _ ⟨rfl, rfl⟩
        conv => whnf
        repeat' (first | ((with_reducible apply rd_intro); (focus (intro K hK; (conv => whnf); first | exact hK | (intro z hz; rw [wrapI (by omega)] at hz; subst hz; exact hK))); (conv => whnf)) | ((with_reducible apply gd_and); (focus ((conv => whnf) <;> first | rfl | (intro K hK; (conv => whnf); first | exact hK | (intro z hz; rw [wrapI (by omega)] at hz; subst hz; exact hK)))); (conv => whnf)) | ((with_reducible apply z_wrap); (focus omega); (conv => whnf)) | ((with_reducible first | apply mt_dec | apply mt_eq | apply mt_ne | apply mt_not | apply mt_any) <;> (intro _; conv => whnf)))
        · rename_i h2
          have h2' : a ∈ c.pars := inI_iff.1 h2
          refine ⟨j + 1, ?_, rfl, by omega, by omega⟩
          rw [List.take_add_one, hc]
          simp only [Option.toList_some, List.filter_append, List.length_append, List.filter_cons, h1, h2', ha0]
          rfl
        · rename_i h2
          have h2' : ¬ a ∈ c.pars := fun h => h2 (inI_iff.2 h)
          refine ⟨j + 1, ?_, rfl, by omega, by omega⟩
          rw [List.take_add_one, hc]
          simp only [Option.toList_some, List.filter_append, List.length_append, List.filter_cons, h2', and_false, decide_false, Bool.false_and]
          rfl
      · rename_i h1
        refine ⟨j + 1, ?_, rfl, by omega, by omega⟩
        rw [List.take_add_one, hc]
        simp only [Option.toList_some, List.filter_append, List.length_append, List.filter_cons, h1, decide_false, Bool.and_false]
        rfl
    · rename_i h ha0
      have e : ∀ l : List Cert, (l.filter fun c => decide (a > 0 ∧ a ∈ c.pars) && decide (c.round = r + 1)) = [] := fun l => List.filter_eq_nil_iff.2 fun c _ => by simp [ha0]
      rw [e, e]
      exact ⟨rfl, rfl⟩
    · rename_i h
      rw [List.take_of_length_le (by omega)]
      exact ⟨rfl, rfl⟩
theorem rDirect_ok (d : Dag) (hd : few d.certs) (hn : 0 < d.nodes ∧ d.nodes ≤ 16) (h3 : d.nodes % 3 = 1) (hp : fewC d) (r : Int) (hr : 2 ≤ r ∧ r ≤ 1099511627776) : ACalls Tryz.prog 73 [d.av, .d (.int .i64 r)] [] (fun av L => av = .d (.bool (settled d r)) ∧ L = []) := by
  have han := rAnchor_ok d hd hn r ⟨hr.1, by omega⟩
  have hvo := rVotes_ok d hd hn hp r hr
  have hfe := rFew_ok d.nodes hn
  have hv0 : ¬ anchorI d r > 0 → votes d r = 0 := by
    intro h
    unfold votes
    rw [List.filter_eq_nil_iff.2 fun c _ => by simp [h]]; rfl
  refine acalls_go ttOk zOk foOk Tryz.func73 rfl Tryz.ntmps73 rfl false rfl ?_
  conv => whnf
  ((with_reducible refine draw_pl ttOk zOk foOk mixedOk pl73x1 ?_ ?_); (focus kernel_rfl); (conv => whnf))
  repeat' (first | ((with_reducible apply rd_intro); (focus (intro K hK; (conv => whnf); first | exact hK | (intro z hz; rw [wrapI (by omega)] at hz; subst hz; exact hK))); (conv => whnf)) | ((with_reducible apply gd_and); (focus ((conv => whnf) <;> first | rfl | (intro K hK; (conv => whnf); first | exact hK | (intro z hz; rw [wrapI (by omega)] at hz; subst hz; exact hK)))); (conv => whnf)) | ((with_reducible apply z_wrap); (focus omega); (conv => whnf)) | ((with_reducible first | apply mt_dec | apply mt_eq | apply mt_ne | apply mt_not | apply mt_any) <;> (intro _; conv => whnf)))
  refine han.mono ?_
  rintro _ _ ⟨rfl, rfl⟩
  conv => whnf
  repeat' (first | ((with_reducible apply rd_intro); (focus (intro K hK; (conv => whnf); first | exact hK | (intro z hz; rw [wrapI (by omega)] at hz; subst hz; exact hK))); (conv => whnf)) | ((with_reducible apply gd_and); (focus ((conv => whnf) <;> first | rfl | (intro K hK; (conv => whnf); first | exact hK | (intro z hz; rw [wrapI (by omega)] at hz; subst hz; exact hK)))); (conv => whnf)) | ((with_reducible apply z_wrap); (focus omega); (conv => whnf)) | ((with_reducible first | apply mt_dec | apply mt_eq | apply mt_ne | apply mt_not | apply mt_any) <;> (intro _; conv => whnf)))
  · refine hvo.mono ?_
    rintro _ _ ⟨rfl, rfl⟩
    conv => whnf
    repeat' (first | ((with_reducible apply rd_intro); (focus (intro K hK; (conv => whnf); first | exact hK | (intro z hz; rw [wrapI (by omega)] at hz; subst hz; exact hK))); (conv => whnf)) | ((with_reducible apply gd_and); (focus ((conv => whnf) <;> first | rfl | (intro K hK; (conv => whnf); first | exact hK | (intro z hz; rw [wrapI (by omega)] at hz; subst hz; exact hK)))); (conv => whnf)) | ((with_reducible apply z_wrap); (focus omega); (conv => whnf)) | ((with_reducible first | apply mt_dec | apply mt_eq | apply mt_ne | apply mt_not | apply mt_any) <;> (intro _; conv => whnf)))
    refine hfe.mono ?_
    rintro _ _ ⟨rfl, rfl⟩
    conv => whnf
    repeat' (first | ((with_reducible apply rd_intro); (focus (intro K hK; (conv => whnf); first | exact hK | (intro z hz; rw [wrapI (by omega)] at hz; subst hz; exact hK))); (conv => whnf)) | ((with_reducible apply gd_and); (focus ((conv => whnf) <;> first | rfl | (intro K hK; (conv => whnf); first | exact hK | (intro z hz; rw [wrapI (by omega)] at hz; subst hz; exact hK)))); (conv => whnf)) | ((with_reducible apply z_wrap); (focus omega); (conv => whnf)) | ((with_reducible first | apply mt_dec | apply mt_eq | apply mt_ne | apply mt_not | apply mt_any) <;> (intro _; conv => whnf)))
    exact ⟨boolEq (by unfold settled; rw [decide_eq_true_iff, decide_eq_true_iff]; omega), rfl⟩
  · rename_i h0
    refine ⟨?_, rfl⟩
    rw [settled, hv0 h0, decide_eq_false (by omega)]
    rfl
end Go.Proofs.YtoeppembokpjkaaGreat

namespace Go.Proofs.YtoeppembokpjkaaGreat
open Go.Ab Go.RowKit
/-! ## what lies below a certificate -/
theorem mem_addS {x : Int} : ∀ {ps ks : List Int}, x ∈ addS ks ps ↔ x ∈ ks ∨ x ∈ ps
  | [], ks => by simp [addS]
  | p :: ps, ks => by
    show x ∈ addS (insS ks p) ps ↔ _
    rw [mem_addS, mem_insS, List.mem_cons]
    constructor
    · rintro ((h | h) | h)
      · exact .inl h
      · exact .inr (.inl h)
      · exact .inr (.inr h)
    · rintro (h | h | h)
      · exact .inl (.inl h)
      · exact .inl (.inr h)
      · exact .inr h
def desc (l : List Cert) : Prop := l.Pairwise fun x y => y.round ≤ x.round
theorem downL_low {dl low : Int} : ∀ {l : List Cert} {ks : List Int}, (∀ c ∈ l, c.round ≤ low) → downL dl low l ks = []
  | [], _, _ => rfl
  | c :: r, ks, h => by rw [downL, if_pos (h c (by simp))]
theorem downL_skip {dl low : Int} : ∀ {l1 l2 : List Cert} {ks : List Int}, desc (l1 ++ l2) → (∀ c ∈ l1, c.digest ∉ ks) → downL dl low (l1 ++ l2) ks = downL dl low l2 ks
  | [], _, _, _, _ => rfl
  | c :: r, l2, ks, hd, h => by
    have hd' := List.pairwise_cons.1 hd
    rw [List.cons_append, downL]
    by_cases h1 : c.round ≤ low
    · rw [if_pos h1, downL_low]
      intro y hy
      have := hd'.1 y (List.mem_append_right _ hy)
      omega
    · rw [if_neg h1, if_neg (h c (by simp))]
      exact downL_skip hd'.2 fun y hy => h y (by simp [hy])
theorem desc_rev {l : List Cert} (h : sortedC l) : desc l.reverse := by
  unfold desc
  rw [List.pairwise_reverse]
  exact h.imp fun h => by have := before_iff.1 h; omega
theorem dig_at {d : Dag} (hd : (d.certs.map (·.digest)).Nodup) {i : Nat} {c : Cert} (h : d.certs[i]? = some c) : ∀ x ∈ d.certs.drop (i + 1), x.digest ≠ c.digest := by
  intro x hx e
  obtain ⟨hi, rfl⟩ := List.getElem?_eq_some_iff.1 h
  have h1 : d.certs = d.certs.take (i + 1) ++ d.certs.drop (i + 1) := (List.take_append_drop ..).symm
  rw [h1, List.map_append, List.nodup_append] at hd
  exact hd.2.2 d.certs[i].digest (List.mem_map.2 ⟨d.certs[i], List.mem_take_iff_getElem.2 ⟨i, by omega, rfl⟩, rfl⟩) x.digest (List.mem_map.2 ⟨x, hx, rfl⟩) e.symm
theorem downI_eq {d : Dag} (hs : sortedC d.certs) (hd : (d.certs.map (·.digest)).Nodup) {i : Nat} {c : Cert} (h : d.certs[i]? = some c) (low : Int) : downI d i low = downL d.low low d.certs.reverse [c.digest] := by
  unfold downI
  rw [h]
  have e : d.certs.reverse = (d.certs.drop (i + 1)).reverse ++ (d.certs.take (i + 1)).reverse := by
    rw [← List.reverse_append, List.take_append_drop]
  have hdsc := desc_rev hs
  rw [e] at hdsc ⊢
  rw [downL_skip hdsc]
  · rfl
  · intro x hx
    have := dig_at hd h x (List.mem_reverse.1 hx)
    simpa using this
/-- certificates that are no one's below do not matter -/
theorem downL_filter {dl low : Int} (S : Int → Bool) : ∀ {l : List Cert} {ks : List Int}, (∀ k ∈ ks, S k = true) → (∀ c ∈ l, S c.digest = true → c.round > dl + 1 → ∀ x ∈ c.pars, S x = true) → desc l → downL dl low l ks = downL dl low (l.filter fun c => S c.digest) ks
  | [], _, _, _, _ => rfl
  | c :: r, ks, hk, hc, hd => by
    have hd' := List.pairwise_cons.1 hd
    by_cases h1 : c.round ≤ low
    · rw [downL_low, downL_low]
      · intro y hy
        rcases List.mem_cons.1 (List.mem_filter.1 hy).1 with rfl | hy
        · exact h1
        · have := hd'.1 y hy; omega
      · intro y hy
        rcases List.mem_cons.1 hy with rfl | hy
        · exact h1
        · have := hd'.1 y hy; omega
    · have hr : ∀ y ∈ r, S y.digest = true → y.round > dl + 1 → ∀ x ∈ y.pars, S x = true := fun y hy => hc y (by simp [hy])
      cases hS : S c.digest with
      | false =>
        rw [List.filter_cons, hS]
        rw [downL, if_neg h1, if_neg (fun h => by rw [hk _ h] at hS; cases hS)]
        exact downL_filter S hk hr hd'.2
      | true =>
        rw [List.filter_cons, hS, if_pos rfl, downL, downL, if_neg h1, if_neg h1]
        by_cases h2 : c.digest ∈ ks
        · rw [if_pos h2, if_pos h2]
          congr 1
          refine downL_filter S ?_ hr hd'.2
          split
          · rename_i h3
            intro k hk'
            rcases mem_addS.1 hk' with h4 | h4
            · exact hk k h4
            · exact hc c (by simp) hS h3 k h4
          · exact hk
        · rw [if_neg h2, if_neg h2]
          exact downL_filter S hk hr hd'.2
theorem down_mem {dl low : Int} : ∀ {l : List Cert} {ks : List Int} {c : Cert}, desc l → c ∈ l → c.digest ∈ ks → c.round > low → c.digest ∈ downL dl low l ks
  | x :: r, ks, c, hd, h, hk, hr => by
    have hd' := List.pairwise_cons.1 hd
    have hx : ¬ x.round ≤ low := by
      rcases List.mem_cons.1 h with rfl | h
      · omega
      · have := hd'.1 c h; omega
    rw [downL, if_neg hx]
    rcases List.mem_cons.1 h with rfl | h
    · rw [if_pos hk]; simp
    · split
      · exact List.mem_cons_of_mem _ (down_mem hd'.2 h (by split; exact mem_addS.2 (.inl hk); exact hk) hr)
      · exact down_mem hd'.2 h hk hr
theorem down_closed {dl low : Int} : ∀ {l : List Cert} {ks : List Int} {c p : Cert}, desc l → (l.map (·.digest)).Nodup → c ∈ l → c.digest ∈ downL dl low l ks → c.round > dl + 1 → p ∈ l → p.digest ∈ c.pars → low < p.round → p.round < c.round → p.digest ∈ downL dl low l ks
  | x :: r, ks, c, p, hd, hn, hc, hcd, hcr, hp, hpc, hpl, hpr => by
    have hd' := List.pairwise_cons.1 hd
    have hn' := List.nodup_cons.1 hn
    have hpx : p ∈ r := by
      rcases List.mem_cons.1 hp with rfl | h
      · rcases List.mem_cons.1 hc with rfl | h2
        · omega
        · have := hd'.1 c h2; omega
      · exact h
    have hx : ¬ x.round ≤ low := by have := hd'.1 p hpx; omega
    rw [downL, if_neg hx] at hcd ⊢
    rcases List.mem_cons.1 hc with rfl | hcr'
    · by_cases hk : c.digest ∈ ks
      · rw [if_pos hk, if_pos hcr]
        exact List.mem_cons_of_mem _ (down_mem hd'.2 hpx (mem_addS.2 (.inr hpc)) hpl)
      · rw [if_neg hk] at hcd
        exact absurd ((down_sub dl low r ks).subset hcd) hn'.1
    · have hne : c.digest ≠ x.digest := fun e => hn'.1 (List.mem_map.2 ⟨c, hcr', e⟩)
      split at hcd
      · rename_i hk
        rw [if_pos hk]
        rcases List.mem_cons.1 hcd with h | h
        · exact absurd h hne
        · exact List.mem_cons_of_mem _ (down_closed hd'.2 hn'.2 hcr' h hcr hpx hpc hpl hpr)
      · rename_i hk
        rw [if_neg hk]
        exact down_closed hd'.2 hn'.2 hcr' hcd hcr hpx hpc hpl hpr
/-- a certificate's ancestors -/
inductive Anc (d : Dag) (x : Cert) : Cert → Prop
  | refl : Anc d x x
  | step {z y : Cert} : Anc d x z → z.round > d.low + 1 → y ∈ d.certs → y.digest ∈ z.pars → y.round < z.round → Anc d x y
theorem Anc.cons {d : Dag} {x p y : Cert} (hx : x.round > d.low + 1) (hp : p ∈ d.certs) (hxp : p.digest ∈ x.pars) (hr : p.round < x.round) (h : Anc d p y) : Anc d x y := by
  induction h with
  | refl => exact .step .refl hx hp hxp hr
  | step _ h1 h2 h3 h4 ih => exact .step ih h1 h2 h3 h4
theorem anc_down {d : Dag} (hs : sortedC d.certs) (hd : (d.certs.map (·.digest)).Nodup) {x y : Cert} {i : Nat} (hx : d.certs[i]? = some x) (h : Anc d x y) {low : Int} (hl : low < y.round) : y.digest ∈ downI d i low ∧ y ∈ d.certs := by
  rw [downI_eq hs hd hx]
  have hn : (d.certs.reverse.map (·.digest)).Nodup := by rw [List.map_reverse]; exact (List.reverse_perm _).nodup_iff.2 hd
  induction h with
  | refl => exact ⟨down_mem (desc_rev hs) (List.mem_reverse.2 (List.mem_of_getElem? hx)) (by simp) hl, List.mem_of_getElem? hx⟩
  | step _ h1 h2 h3 h4 ih =>
    obtain ⟨i1, i2⟩ := ih (by omega)
    exact ⟨down_closed (desc_rev hs) hn (List.mem_reverse.2 i2) i1 h1 (List.mem_reverse.2 h2) h3 hl h4, h2⟩
end Go.Proofs.YtoeppembokpjkaaGreat

namespace Go.Proofs.YtoeppembokpjkaaGreat
open Go.Ab Go.RowKit
/-! ## a part of a DAG -/
structure Sub (A D : Dag) : Prop where
  va : Valid A
  vd : Valid D
  la : A.low = 0
  ld : D.low = 0
  nodes : A.nodes = D.nodes
  sub : A.certs.Sublist D.certs
theorem place_inj {l : List Cert} (hs : sortedC l) {x y : Cert} (hx : x ∈ l) (hy : y ∈ l) (hr : x.round = y.round) (ha : x.author = y.author) : x = y := by
  obtain ⟨i, hi⟩ := List.getElem?_of_mem hx
  obtain ⟨j, hj⟩ := List.getElem?_of_mem hy
  obtain ⟨hi', rfl⟩ := List.getElem?_eq_some_iff.1 hi
  obtain ⟨hj', rfl⟩ := List.getElem?_eq_some_iff.1 hj
  rcases Nat.lt_trichotomy i j with h | h | h
  · have := before_iff.1 (List.pairwise_iff_getElem.1 hs i j hi' hj' h); omega
  · subst h; rfl
  · have := before_iff.1 (List.pairwise_iff_getElem.1 hs j i hj' hi' h); omega
theorem atC_some {l : List Cert} (hs : sortedC l) {r a : Int} {c : Cert} : atC l r a = some c ↔ c ∈ l ∧ c.round = r ∧ c.author = a := by
  constructor
  · intro h
    have h1 := List.find?_some h
    simp only [decide_eq_true_eq] at h1
    exact ⟨List.mem_of_find?_eq_some h, h1⟩
  · rintro ⟨h1, h2, h3⟩
    cases hc : atC l r a with
    | none =>
      unfold atC at hc
      rw [List.find?_eq_none] at hc
      have := hc c h1
      simp [h2, h3] at this
    | some c' =>
      have h4 := List.find?_some hc
      simp only [decide_eq_true_eq] at h4
      rw [place_inj hs h1 (List.mem_of_find?_eq_some hc) (by omega) (by omega)]
theorem sub_filter {l m : List Cert} (h : l.Sublist m) (hn : (m.map (·.digest)).Nodup) : l = m.filter fun c => decide (c.digest ∈ l.map (·.digest)) := by
  induction h with
  | slnil => rfl
  | @cons l m x h ih =>
    have hn' := List.nodup_cons.1 hn
    have hx : x.digest ∉ l.map (·.digest) := fun hx => hn'.1 ((h.map _).subset hx)
    rw [List.filter_cons, if_neg (by simpa using hx)]
    exact ih hn'.2
  | @cons_cons l m x h ih =>
    have hn' := List.nodup_cons.1 hn
    rw [List.filter_cons, if_pos (by simp)]
    congr 1
    refine (ih hn'.2).trans (List.filter_congr fun c hc => ?_)
    have : c.digest ≠ x.digest := fun e => hn'.1 (List.mem_map.2 ⟨c, hc, e⟩)
    simp [this]
theorem Sub.mem {A D : Dag} (h : Sub A D) {c : Cert} (hc : c ∈ A.certs) : c ∈ D.certs := h.sub.subset hc
theorem Sub.cert {A D : Dag} (h : Sub A D) {x : Int} {c : Cert} (hc : certOf A x = some c) : certOf D x = some c := by
  obtain ⟨h1, rfl, _⟩ := certOf_some hc
  exact certOf_mem h.vd.dig (h.mem h1)
/-- what lies below a certificate of the part is the same in the whole -/
theorem Sub.down {A D : Dag} (h : Sub A D) {i j : Nat} {c : Cert} (hi : A.certs[i]? = some c) (hj : D.certs[j]? = some c) (low : Int) : downI A i low = downI D j low := by
  rw [downI_eq h.va.sorted h.va.dig hi, downI_eq h.vd.sorted h.vd.dig hj, h.la, h.ld]
  have hf := sub_filter h.sub h.vd.dig
  have hmem : ∀ {y : Cert}, y ∈ D.certs → y.digest ∈ A.certs.map (·.digest) → y ∈ A.certs := by
    intro y hy hy2
    obtain ⟨z, hz, e⟩ := List.mem_map.1 hy2
    rw [← dig_inj h.vd.dig (h.mem hz) hy e]; exact hz
  have h1 := downL_filter (dl := 0) (low := low) (fun x => decide (x ∈ A.certs.map (·.digest))) (l := D.certs.reverse) (ks := [c.digest]) (fun k hk => by
      simp only [List.mem_singleton] at hk
      rw [hk, decide_eq_true_eq]
      exact List.mem_map.2 ⟨c, List.mem_of_getElem? hi, rfl⟩) (fun y hy hy2 hyr x hx => by
      have hyA := hmem (List.mem_reverse.1 hy) (of_decide_eq_true hy2)
      obtain ⟨c', h3, h4, _⟩ := h.va.here y hyA (by rw [h.la]; exact hyr) x hx
      exact decide_eq_true (List.mem_map.2 ⟨c', h3, h4⟩)) (desc_rev h.vd.sorted)
  rw [h1, List.filter_reverse, ← hf]
theorem Sub.behind {A D : Dag} (h : Sub A D) {i j : Nat} {c : Cert} (hi : A.certs[i]? = some c) (hj : D.certs[j]? = some c) (done : List Int) : behindI A i c.round done = behindI D j c.round done := by
  unfold behindI riseI
  rw [h.down hi hj]
theorem Sub.keepB {A D : Dag} (h : Sub A D) {x : Int} (hx : x ∈ A.certs.map (·.digest)) (r : Int) : keepB A r x = keepB D r x := by
  obtain ⟨c, hc, rfl⟩ := List.mem_map.1 hx
  have h1 := certOf_mem h.va.dig hc
  have h2 := h.cert h1
  unfold certOf at h1 h2
  unfold Go.Proofs.YtoeppembokpjkaaGreat.keepB
  rw [h1, h2]
theorem behind_digs {A : Dag} {i : Nat} {r : Int} {done : List Int} : ∀ x ∈ behindI A i r done, x ∈ A.certs.map (·.digest) := by
  intro x hx
  have h1 := List.mem_reverse.1 (List.mem_filter.1 hx).1
  have h2 := (down_sub A.low (r - 8) (A.certs.take (i + 1)).reverse ((A.certs[i]?).toList.map (·.digest))).subset h1
  rw [List.map_reverse, List.mem_reverse] at h2
  exact ((List.take_sublist ..).map _).subset h2
def inDag (A : Dag) (w : Wk) : Prop := ∀ x ∈ w.c.done, x ∈ A.certs.map (·.digest)
theorem Wk.put_in {A : Dag} {w : Wk} (hw : inDag A w) (i : Nat) (c : Cert) : inDag A (w.put A i c) := by
  intro x hx
  have h1 : x ∈ sortI (keepI A c.round (w.c.done ++ behindI A i c.round w.c.done)) := hx
  rw [sortI, List.mem_mergeSort] at h1
  have h2 := (List.mem_filter.1 h1).1
  rcases List.mem_append.1 h2 with h2 | h2
  · exact hw x h2
  · exact behind_digs x h2
theorem Sub.put {A D : Dag} (h : Sub A D) {w : Wk} (hw : inDag A w) {i j : Nat} {c : Cert} (hi : A.certs[i]? = some c) (hj : D.certs[j]? = some c) : w.put A i c = w.put D j c := by
  unfold Wk.put
  rw [h.behind hi hj]
  have : keepI A c.round (w.c.done ++ behindI D j c.round w.c.done) = keepI D c.round (w.c.done ++ behindI D j c.round w.c.done) := by
    refine List.filter_congr fun x hx => ?_
    refine h.keepB ?_ c.round
    rcases List.mem_append.1 hx with h2 | h2
    · exact hw x h2
    · rw [← h.behind hi hj] at h2; exact behind_digs x h2
  rw [this]
theorem Sub.putA {A D : Dag} (h : Sub A D) {w : Wk} (hw : inDag A w) {a : Int} {c : Cert} (ha : certOf A a = some c) : w.putA A a = w.putA D a ∧ inDag A (w.putA A a) := by
  obtain ⟨_, _, i, h1, h2⟩ := certOf_some ha
  obtain ⟨_, _, j, h3, h4⟩ := certOf_some (h.cert ha)
  rw [putA_eq h1 h2, putA_eq h3 h4]
  exact ⟨h.put hw h2 h4, Wk.put_in hw i c⟩
theorem Sub.putL {A D : Dag} (h : Sub A D) : ∀ {l : List Int} {w : Wk}, inDag A w → (∀ a ∈ l, ∃ c, certOf A a = some c) → w.putL A l = w.putL D l ∧ inDag A (w.putL A l)
  | [], w, hw, _ => ⟨rfl, hw⟩
  | a :: l, w, hw, ha => by
    obtain ⟨c, hc⟩ := ha a (by simp)
    obtain ⟨h1, h2⟩ := h.putA hw hc
    obtain ⟨h3, h4⟩ := h.putL (l := l) h2 fun b hb => ha b (by simp [hb])
    refine ⟨?_, h4⟩
    show (w.putA A a).putL A l = (w.putA D a).putL D l
    rw [← h1]; exact h3
/-- anchors -/
theorem anchor_at {d : Dag} (h : Valid d) {r : Int} : anchorI d r ≠ 0 ↔ ∃ c ∈ d.certs, c.round = r ∧ c.author = leadI d.nodes r := by
  rw [anchor_pos h.well]
  constructor
  · intro h1
    obtain ⟨c, hc⟩ := Option.isSome_iff_exists.1 h1
    exact ⟨c, (atC_some h.sorted).1 hc⟩
  · rintro ⟨c, hc⟩
    rw [(atC_some h.sorted).2 hc]; rfl
theorem anchor_is {d : Dag} (h : Valid d) {c : Cert} (hc : c ∈ d.certs) (ha : c.author = leadI d.nodes c.round) : anchorI d c.round = c.digest := by
  unfold anchorI
  rw [(atC_some h.sorted).2 ⟨hc, rfl, ha⟩]; rfl
theorem Sub.anchor {A D : Dag} (h : Sub A D) {r : Int} (ha : anchorI A r ≠ 0) : anchorI D r = anchorI A r := by
  obtain ⟨c, h1, rfl, h3⟩ := (anchor_at h.va).1 ha
  rw [anchor_is h.va h1 h3, anchor_is h.vd (h.mem h1) (by rw [← h.nodes]; exact h3)]
theorem votes_pos {d : Dag} {r : Int} (h : votes d r ≠ 0) : anchorI d r > 0 := by
  have h1 : 0 < ((ofR d.certs (r + 1)).filter fun c => decide (anchorI d r > 0 ∧ anchorI d r ∈ c.pars)).length := Nat.pos_of_ne_zero h
  obtain ⟨c, hc⟩ := List.exists_mem_of_length_pos h1
  have := (List.mem_filter.1 hc).2
  simp only [decide_eq_true_eq] at this
  exact this.1
theorem Sub.votes {A D : Dag} (h : Sub A D) (r : Int) : votes A r ≤ votes D r := by
  rcases Nat.eq_zero_or_pos (Go.Proofs.YtoeppembokpjkaaGreat.votes A r) with h0 | h0
  · omega
  · have h1 := votes_pos (Nat.ne_of_gt h0)
    have h2 := h.anchor (r := r) (by omega)
    unfold Go.Proofs.YtoeppembokpjkaaGreat.votes
    rw [h2]
    exact ((h.sub.filter _).filter _).length_le
theorem settled_votes {d : Dag} (h : Valid d) {r : Int} (hs : settled d r = true) : (votes d r : Int) > (d.nodes - 1) / 3 ∧ votes d r ≠ 0 := by
  have hn := of_decide_eq_true h.nodes
  have := of_decide_eq_true hs
  exact ⟨this, by omega⟩
theorem Sub.settled {A D : Dag} (h : Sub A D) {r : Int} (hs : settled A r = true) : settled D r = true := by
  have h1 := (settled_votes h.va hs).1
  have h2 := h.votes r
  have h3 := h.nodes
  exact decide_eq_true (by rw [← h3]; omega)
theorem top_le {d : Dag} (h : Valid d) {c : Cert} (hc : c ∈ d.certs) : c.round ≤ topR d.certs := by
  unfold topR
  cases hg : d.certs.getLast? with
  | none => rw [List.getLast?_eq_none_iff] at hg; rw [hg] at hc; cases hc
  | some z =>
    show c.round ≤ z.round
    obtain ⟨m, hm⟩ := List.getLast?_eq_some_iff.1 hg
    have hs := h.sorted
    rw [hm] at hs hc
    rcases List.mem_append.1 hc with hc | hc
    · have := before_iff.1 ((List.pairwise_append.1 hs).2.2 c hc z (by simp))
      omega
    · simp at hc; rw [hc]; exact Int.le_refl _
theorem settled_top {d : Dag} (h : Valid d) {r : Int} (hs : settled d r = true) : r < topR d.certs := by
  have h1 := (settled_votes h hs).2
  have h2 : 0 < ((ofR d.certs (r + 1)).filter fun c => decide (anchorI d r > 0 ∧ anchorI d r ∈ c.pars)).length := Nat.pos_of_ne_zero h1
  obtain ⟨c, hc⟩ := List.exists_mem_of_length_pos h2
  have h3 := List.mem_filter.1 (List.mem_filter.1 hc).1
  have h4 := top_le h h3.1
  have := of_decide_eq_true h3.2
  omega
/-- the next settled round is the least one -/
theorem nextR_le {d : Dag} (h : Valid d) {q : Int} (hq : settled d q = true) : ∀ r : Int, 0 < r → r ≤ q → r % 2 = q % 2 → nextR d r > 0 ∧ nextR d r ≤ q := by
  intro r
  induction r using nextR.induct (d := d) with
  | case1 r hr => intro _ h1 _; have := settled_top h hq; omega
  | case2 r hr hs => intro h0 h1 _; rw [next_here hr hs]; exact ⟨h0, h1⟩
  | case3 r hr hs ih =>
    intro h0 h1 h2
    have hs' : settled d r = false := by simpa using hs
    rw [next_on hr hs']
    refine ih (by omega) ?_ (by omega)
    rcases Int.lt_or_eq_of_le h1 with h3 | h3
    · omega
    · subst h3; rw [hq] at hs'; cases hs'
end Go.Proofs.YtoeppembokpjkaaGreat

namespace Go.Proofs.YtoeppembokpjkaaGreat
open Go.Ab Go.RowKit
theorem round_len {d : Dag} (h : Valid d) (r : Int) : ((ofR d.certs r).length : Int) ≤ d.nodes := by
  have hn := of_decide_eq_true h.nodes
  have h1 : ((ofR d.certs r).map (·.author)).Nodup := by
    unfold List.Nodup
    rw [List.pairwise_map]
    refine List.Pairwise.imp_of_mem ?_ (h.sorted.filter fun c => decide (c.round = r))
    intro a b ha hb hab e
    have h1 := before_iff.1 hab
    have h2 := of_decide_eq_true (List.mem_filter.1 ha).2
    have h3 := of_decide_eq_true (List.mem_filter.1 hb).2
    omega
  have h2 := sub_len (m := (List.range d.nodes.toNat).map fun n : Nat => (n : Int) + 1) h1 fun x hx => by
    obtain ⟨c, hc, rfl⟩ := List.mem_map.1 hx
    have := (h.certs c (List.mem_filter.1 hc).1).head.author
    exact List.mem_map.2 ⟨(c.author - 1).toNat, by simp; omega, by omega⟩
  simp at h2
  omega
/-- each certificate two rounds above a settled anchor has it below itself -/
theorem settled_anc {d : Dag} (h : Valid d) (h0 : d.low = 0) {r : Int} (hs : settled d r = true) {a : Cert} (ha : a ∈ d.certs) (har : a.round = r) (had : a.digest = anchorI d r) : ∀ (n : Nat) (x : Cert), x ∈ d.certs → x.round = r + 2 + n → Anc d x a := by
  have hn := of_decide_eq_true h.nodes
  have hr1 := (h.certs a ha).head.round
  intro n
  induction n with
  | zero =>
    intro x hx hxr
    have hp := (h.certs x hx).head
    have hq := hp.many (by omega)
    have hpn := rising_nodup hp.pars.2.1
    have hin := h.here x hx (by omega)
    have hv := (settled_votes h hs).1
    have hrl := round_len h (r + 1)
    have hvn : (((ofR d.certs (r + 1)).filter fun c => decide (anchorI d r > 0 ∧ anchorI d r ∈ c.pars)).map (·.digest)).Nodup := h.dig.sublist (((List.filter_sublist.trans List.filter_sublist)).map _)
    have hex : ∃ p ∈ x.pars, p ∈ ((ofR d.certs (r + 1)).filter fun c => decide (anchorI d r > 0 ∧ anchorI d r ∈ c.pars)).map (·.digest) := by
      refine Classical.byContradiction fun hno => ?_
      have hnd : (x.pars ++ ((ofR d.certs (r + 1)).filter fun c => decide (anchorI d r > 0 ∧ anchorI d r ∈ c.pars)).map (·.digest)).Nodup :=
        List.nodup_append.2 ⟨hpn, hvn, fun p hp q hq e => hno ⟨p, hp, by rw [e]; exact hq⟩⟩
      have hle := sub_len (m := (ofR d.certs (r + 1)).map (·.digest)) hnd fun y hy => by
        rcases List.mem_append.1 hy with hy | hy
        · obtain ⟨c', h1, h2, h3⟩ := hin y hy
          exact List.mem_map.2 ⟨c', List.mem_filter.2 ⟨h1, decide_eq_true (by omega)⟩, h2⟩
        · exact (List.filter_sublist.map _).subset hy
      rw [List.length_append, List.length_map, List.length_map] at hle
      have hve : ((ofR d.certs (r + 1)).filter fun c => decide (anchorI d r > 0 ∧ anchorI d r ∈ c.pars)).length = votes d r := rfl
      rw [hve] at hle
      unfold quo at hq
      omega
    obtain ⟨p, hp1, hp2⟩ := hex
    obtain ⟨v, hv1, rfl⟩ := List.mem_map.1 hp2
    have h1 := List.mem_filter.1 hv1
    have h2 := List.mem_filter.1 h1.1
    have h3 := of_decide_eq_true h1.2
    have h4 := of_decide_eq_true h2.2
    exact .step (.step .refl (by omega) h2.1 hp1 (by omega)) (by omega) ha (by rw [had]; exact h3.2) (by omega)
  | succ n ih =>
    intro x hx hxr
    have hp := (h.certs x hx).head
    have hq := hp.many (by omega)
    unfold quo at hq
    have hlen : 0 < x.pars.length := by omega
    obtain ⟨p, hp1⟩ := List.exists_mem_of_length_pos hlen
    obtain ⟨c', h1, h2, h3⟩ := h.here x hx (by omega) p hp1
    exact (ih c' h1 (by omega)).cons (by omega) h1 (by rw [h2]; exact hp1) (by omega)
theorem reachJ_of {d : Dag} (h : Valid d) (h0 : d.low = 0) {r : Int} (hs : settled d r = true) {i k : Nat} {x a : Cert} (hx : d.certs[i]? = some x) (ha : d.certs[k]? = some a) (har : a.round = r) (had : a.digest = anchorI d r) (hxr : r + 2 ≤ x.round) : reachJ d i k = true := by
  have h1 := settled_anc h h0 hs (List.mem_of_getElem? ha) har had (x.round - (r + 2)).toNat x (List.mem_of_getElem? hx) (by omega)
  unfold reachJ
  rw [ha]
  exact decide_eq_true (anc_down h.sorted h.dig hx h1 (by omega)).1
theorem anchor_idx {d : Dag} (h : Valid d) {r : Int} (ha : anchorI d r ≠ 0) : ∃ k a, getC d.certs (anchorI d r) = some k ∧ d.certs[k]? = some a ∧ a.digest = anchorI d r ∧ a.round = r ∧ a.author = leadI d.nodes r := by
  obtain ⟨c, h1, h2, h3⟩ := anchor_cert h.well ha
  obtain ⟨_, h4, k, h5, h6⟩ := certOf_some h1
  exact ⟨k, c, h5, h6, h4, h2, h3⟩
theorem Sub.backR {A D : Dag} (h : Sub A D) (after : Int) : ∀ (r : Int) (i j : Nat) (x : Cert), A.certs[i]? = some x → D.certs[j]? = some x → backR A after r i = backR D after r j := by
  intro r i
  induction r, i using backR.induct (d := A) (after := after) with
  | case1 r i h1 =>
    intro j x hi hj
    rw [back_end h1, back_end (by rw [h.ld, ← h.la]; exact h1)]
  | case2 r i h1 h2 ih =>
    intro j x hi hj
    have h1' : ¬ (r - 2 ≤ after ∨ r - 2 ≤ D.low) := by rw [h.ld, ← h.la]; exact h1
    rw [back_no h1 h2, ih j x hi hj]
    by_cases h3 : anchorI D (r - 2) = 0
    · rw [back_no h1' h3]
    · obtain ⟨k, a, k1, k2, k3, k4, k5⟩ := anchor_idx h.vd h3
      rw [back_yes h1' h3 k1, if_neg]
      intro hre
      unfold reachJ at hre
      rw [k2] at hre
      have hre := of_decide_eq_true hre
      rw [← h.down hi hj] at hre
      have h4 := (down_sub A.low (a.round - 1) (A.certs.take (i + 1)).reverse ((A.certs[i]?).toList.map (·.digest))).subset hre
      rw [List.map_reverse, List.mem_reverse] at h4
      have h5 := ((List.take_sublist ..).map _).subset h4
      obtain ⟨z, hz, hze⟩ := List.mem_map.1 h5
      have hza := dig_inj h.vd.dig (h.mem hz) (List.mem_of_getElem? k2) hze
      subst hza
      exact (anchor_at h.va).2 ⟨z, hz, k4, by rw [h.nodes]; exact k5⟩ h2
  | case3 r i h1 h2 h3 =>
    obtain ⟨j, c, h4, _⟩ := anchor_get h2
    rw [h3] at h4; cases h4
  | case4 r i h1 h2 k h3 h4 ih =>
    intro j x hi hj
    have h1' : ¬ (r - 2 ≤ after ∨ r - 2 ≤ D.low) := by rw [h.ld, ← h.la]; exact h1
    obtain ⟨k', a, k1, k2, k3, k4, k5⟩ := anchor_idx h.va h2
    rw [h3] at k1; cases k1
    have h5 := h.anchor h2
    obtain ⟨m, b, m1, m2, m3, m4, m5⟩ := anchor_idx h.vd (r := r - 2) (by rw [h5]; exact h2)
    have hab := dig_inj h.vd.dig (h.mem (List.mem_of_getElem? k2)) (List.mem_of_getElem? m2) (by rw [k3, m3, h5])
    subst hab
    rw [back_yes h1 h2 h3, if_pos h4, back_yes h1' (by rw [h5]; exact h2) m1, if_pos, h5, ih m a k2 m2]
    unfold reachJ at h4 ⊢
    rw [k2] at h4; rw [m2]
    have h4 := of_decide_eq_true h4
    rw [h.down hi hj] at h4
    exact decide_eq_true h4
  | case5 r i h1 h2 k h3 h4 ih =>
    intro j x hi hj
    have h1' : ¬ (r - 2 ≤ after ∨ r - 2 ≤ D.low) := by rw [h.ld, ← h.la]; exact h1
    obtain ⟨k', a, k1, k2, k3, k4, k5⟩ := anchor_idx h.va h2
    rw [h3] at k1; cases k1
    have h5 := h.anchor h2
    obtain ⟨m, b, m1, m2, m3, m4, m5⟩ := anchor_idx h.vd (r := r - 2) (by rw [h5]; exact h2)
    have hab := dig_inj h.vd.dig (h.mem (List.mem_of_getElem? k2)) (List.mem_of_getElem? m2) (by rw [k3, m3, h5])
    subst hab
    rw [back_yes h1 h2 h3, if_neg h4, back_yes h1' (by rw [h5]; exact h2) m1, if_neg, ih j x hi hj]
    intro h6
    refine h4 ?_
    unfold reachJ at h6 ⊢
    rw [m2] at h6; rw [k2]
    have h6 := of_decide_eq_true h6
    rw [← h.down hi hj] at h6
    exact decide_eq_true h6
theorem Sub.backI {A D : Dag} (h : Sub A D) (after : Int) {r : Int} (ha : anchorI A r ≠ 0) : backI A after r = backI D after r := by
  have h5 := h.anchor ha
  obtain ⟨k, a, k1, k2, k3, k4, k5⟩ := anchor_idx h.va ha
  obtain ⟨m, b, m1, m2, m3, m4, m5⟩ := anchor_idx h.vd (r := r) (by rw [h5]; exact ha)
  have hab := dig_inj h.vd.dig (h.mem (List.mem_of_getElem? k2)) (List.mem_of_getElem? m2) (by rw [k3, m3, h5])
  subst hab
  unfold Go.Proofs.YtoeppembokpjkaaGreat.backI
  rw [k1, m1, h5]
  rw [Option.getD_some, Option.getD_some, h.backR after r k m a k2 m2]
/-- the chain passes by each settled anchor -/
theorem backR_pass {d : Dag} (h : Valid d) (h0 : d.low = 0) {s after : Int} (hs : settled d s = true) (has : after < s) {k : Nat} {a : Cert} (hk1 : getC d.certs (anchorI d s) = some k) (hk2 : d.certs[k]? = some a) (hk3 : a.digest = anchorI d s) (hk4 : a.round = s) (hne : anchorI d s ≠ 0) :
    ∀ (r : Int) (i : Nat) (x : Cert), d.certs[i]? = some x → r ≤ x.round → s < r → s % 2 = r % 2 → backR d after r i = backR d s r i ++ anchorI d s :: backR d after s k := by
  have hs1 := (h.certs a (List.mem_of_getElem? hk2)).head.round
  intro r i
  induction r, i using backR.induct (d := d) (after := after) with
  | case1 r i h1 => intro x hi hx hsr hp; omega
  | case2 r i h1 h2 ih =>
    intro x hi hx hsr hp
    have hne2 : r - 2 ≠ s := by intro e; rw [e] at h2; exact hne h2
    rw [back_no h1 h2, back_no (by rw [h0]; omega) h2]
    exact ih x hi (by omega) (by omega) (by omega)
  | case3 r i h1 h2 h3 =>
    obtain ⟨j, c, h4, _⟩ := anchor_get h2
    rw [h3] at h4; cases h4
  | case4 r i h1 h2 m h3 h4 ih =>
    intro x hi hx hsr hp
    rcases Int.lt_or_eq_of_le (show s ≤ r - 2 by omega) with h5 | h5
    · rw [back_yes h1 h2 h3, if_pos h4, back_yes (after := s) (by rw [h0]; omega) h2 h3, if_pos h4]
      obtain ⟨m', b, m1, m2, m3, m4, m5⟩ := anchor_idx h h2
      rw [h3] at m1; cases m1
      rw [ih b m2 (by omega) (by omega) (by omega)]
      rfl
    · subst h5
      rw [hk1] at h3; cases h3
      rw [back_yes h1 h2 hk1, if_pos h4, back_end (after := r - 2) (by omega)]
      rfl
  | case5 r i h1 h2 m h3 h4 ih =>
    intro x hi hx hsr hp
    rcases Int.lt_or_eq_of_le (show s ≤ r - 2 by omega) with h5 | h5
    · rw [back_yes h1 h2 h3, if_neg h4, back_yes (after := s) (by rw [h0]; omega) h2 h3, if_neg h4]
      exact ih x hi (by omega) (by omega) (by omega)
    · subst h5
      rw [hk1] at h3; cases h3
      exact absurd (reachJ_of h h0 hs hi hk2 hk4 hk3 (by omega)) h4
theorem backI_pass {d : Dag} (h : Valid d) (h0 : d.low = 0) {s after r : Int} (hs : settled d s = true) (has : after < s) (hsr : s < r) (hp : s % 2 = r % 2) (ha : anchorI d r ≠ 0) : backI d after r = backI d after s ++ backI d s r := by
  have hn := of_decide_eq_true h.nodes
  have hne := settled_anchor (show 0 < d.nodes by omega) hs
  obtain ⟨k, a, k1, k2, k3, k4, k5⟩ := anchor_idx h hne
  obtain ⟨m, b, m1, m2, m3, m4, m5⟩ := anchor_idx h ha
  unfold Go.Proofs.YtoeppembokpjkaaGreat.backI
  rw [k1, m1, Option.getD_some, Option.getD_some, backR_pass h h0 hs has k1 k2 k3 k4 hne r m b m2 (by omega) hsr hp]
  simp
/-! ## going on -/
theorem putL_app (d : Dag) (w : Wk) (l m : List Int) : w.putL d (l ++ m) = (w.putL d l).putL d m := List.foldl_append ..
theorem putL_round {d : Dag} (h : Valid d) {w : Wk} {l : List Int} {s : Int} (ha : anchorI d s ≠ 0) (hl : l.getLast? = some (anchorI d s)) : (w.putL d l).c.round = s := by
  obtain ⟨m, rfl⟩ := List.getLast?_eq_some_iff.1 hl
  obtain ⟨k, a, k1, k2, k3, k4, k5⟩ := anchor_idx h ha
  rw [putL_app]
  show (Wk.putA d (w.putL d m) (anchorI d s)).c.round = s
  rw [putA_eq k1 k2]
  exact k4
theorem goF_fuel {d : Dag} (h : Valid d) : ∀ (n m : Nat) (w : Wk), 0 ≤ w.c.round → w.c.round % 2 = 0 → topR d.certs - w.c.round ≤ n → topR d.certs - w.c.round ≤ m → Wk.goF d n w = Wk.goF d m w := by
  intro n
  induction n with
  | zero =>
    intro m w h0 h2 hn hm
    by_cases hp : nextC d w.c.round > 0
    · have := nextC_spec h.well h0 h2 hp; omega
    · rw [goF_end hp, goF_end hp]
  | succ n ih =>
    intro m w h0 h2 hn hm
    by_cases hp : nextC d w.c.round > 0
    · have hsp := nextC_spec h.well h0 h2 hp
      cases m with
      | zero => omega
      | succ m =>
        rw [Wk.goF, Wk.goF, if_pos hp, if_pos hp]
        have hr : (w.putL d (Go.Proofs.YtoeppembokpjkaaGreat.backI d w.c.round (nextC d w.c.round))).c.round = nextC d w.c.round := putL_round h hsp.2.2.2.2.1 (backI_all h.well hsp.1 hsp.2.2.2.2.1).2.2
        exact ih m _ (by rw [hr]; omega) (by rw [hr]; exact hsp.2.2.2.1) (by rw [hr]; omega) (by rw [hr]; omega)
    · rw [goF_end hp, goF_end hp]
def run (d : Dag) (w : Wk) : Wk := Wk.goF d (topR d.certs).toNat w
theorem run_step {d : Dag} (h : Valid d) {w : Wk} (h0 : 0 ≤ w.c.round) (h2 : w.c.round % 2 = 0) (hp : nextC d w.c.round > 0) : run d w = run d (w.putL d (backI d w.c.round (nextC d w.c.round))) := by
  have hsp := nextC_spec h.well h0 h2 hp
  have hr : (w.putL d (backI d w.c.round (nextC d w.c.round))).c.round = nextC d w.c.round := putL_round h hsp.2.2.2.2.1 (backI_all h.well hsp.1 hsp.2.2.2.2.1).2.2
  obtain ⟨n, hn⟩ : ∃ n, (topR d.certs).toNat = n + 1 := ⟨(topR d.certs).toNat - 1, by omega⟩
  unfold run
  rw [hn, Wk.goF, if_pos hp]
  exact goF_fuel h _ _ _ (by rw [hr]; omega) (by rw [hr]; exact hsp.2.2.2.1) (by rw [hr]; omega) (by rw [hr]; omega)
theorem nextC_low {d : Dag} (h0 : d.low = 0) {r : Int} (hr : 0 ≤ r) : nextC d r = nextR d (r + 2) := by
  unfold nextC
  rw [h0, show max r (0 - 0 % 2) = r by omega]
theorem run_pass {d : Dag} (h : Valid d) (hl : d.low = 0) {s : Int} (hs : settled d s = true) (hse : s % 2 = 0) : ∀ (n : Nat) (w : Wk), (s - w.c.round).toNat ≤ n → 0 ≤ w.c.round → w.c.round % 2 = 0 → w.c.round < s → run d w = run d (w.putL d (backI d w.c.round s)) := by
  have hn := of_decide_eq_true h.nodes
  have hne := settled_anchor (show 0 < d.nodes by omega) hs
  intro n
  induction n with
  | zero => intro w h1 h2 h3 h4; omega
  | succ n ih =>
    intro w h1 h2 h3 h4
    obtain ⟨h5, h6⟩ := nextR_le h hs (w.c.round + 2) (by omega) (by omega) (by omega)
    rw [← nextC_low hl h2] at h5 h6
    have hsp := nextC_spec h.well h2 h3 h5
    rw [run_step h h2 h3 h5]
    rcases Int.lt_or_eq_of_le h6 with h7 | h7
    · have hr : (w.putL d (backI d w.c.round (nextC d w.c.round))).c.round = nextC d w.c.round := putL_round h hsp.2.2.2.2.1 (backI_all h.well hsp.1 hsp.2.2.2.2.1).2.2
      rw [ih _ (by rw [hr]; omega) (by rw [hr]; omega) (by rw [hr]; exact hsp.2.2.2.1) (by rw [hr]; exact h7), hr, ← putL_app, ← backI_pass h hl hsp.2.2.1 hsp.1 h7 (by omega) hne]
    · rw [h7]
theorem sub_run {A D : Dag} (h : Sub A D) : ∀ (n : Nat) (w : Wk), inDag A w → 0 ≤ w.c.round → w.c.round % 2 = 0 → run D (Wk.goF A n w) = run D w ∧ inDag A (Wk.goF A n w) := by
  intro n
  induction n with
  | zero => intro w h1 _ _; exact ⟨rfl, h1⟩
  | succ n ih =>
    intro w h1 h2 h3
    rw [Wk.goF]
    split
    · rename_i hp
      have hsp := nextC_spec h.va.well h2 h3 hp
      have hall := backI_all h.va.well hsp.1 hsp.2.2.2.2.1
      obtain ⟨p1, p2⟩ := h.putL (l := Go.Proofs.YtoeppembokpjkaaGreat.backI A w.c.round (nextC A w.c.round)) h1 fun a ha => by
        obtain ⟨q, _, _, rfl, q2⟩ := hall.1 a ha
        obtain ⟨c, hc, _⟩ := anchor_cert h.va.well q2
        exact ⟨c, hc⟩
      have hr : (w.putL A (Go.Proofs.YtoeppembokpjkaaGreat.backI A w.c.round (nextC A w.c.round))).c.round = nextC A w.c.round := putL_round h.va hsp.2.2.2.2.1 hall.2.2
      obtain ⟨i1, i2⟩ := ih _ p2 (by rw [hr]; omega) (by rw [hr]; exact hsp.2.2.2.1)
      refine ⟨?_, i2⟩
      rw [i1, p1, h.backI _ hsp.2.2.2.2.1]
      exact (run_pass h.vd h.ld (h.settled hsp.2.2.1) hsp.2.2.2.1 _ w (Nat.le_refl _) h2 h3 hsp.1).symm
    · exact ⟨rfl, h1⟩
theorem put_outs (d : Dag) (w : Wk) (a : Int) : w.outs <+: (w.putA d a).outs := by
  unfold Wk.putA
  split
  · split
    · exact List.prefix_append ..
    · exact List.prefix_refl _
  · exact List.prefix_refl _
theorem putL_outs (d : Dag) : ∀ (l : List Int) (w : Wk), w.outs <+: (w.putL d l).outs
  | [], w => List.prefix_refl _
  | a :: l, w => (put_outs d w a).trans (putL_outs d l (w.putA d a))
theorem goF_outs (d : Dag) : ∀ (n : Nat) (w : Wk), w.outs <+: (Wk.goF d n w).outs
  | 0, w => List.prefix_refl _
  | n + 1, w => by
    rw [Wk.goF]
    split
    · exact (putL_outs d _ w).trans (goF_outs d n _)
    · exact List.prefix_refl _
end Go.Proofs.YtoeppembokpjkaaGreat

namespace Go.Proofs.YtoeppembokpjkaaGreat
open Go.Ab Go.RowKit
theorem putL_okay {d : Dag} (hw : d.well) {w : Wk} {l : List Int} (h : Chain d w l) (hok : w.okay d) : (w.putL d l).okay d := by
  have : ∀ j, j ≤ l.length → goInI d [] w l false (w.putL d (l.take j)) j := by
    intro j
    induction j with
    | zero =>
      intro _
      exact goInI.start hw h hok (done0 := []) (b := false) (by intro h; cases h)
    | succ j ih =>
      intro hj
      obtain ⟨x, i, c, h1, h2, h3, h4⟩ := h.at hw (show j < l.length by omega)
      have h5 := goInI.step hw h (ih (by omega)) (by omega) h1 h2 h3 h4
      have e := h5.is
      rw [e] at h5
      exact h5
  have := (this l.length (Nat.le_refl _)).okay
  rwa [List.take_length] at this
theorem goF_okay {d : Dag} (h : Valid d) : ∀ (n : Nat) (w : Wk), w.okay d → 0 ≤ w.c.round → w.c.round % 2 = 0 → (Wk.goF d n w).okay d ∧ 0 ≤ (Wk.goF d n w).c.round ∧ (Wk.goF d n w).c.round % 2 = 0 ∧ (Wk.goF d n w).c.round ≤ max w.c.round (topR d.certs) := by
  intro n
  induction n with
  | zero => intro w h1 h2 h3; exact ⟨h1, h2, h3, by show w.c.round ≤ _; omega⟩
  | succ n ih =>
    intro w h1 h2 h3
    rw [Wk.goF]
    split
    · rename_i hp
      have hsp := nextC_spec h.well h2 h3 hp
      have hall := backI_all h.well hsp.1 hsp.2.2.2.2.1
      have hr : (w.putL d (backI d w.c.round (nextC d w.c.round))).c.round = nextC d w.c.round := putL_round h hsp.2.2.2.2.1 hall.2.2
      obtain ⟨i1, i2, i3, i4⟩ := ih _ (putL_okay h.well ⟨hall.1, hall.2.1, hall.2.2⟩ h1) (by rw [hr]; omega) (by rw [hr]; exact hsp.2.2.2.1)
      exact ⟨i1, i2, i3, by rw [hr] at i4; omega⟩
    · exact ⟨h1, h2, h3, by omega⟩
theorem finW_run (d : Dag) (c : Cursor) : finW d c = run d ⟨c, []⟩ := rfl
theorem sub_fin {A D : Dag} (h : Sub A D) {c : Cursor} (hc : inDag A ⟨c, []⟩) (h0 : 0 ≤ c.round) (h2 : c.round % 2 = 0) : run D (finW A c) = finW D c ∧ inDag A (finW A c) := sub_run h _ _ hc h0 h2
/-- what was put out ahead stands ahead -/
def Wk.pre (o : List Int) (w : Wk) : Wk := ⟨w.c, o ++ w.outs⟩
theorem putA_pre (d : Dag) (o : List Int) (w : Wk) (a : Int) : (w.pre o).putA d a = (w.putA d a).pre o := by
  unfold Wk.putA
  split
  · split
    · unfold Wk.put Wk.pre
      simp
    · rfl
  · rfl
theorem putL_pre (d : Dag) (o : List Int) : ∀ (l : List Int) (w : Wk), (w.pre o).putL d l = (w.putL d l).pre o
  | [], w => rfl
  | a :: l, w => by
    show ((w.pre o).putA d a).putL d l = ((w.putA d a).putL d l).pre o
    rw [putA_pre, putL_pre d o l]
theorem goF_pre (d : Dag) (o : List Int) : ∀ (n : Nat) (w : Wk), Wk.goF d n (w.pre o) = (Wk.goF d n w).pre o
  | 0, w => rfl
  | n + 1, w => by
    rw [Wk.goF, Wk.goF]
    show (if nextC d w.c.round > 0 then _ else _) = _
    split
    · show Wk.goF d n ((w.pre o).putL d (backI d w.c.round (nextC d w.c.round))) = _
      rw [putL_pre, goF_pre d o n]
    · rfl
/-- going on from a cursor that a part gave -/
theorem fin_on {A D : Dag} (h : Sub A D) {c : Cursor} (hc : inDag A ⟨c, []⟩) (h0 : 0 ≤ c.round) (h2 : c.round % 2 = 0) : (finW D (finW A c).c).c = (finW D c).c ∧ (finW D c).outs = (finW A c).outs ++ (finW D (finW A c).c).outs := by
  have h1 := (sub_fin h hc h0 h2).1
  have h3 : finW A c = (Wk.mk (finW A c).c []).pre (finW A c).outs := by unfold Wk.pre; rw [List.append_nil]
  have h4 : finW D c = (finW D (finW A c).c).pre (finW A c).outs := by
    rw [← h1]
    have := goF_pre D (finW A c).outs (topR D.certs).toNat (Wk.mk (finW A c).c [])
    rw [← h3] at this
    exact this
  exact ⟨by rw [h4]; rfl, by rw [h4]; rfl⟩
theorem Sub.refl {d : Dag} (h : Valid d) (h0 : d.low = 0) : Sub d d := ⟨h, h, h0, h0, rfl, List.Sublist.refl _⟩
end Go.Proofs.YtoeppembokpjkaaGreat

namespace Go.Proofs.YtoeppembokpjkaaGreat
open Go.Ab Go.RowKit Go.MapKept
attribute [local irreducible] ACalls AW ADraw Into fltB fnear
set_option maxRecDepth 100000
/-! ## the page's marks -/
def seenL (dl : Int) : List Cert → List Int → List Int
  | [], ks => ks
  | c :: r, ks => seenL dl r (if c.digest ∈ ks then (if c.round > dl + 1 then addS ks c.pars else ks) else ks)
theorem seenL_skip {dl : Int} : ∀ {l1 l2 : List Cert} {ks : List Int}, (∀ c ∈ l1, c.digest ∉ ks) → seenL dl (l1 ++ l2) ks = seenL dl l2 ks
  | [], _, _, _ => rfl
  | c :: r, l2, ks, h => by
    rw [List.cons_append, seenL, if_neg (h c (by simp))]
    exact seenL_skip fun y hy => h y (by simp [hy])
/-- parents stand below -/
def under (dl : Int) (l : List Cert) : Prop := ∀ z ∈ l, z.round > dl + 1 → ∀ c ∈ l, c.digest ∈ z.pars → c.round < z.round
theorem seenL_not {dl : Int} {x : Cert} : ∀ {l : List Cert} {ks : List Int}, (∀ z ∈ l, z.round > dl + 1 → x.digest ∉ z.pars) → (x.digest ∈ seenL dl l ks ↔ x.digest ∈ ks)
  | [], _, _ => Iff.rfl
  | c :: r, ks, h => by
    rw [seenL, seenL_not fun z hz => h z (by simp [hz])]
    split
    · split
      · rename_i h2
        rw [mem_addS]
        exact ⟨fun h3 => h3.elim id fun h4 => absurd h4 (h c (by simp) h2), .inl⟩
      · exact Iff.rfl
    · exact Iff.rfl
theorem downL_marks {dl low : Int} : ∀ {l : List Cert} {ks : List Int}, desc l → (l.map (·.digest)).Nodup → under dl l → downL dl low l ks = (l.filter fun c => decide (c.digest ∈ seenL dl l ks) && decide (low < c.round)).map (·.digest)
  | [], _, _, _, _ => rfl
  | x :: r, ks, hd, hn, hu => by
    have hd' := List.pairwise_cons.1 hd
    have hn' := List.nodup_cons.1 hn
    have hu' : under dl r := fun z hz h1 c hc h2 => hu z (by simp [hz]) h1 c (by simp [hc]) h2
    by_cases h1 : x.round ≤ low
    · rw [downL, if_pos h1, List.filter_eq_nil_iff.2]
      · rfl
      · intro c hc
        have : c.round ≤ low := by
          rcases List.mem_cons.1 hc with rfl | h
          · exact h1
          · have := hd'.1 c h; omega
        simp [Int.not_lt.2 this]
    · have hx : ∀ z ∈ r, z.round > dl + 1 → x.digest ∉ z.pars := by
        intro z hz h2 h3
        have h4 := hu z (by simp [hz]) h2 x (by simp) h3
        have h5 := hd'.1 z hz
        omega
      have hxl : low < x.round := by omega
      rw [downL, if_neg h1, List.filter_cons, seenL]
      by_cases hk : x.digest ∈ ks
      · have hk2 : x.digest ∈ (if x.round > dl + 1 then addS ks x.pars else ks) := by
          split
          · exact mem_addS.2 (.inl hk)
          · exact hk
        rw [if_pos hk, if_pos hk]
        obtain ⟨k', hk'⟩ : ∃ k', (if x.round > dl + 1 then addS ks x.pars else ks) = k' := ⟨_, rfl⟩
        rw [hk'] at hk2 ⊢
        rw [downL_marks hd'.2 hn'.2 hu', if_pos (by rw [decide_eq_true ((seenL_not hx).2 hk2), decide_eq_true hxl]; rfl), List.map_cons]
      · rw [if_neg hk, if_neg hk, downL_marks hd'.2 hn'.2 hu', if_neg (by rw [decide_eq_false (fun h3 => hk ((seenL_not hx).1 h3))]; simp)]
def markS (d : Dag) (c : Cert) : List Int := seenL d.low d.certs.reverse [c.digest]
def marksB (d : Dag) (ks : List Int) : List Bool := d.certs.map fun c => decide (c.digest ∈ ks)
theorem Valid.under {d : Dag} (h : Valid d) : under d.low d.certs.reverse := by
  intro z hz h1 c hc h2
  have hz := List.mem_reverse.1 hz
  have hc := List.mem_reverse.1 hc
  obtain ⟨c', k1, k2, k3⟩ := h.here z hz h1 _ h2
  have := dig_inj h.dig hc k1 k2.symm
  subst this
  omega
theorem rise_marks {d : Dag} (h : Valid d) {i : Nat} {c : Cert} (hi : d.certs[i]? = some c) (low : Int) : riseI d i low = (d.certs.filter fun y => decide (y.digest ∈ markS d c) && decide (low < y.round)).map (·.digest) := by
  have hn : (d.certs.reverse.map (·.digest)).Nodup := by rw [List.map_reverse]; exact (List.reverse_perm _).nodup_iff.2 h.dig
  rw [riseI, downI_eq h.sorted h.dig hi, downL_marks (desc_rev h.sorted) hn h.under, ← List.map_reverse, ← List.filter_reverse, List.reverse_reverse]
  rfl
theorem reach_marks {d : Dag} (h : Valid d) {i k : Nat} {c x : Cert} (hi : d.certs[i]? = some c) (hk : d.certs[k]? = some x) : reachJ d i k = decide (x.digest ∈ markS d c) := by
  unfold reachJ
  rw [hk]
  show decide _ = _
  refine decide_eq_decide.2 ?_
  have e : x.digest ∈ downI d i (x.round - 1) ↔ x.digest ∈ riseI d i (x.round - 1) := List.mem_reverse.symm
  rw [e, rise_marks h hi, List.mem_map]
  constructor
  · rintro ⟨y, hy, e⟩
    have := List.mem_filter.1 hy
    rw [← e]
    simp at this
    exact this.2.1
  · intro hx
    exact ⟨x, List.mem_filter.2 ⟨List.mem_of_getElem? hk, by simp [hx]; omega⟩, rfl⟩
theorem marks_start {d : Dag} (h : Valid d) {i : Nat} {c : Cert} (hi : d.certs[i]? = some c) : markS d c = seenL d.low (d.certs.take (i + 1)).reverse [c.digest] := by
  have e : d.certs.reverse = (d.certs.drop (i + 1)).reverse ++ (d.certs.take (i + 1)).reverse := by
    rw [← List.reverse_append, List.take_append_drop]
  rw [markS, e, seenL_skip]
  intro x hx
  have := dig_at h.dig hi x (List.mem_reverse.1 hx)
  simpa using this
theorem marks_set {d : Dag} (h : Valid d) {ks : List Int} {x : Int} {k : Nat} (hk : getC d.certs x = some k) : (marksB d ks).set k true = marksB d (insS ks x) := by
  have hk2 := hk
  unfold getC at hk2
  rw [List.findIdx?_eq_some_iff_getElem] at hk2
  obtain ⟨hkl, h1, _⟩ := hk2
  have h1 : d.certs[k].digest = x := by simpa using h1
  refine List.ext_getElem? fun j => ?_
  rcases Nat.lt_or_ge j d.certs.length with hj | hj
  · by_cases e : j = k
    · subst e
      rw [List.getElem?_set_self (by simpa [marksB] using hj)]
      simp only [marksB, List.getElem?_map, List.getElem?_eq_getElem hj, Option.map_some, Option.some.injEq]
      exact (decide_eq_true (mem_insS.2 (.inr h1))).symm
    · rw [List.getElem?_set_ne (Ne.symm e)]
      simp only [marksB, List.getElem?_map, List.getElem?_eq_getElem hj, Option.map_some, Option.some.injEq]
      refine decide_eq_decide.2 ?_
      rw [mem_insS]
      refine ⟨.inl, fun h2 => h2.elim id fun h3 => ?_⟩
      exfalso
      have h4 : (d.certs.map (·.digest))[j]? = (d.certs.map (·.digest))[k]? := by
        rw [List.getElem?_map, List.getElem?_map, List.getElem?_eq_getElem hj, List.getElem?_eq_getElem hkl]
        show some d.certs[j].digest = some d.certs[k].digest
        rw [h3, h1]
      exact e ((List.getElem?_inj (by simpa using hj) h.dig).1 h4)
  · rw [List.getElem?_eq_none (by simpa [marksB] using hj), List.getElem?_eq_none (by simpa [marksB] using hj)]
theorem marks_none {d : Dag} {ks : List Int} {x : Int} (hk : getC d.certs x = none) : marksB d (insS ks x) = marksB d ks := by
  unfold getC at hk
  rw [List.findIdx?_eq_none_iff] at hk
  refine List.map_congr_left fun c hc => decide_eq_decide.2 ?_
  have := hk c hc
  rw [mem_insS]
  refine ⟨fun h => h.elim id fun h2 => ?_, .inl⟩
  rw [h2] at this
  simp at this
def bools (l : List Bool) : List (List DV) := l.map fun b => [.bool b]
theorem bools_length (l : List Bool) : (bools l).length = l.length := List.length_map ..
theorem bools_at {l : List Bool} {k : Nat} {a : Bool} (h : l[k]? = some a) : (bools l)[k]? = some [.bool a] := by simp [bools, h]
theorem bools_set (l : List Bool) (k : Nat) (a : Bool) : (bools l).set k [.bool a] = bools (l.set k a) := by simp [bools, List.map_set]
end Go.Proofs.YtoeppembokpjkaaGreat
