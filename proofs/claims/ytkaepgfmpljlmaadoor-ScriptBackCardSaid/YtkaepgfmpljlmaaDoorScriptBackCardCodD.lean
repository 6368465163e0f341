/- ScriptBack: an act that Heavy lets through and that the printer prints is read back from that line as the same act, and no line with one more blank inside it is read. -/
import Derived.Test.YtkaepgfmpljlmaaDoorScriptBackCardCodC
import Derived.Handed
import Derived.HandedShaped
import Derived.Lay
import Derived.LaidLaws
import Derived.LaidHandle
import Derived.MakeChecks
import Derived.Lib.LaidU8
import Derived.Shelf.Vars
import Derived.ProofKit
import Derived.Test.YtkaepgfmpljlmaaDoorRows
import Derived.SevenTiedAt
import Derived.Test.YtkaepgfmpljlmaaDoorCards
import Derived.Test.YtkaepgfmpljlmaaDoorTie
set_option linter.unusedVariables false
set_option linter.unusedSimpArgs false
namespace Go.Proofs.YtkaepgfmpljlmaaDoor
open Go.Ab Go.RowKit Go.Scr Go.Proofs
theorem rd_i64 {n : Int} (h2 : (Lit.int .i64 n).wf = true) : i64S n := by
  have hb : -9223372036854775808 ≤ n ∧ n ≤ 9223372036854775807 := by simpa [Lit.wf, IntKind.min, IntKind.max, IntKind.signed, IntKind.bits] using h2
  exact hb
theorem rd_nums {a : List DV} (h : ∃ xs, a = [DV.sl 1 xs] ∧ xs.length * 8 ≤ 140737488355328 ∧ ∀ x ∈ xs, ∃ n, x = [DV.int .i64 n] ∧ (Lit.int .i64 n).wf = true) : ∃ l : List Int, a = [.sl 1 (nums l)] ∧ few l ∧ ∀ n ∈ l, i64S n := by
  obtain ⟨xs, rfl, h1, h2⟩ := h
  obtain ⟨l, rfl, hl⟩ := map_of (f := fun n : Int => [.int .i64 n]) (ok := i64S) fun x hx => by
    obtain ⟨n, e, hw⟩ := h2 x hx
    exact ⟨n, e, rd_i64 hw⟩
  rw [List.length_map] at h1
  exact ⟨l, rfl, by unfold few; omega, hl⟩
theorem rd_hd (k : Nat) {ds : List DV} (h : DTy tt (k + 3) 31 ds) : ∃ c : Hd, ds = c.cs ∧ c.few := by
  replace h : DTyF (DTy tt (k + 2)) [3, 3, 24, 24] ds := h
  obtain ⟨a4, b4, rfl, h4, a5, b5, rfl, h5, a6, b6, rfl, h6, a7, b7, rfl, h7, rfl⟩ := h
  replace h4 : ∃ x, a4 = [.int .i64 x] ∧ (Lit.int .i64 x).wf = true := h4
  replace h5 : ∃ x, a5 = [.int .i64 x] ∧ (Lit.int .i64 x).wf = true := h5
  obtain ⟨l6, rfl, f6, e6⟩ := rd_nums h6
  obtain ⟨l7, rfl, f7, e7⟩ := rd_nums h7
  obtain ⟨x4, rfl, w4⟩ := h4
  obtain ⟨x5, rfl, w5⟩ := h5
  exact ⟨⟨x4, x5, l6, l7⟩, rfl, f6, f7⟩
theorem rd_txs (k : Nat) {a : List DV} (h : DTy tt (k + 3) 27 a) : ∃ l : List Tx, a = [.sl 4 (txsD l)] ∧ few l ∧ ∀ t ∈ l, t.key.size ≤ 140737488355328 ∧ t.val.size ≤ 140737488355328 := by
  replace h : ∃ xs, a = [.sl 4 xs] ∧ xs.length * 48 ≤ 140737488355328 ∧ ∀ x ∈ xs, DTy tt (k + 2) 26 x := h
  obtain ⟨x3, rfl, w3, e3⟩ := h
  obtain ⟨l, rfl, hl⟩ := map_of (f := Tx.cs) (ok := fun t => t.key.size ≤ 140737488355328 ∧ t.val.size ≤ 140737488355328) (xs := x3) fun x hx => by
    have h := e3 x hx
    replace h : DTyF (DTy tt (k + 1)) [3, 3, 9, 9] x := h
    obtain ⟨a1, b1, rfl, h1, a2, b2, rfl, h2, a3, b3, rfl, h3, a4, b4, rfl, h4, rfl⟩ := h
    replace h1 : ∃ x, a1 = [.int .i64 x] ∧ (Lit.int .i64 x).wf = true := h1
    replace h2 : ∃ x, a2 = [.int .i64 x] ∧ (Lit.int .i64 x).wf = true := h2
    replace h3 : ∃ s, a3 = [.str s] ∧ s.size ≤ 140737488355328 := h3
    replace h4 : ∃ s, a4 = [.str s] ∧ s.size ≤ 140737488355328 := h4
    obtain ⟨x1, rfl, _⟩ := h1
    obtain ⟨x2, rfl, _⟩ := h2
    obtain ⟨x3, rfl, w3⟩ := h3
    obtain ⟨x4, rfl, w4⟩ := h4
    exact ⟨⟨x1, x2, x3, x4⟩, rfl, w3, w4⟩
  simp only [List.length_map] at w3
  exact ⟨l, rfl, by unfold few; omega, hl⟩
theorem rd_msg (k : Nat) {ds : List DV} (h : DTy tt (k + 5) 35 ds) : ∃ m : Msg, ds = m.cs ∧ m.few ∧ ∀ t ∈ m.txs, t.key.size ≤ 140737488355328 ∧ t.val.size ≤ 140737488355328 := by
  replace h : DTyF (DTy tt (k + 4)) [3, 3, 3, 3, 29, 31, 33, 24] ds := h
  obtain ⟨a1, b1, rfl, h1, a2, b2, rfl, h2, a3, b3, rfl, h3, a4, b4, rfl, h4, a5, b5, rfl, h5, a6, b6, rfl, h6, a7, b7, rfl, h7, a8, b8, rfl, h8, rfl⟩ := h
  replace h1 : ∃ x, a1 = [.int .i64 x] ∧ (Lit.int .i64 x).wf = true := h1
  replace h2 : ∃ x, a2 = [.int .i64 x] ∧ (Lit.int .i64 x).wf = true := h2
  replace h3 : ∃ x, a3 = [.int .i64 x] ∧ (Lit.int .i64 x).wf = true := h3
  replace h4 : ∃ x, a4 = [.int .i64 x] ∧ (Lit.int .i64 x).wf = true := h4
  replace h5 : DTyF (DTy tt (k + 3)) [3, 3, 27] a5 := h5
  replace h7 : DTyF (DTy tt (k + 3)) [31, 3, 24] a7 := h7
  obtain ⟨c1, d1, rfl, g1, c2, d2, rfl, g2, c3, d3, rfl, g3, rfl⟩ := h5
  obtain ⟨e1, f1, rfl, i1, e2, f2, rfl, i2, e3, f3, rfl, i3, rfl⟩ := h7
  replace g1 : ∃ x, c1 = [.int .i64 x] ∧ (Lit.int .i64 x).wf = true := g1
  replace g2 : ∃ x, c2 = [.int .i64 x] ∧ (Lit.int .i64 x).wf = true := g2
  replace i2 : ∃ x, e2 = [.int .i64 x] ∧ (Lit.int .i64 x).wf = true := i2
  obtain ⟨x1, rfl, _⟩ := h1
  obtain ⟨x2, rfl, _⟩ := h2
  obtain ⟨x3, rfl, _⟩ := h3
  obtain ⟨x4, rfl, _⟩ := h4
  obtain ⟨y1, rfl, _⟩ := g1
  obtain ⟨y2, rfl, _⟩ := g2
  obtain ⟨l, rfl, fl, hl⟩ := rd_txs k g3
  obtain ⟨hh, rfl, fh⟩ := rd_hd (k + 1) h6
  obtain ⟨ch, rfl, fc⟩ := rd_hd k i1
  obtain ⟨z2, rfl, _⟩ := i2
  obtain ⟨sg, rfl, fs, _⟩ := rd_nums i3
  obtain ⟨dg, rfl, fd, _⟩ := rd_nums h8
  exact ⟨⟨x1, x2, x3, x4, y1, y2, l, hh, ch, z2, sg, dg⟩, by simp [Msg.cs, Hd.cs], ⟨fl, fh, fc, fs, fd⟩, hl⟩
theorem bw_of (s : ByteArray) : s = bw s.data.toList := rfl
theorem rd_act {ds : List DV} (h : DTy tt 7 38 ds) : ∃ (a : Sa) (m : Msg), ds = actD a m ∧ Sa.sized a ∧ m.few ∧ a.quiet = m.zero ∧ ∀ t ∈ m.txs, t.key.size ≤ 140737488355328 ∧ t.val.size ≤ 140737488355328 := by
  replace h : DTyF (DTy tt 6) [3, 3, 3, 3, 24, 26, 35, 36] ds := h
  obtain ⟨a1, b1, rfl, h1, a2, b2, rfl, h2, a3, b3, rfl, h3, a4, b4, rfl, h4, a5, b5, rfl, h5, a6, b6, rfl, h6, a7, b7, rfl, h7, a8, b8, rfl, h8, rfl⟩ := h
  replace h1 : ∃ x, a1 = [.int .i64 x] ∧ (Lit.int .i64 x).wf = true := h1
  replace h2 : ∃ x, a2 = [.int .i64 x] ∧ (Lit.int .i64 x).wf = true := h2
  replace h3 : ∃ x, a3 = [.int .i64 x] ∧ (Lit.int .i64 x).wf = true := h3
  replace h4 : ∃ x, a4 = [.int .i64 x] ∧ (Lit.int .i64 x).wf = true := h4
  obtain ⟨x1, rfl, w1⟩ := h1
  obtain ⟨x2, rfl, w2⟩ := h2
  obtain ⟨x3, rfl, w3⟩ := h3
  obtain ⟨x4, rfl, w4⟩ := h4
  obtain ⟨pk, rfl, fp, ep⟩ := rd_nums h5
  replace h6 : DTyF (DTy tt 5) [3, 3, 9, 9] a6 := h6
  obtain ⟨c1, d1, rfl, g1, c2, d2, rfl, g2, c3, d3, rfl, g3, c4, d4, rfl, g4, rfl⟩ := h6
  replace g1 : ∃ x, c1 = [.int .i64 x] ∧ (Lit.int .i64 x).wf = true := g1
  replace g2 : ∃ x, c2 = [.int .i64 x] ∧ (Lit.int .i64 x).wf = true := g2
  replace g3 : ∃ s, c3 = [.str s] ∧ s.size ≤ 140737488355328 := g3
  replace g4 : ∃ s, c4 = [.str s] ∧ s.size ≤ 140737488355328 := g4
  obtain ⟨y1, rfl, v1⟩ := g1
  obtain ⟨y2, rfl, v2⟩ := g2
  obtain ⟨y3, rfl, v3⟩ := g3
  obtain ⟨y4, rfl, v4⟩ := g4
  obtain ⟨m, rfl, fm, ht⟩ := rd_msg 1 h7
  replace h8 : ∃ xs, a8 = [.sl 1 xs] ∧ xs.length * 1 ≤ 140737488355328 ∧ ∀ x ∈ xs, ∃ n, x = [DV.int .u8 n] ∧ (Lit.int .u8 n).wf = true := h8
  obtain ⟨xs, rfl, w8, e8⟩ := h8
  obtain ⟨bs, rfl⟩ := u8_of e8
  rw [u8s_length] at w8
  exact ⟨⟨x1, x2, x3, x4, y1, y2, y3.data.toList, y4.data.toList, bs, pk, m.zero⟩, m, by simp [actD, ← bw_of], ⟨⟨rd_i64 w2, rd_i64 w3, rd_i64 w4, rd_i64 v1, rd_i64 v2, ep⟩, fp, v3, v4, by show bs.length ≤ 140737488355328; omega⟩, fm, rfl, ht⟩
def Ask.okT (q : Ask) : Prop := q.ok ∧ ∀ t ∈ q.m.txs, t.key.size ≤ 140737488355328 ∧ t.val.size ≤ 140737488355328
theorem rd_asks {ds : List DV} (h : DTy tt 9 22 ds) : ∃ l : List Ask, arg1 ds = .d (.sl 29 (asksD l)) ∧ few l ∧ ∀ q ∈ l, q.okT := by
  replace h : ∃ xs, ds = [.sl 29 xs] ∧ xs.length * 400 ≤ 140737488355328 ∧ ∀ x ∈ xs, DTy tt 8 40 x := h
  obtain ⟨xs, rfl, h1, h2⟩ := h
  obtain ⟨l, rfl, hl⟩ := map_of (f := Ask.cs) (ok := Ask.okT) fun x hx => by
    have h3 : DTyF (DTy tt 7) [38, 9] x := h2 x hx
    obtain ⟨a1, b1, rfl, h4, a2, b2, rfl, h5, rfl⟩ := h3
    obtain ⟨a, m, rfl, k1, k2, k3, k4⟩ := rd_act h4
    replace h5 : ∃ s, a2 = [.str s] ∧ s.size ≤ 140737488355328 := h5
    obtain ⟨s, rfl, k5⟩ := h5
    exact ⟨⟨a, m, s⟩, by simp [Ask.cs], ⟨k1, k2, k3, k5⟩, k4⟩
  rw [List.length_map] at h1
  refine ⟨l, rfl, ?_, hl⟩
  unfold few
  omega
end Go.Proofs.YtkaepgfmpljlmaaDoor
namespace Go.Proofs.YtkaepgfmpljlmaaDoor
open Go.Ab Go.RowKit Go.Scr Go.Proofs
attribute [local irreducible] ACalls AW ADraw Into fltB fnear
set_option maxRecDepth 100000
theorem txW_ok (l : List Tx) (hl : few l) (hk : ∀ t ∈ l, t.key.size ≤ 140737488355328 ∧ t.val.size ≤ 140737488355328) : ACalls Tryd.prog 19 [.d (.sl 4 (txsD l))] [] (fun av L => (∃ n : Int, av = .d (.int .i64 n) ∧ 0 ≤ n ∧ n ≤ 562949953421312 ∧ ∀ t, l = [t] → t.key.size + t.val.size ≤ n) ∧ L = []) := by
  have hcl := txsD_length l
  unfold few at hl
  (refine acalls_go ttOk zOk foOk Tryd.func19 rfl Tryd.ntmps19 rfl false rfl ?_); (conv => whnf)
  refine loop_go2 ttOk zOk foOk (σ := Int) (ρ := Nat) (fun w j => ([(0, .d (.sl 4 (txsD l))), (3, .d (.int .i64 w)), (4, .d (.int .i64 j))], [])) (fun w j => j ≤ l.length ∧ 0 ≤ w ∧ w ≤ 562949953421312 ∧ (j = 0 → w = l.length) ∧ (0 < j → ∀ t, l[0]? = some t → t.key.size + t.val.size ≤ w)) (fun _ j => l.length - j) [0, 3, 4] ?_ ?_
  · conv => whnf
    exact ⟨l.length, 0, by rw [hcl]; rfl, rfl, by omega, by omega, by omega, fun _ => rfl, fun h => absurd h (Nat.lt_irrefl 0)⟩
  · rintro w j ⟨hj, hw1, hw2, hw3, hw4⟩
    conv => whnf
    rw [hcl]
    refine rdw ?_; repeat' ((with_reducible apply tw) <;> intro _)
    · rename_i hjl hwl
      replace hwl : w < 1048576 := hwl
      refine Exists.elim (⟨_, List.getElem?_eq_getElem (by omega)⟩ : ∃ c, l[j]? = some c) fun c hc => ?_
      have hcx := hk c (List.mem_of_getElem? hc)
      have hk1 := hcx.1
      have hk2 := hcx.2
      ((with_reducible refine draw_pl ttOk zOk foOk mixedOk pl19x5 ?_ ?_); (focus kernel_rfl); (conv => whnf))
      repeat' (first | ((with_reducible apply rd_intro); (focus (intro K hK; (conv => whnf); exact ix_map hc (by first | rfl | omega) hK)); (conv => whnf)) | (first | ((with_reducible first | apply rd_intro | apply gd_and); (focus ((conv => whnf) <;> first | rfl | (intro K hK; (conv => whnf); first | exact hK | exact z_wrap (by omega) hK))); conv => whnf) | ((with_reducible apply z_wrap); (focus omega); conv => whnf) | ((with_reducible first | apply mt_dec | apply mt_eq | apply mt_ne | apply mt_not | apply mt_any) <;> (intro _; conv => whnf))))
      refine ⟨_, j + 1, rfl, rfl, ⟨by omega, by omega, by omega, fun h => absurd h (Nat.succ_ne_zero j), fun _ t ht => ?_⟩, by omega⟩
      cases j with
      | zero =>
        rw [hc] at ht
        cases ht
        omega
      | succ j =>
        have := hw4 (Nat.succ_pos j) t ht
        omega
    · rename_i hjl hwl
      replace hwl : ¬ w < 1048576 := hwl
      refine ⟨⟨_, rfl, hw1, hw2, fun t e => ?_⟩, rfl⟩
      subst e
      rcases Nat.eq_zero_or_pos j with h0 | h0
      · have := hw3 h0
        simp only [List.length_cons, List.length_nil] at this
        omega
      · exact hw4 h0 t rfl
    · rename_i hjl
      refine ⟨⟨_, rfl, hw1, hw2, fun t e => ?_⟩, rfl⟩
      subst e
      refine hw4 ?_ t rfl
      simp only [List.length_cons, List.length_nil] at hjl
      omega
theorem headW_ok (c : Hd) (h : c.few) : ACalls Tryd.prog 35 [mAv c.cs] [] (fun av L => av = .d (.int .i64 (1 + c.bats.length + c.pars.length)) ∧ L = []) := by
  have h1 := h.bats
  have h2 := h.pars
  unfold few at h1 h2
  have e1 := nums_length c.bats
  have e2 := nums_length c.pars
  (refine acalls_go ttOk zOk foOk Tryd.func35 rfl Tryd.ntmps35 rfl false rfl ?_); (conv => whnf)
  rw [e1]
  refine rdw ?_; repeat' ((with_reducible apply tw) <;> intro _)
  rw [e2]
  refine rdw ?_; repeat' ((with_reducible apply tw) <;> intro _)
  exact ⟨rfl, rfl⟩
theorem certW_ok (c : Hd) (h : c.few) (d : Int) (sg : List Int) (hs : few sg) : ACalls Tryd.prog 36 [cAv c d sg] [] (fun av L => av = .d (.int .i64 (1 + c.bats.length + c.pars.length + sg.length)) ∧ L = []) := by
  have h1 := h.bats
  have h2 := h.pars
  unfold few at h1 h2 hs
  have e3 := nums_length sg
  (refine acalls_go ttOk zOk foOk Tryd.func36 rfl Tryd.ntmps36 rfl false rfl ?_); (conv => whnf)
  ((with_reducible refine draw_pl ttOk zOk foOk mixedOk pl36x1 ?_ ?_); (focus kernel_rfl); (conv => whnf))
  refine rdw ?_; repeat' ((with_reducible apply tw) <;> intro _)
  refine (headW_ok c h).mono ?_
  rintro _ _ ⟨rfl, rfl⟩
  conv => whnf
  refine rdw ?_; repeat' ((with_reducible apply tw) <;> intro _)
  rw [e3]
  refine rdw ?_; repeat' ((with_reducible apply tw) <;> intro _)
  exact ⟨rfl, rfl⟩
theorem msgW_ok (m : Msg) (h : m.few) (hk : ∀ t ∈ m.txs, t.key.size ≤ 140737488355328 ∧ t.val.size ≤ 140737488355328) : ACalls Tryd.prog 20 [mAv m.cs] [] (fun av L => (∃ n : Int, av = .d (.int .i64 n)) ∧ L = []) := by
  have h1 := txW_ok m.txs h.txs hk
  have h2 := headW_ok m.head h.head
  have h3 := certW_ok m.chead h.chead m.cdig m.sigs h.sigs
  have l7 := nums_length m.digs
  have f1 := h.head.bats
  have f2 := h.head.pars
  have f3 := h.chead.bats
  have f4 := h.chead.pars
  have f5 := h.sigs
  have f6 := h.digs
  unfold few at f1 f2 f3 f4 f5 f6
  (refine acalls_go ttOk zOk foOk Tryd.func20 rfl Tryd.ntmps20 rfl false rfl ?_); (conv => whnf)
  ((with_reducible refine draw_pl ttOk zOk foOk mixedOk pl20x1 ?_ ?_); (focus kernel_rfl); (conv => whnf))
  refine rdw ?_; repeat' ((with_reducible apply tw) <;> intro _)
  refine h1.mono ?_
  rintro _ _ ⟨⟨n, rfl, hn1, hn2, -⟩, rfl⟩
  conv => whnf
  refine rdw ?_; repeat' ((with_reducible apply tw) <;> intro _)
  refine h2.mono ?_
  rintro _ _ ⟨rfl, rfl⟩
  conv => whnf
  refine rdw ?_; repeat' ((with_reducible apply tw) <;> intro _)
  refine h3.mono ?_
  rintro _ _ ⟨rfl, rfl⟩
  conv => whnf
  refine rdw ?_; repeat' ((with_reducible apply tw) <;> intro _)
  rw [l7]
  refine rdw ?_; repeat' ((with_reducible apply tw) <;> intro _)
  exact ⟨⟨_, rfl⟩, rfl⟩
structure Sa.small (a : Sa) : Prop where
  fit : a.fit
  picks : a.picks.length ≤ 100
  key : a.key.length ≤ 500
  val : a.val.length ≤ 500
  bytes : a.bytes.length ≤ 500
theorem Sa.small.fine {a : Sa} (h : Sa.small a) : Sa.fine a := ⟨h.fit, Nat.le_trans h.picks (by decide), Nat.le_trans h.key (by decide), Nat.le_trans h.val (by decide), Nat.le_trans h.bytes (by decide)⟩
theorem Sa.fine.sized {a : Sa} (h : Sa.fine a) : Sa.sized a := ⟨h.fit, Nat.le_trans h.picks (by decide), Nat.le_trans h.key (by decide), Nat.le_trans h.val (by decide), Nat.le_trans h.bytes (by decide)⟩
def Ask.tx (q : Ask) : Tx := ⟨q.a.sender, q.a.seq, bw q.a.key, bw q.a.val⟩
theorem heavy_ok (q : Ask) (ho : q.okT) : ACalls Tryd.prog 8 [mAv q.cs] [] (fun av L => (∃ b : Bool, av = .d (.bool b) ∧ (b = false → Sa.small q.a ∧ q.s.size ≤ 2000)) ∧ L = []) := by
  have h1 := txW_ok [q.tx] (show (1 : Nat) ≤ 140737488355328 by decide) (fun t ht => by simp only [List.mem_cons, List.not_mem_nil, or_false] at ht; subst ht; exact ⟨ho.1.a.key, ho.1.a.val⟩)
  have h2 := msgW_ok q.m ho.1.m ho.2
  have l1 := nums_length q.a.picks
  have l2 := u8s_length q.a.bytes
  have f1 := ho.1.a.picks
  have f2 := ho.1.a.bytes
  have f3 := ho.1.s
  unfold few at f1
  (refine acalls_go ttOk zOk foOk Tryd.func8 rfl Tryd.ntmps8 rfl false rfl ?_); (conv => whnf)
  refine rdw ?_; repeat' ((with_reducible apply tw) <;> intro _)
  · exact ⟨⟨_, rfl, fun h => by cases h⟩, rfl⟩
  · exact ⟨⟨_, rfl, fun h => by cases h⟩, rfl⟩
  · exact ⟨⟨_, rfl, fun h => by cases h⟩, rfl⟩
  · rename_i k1 k2 k3
    replace k1 : ¬ (q.s.size : Int) > 2000 := k1
    replace k2 : ¬ ((nums q.a.picks).length : Int) > 100 := k2
    replace k3 : ¬ ((u8s q.a.bytes).length : Int) > 500 := k3
    (refine Or.inl ?_; (conv => whnf))
    refine h1.mono ?_
    rintro _ _ ⟨⟨n, rfl, hn1, hn2, hn3⟩, rfl⟩
    have hn4 : ((q.a.key.length + q.a.val.length : Nat) : Int) ≤ n := by
      have := hn3 q.tx rfl
      have e1 : q.tx.key.size = q.a.key.length := rfl
      have e2 : q.tx.val.size = q.a.val.length := rfl
      omega
    conv => whnf
    refine rdw ?_; repeat' ((with_reducible apply tw) <;> intro _)
    · exact ⟨⟨_, rfl, fun h => by cases h⟩, rfl⟩
    · rename_i k4
      replace k4 : ¬ n > 500 := k4
      refine h2.mono ?_
      rintro _ _ ⟨⟨n2, rfl⟩, rfl⟩
      conv => whnf
      refine rdw ?_; repeat' ((with_reducible apply tw) <;> intro _)
      exact ⟨⟨_, rfl, fun _ => ⟨⟨ho.1.a.fit, by omega, by omega, by omega, by omega⟩, by omega⟩⟩, rfl⟩
def sameB (a b : Sa) : Bool := decide (a.kind = b.kind) && (decide (a.node = b.node) && (decide (a.peer = b.peer) && (decide (a.n = b.n) && (decide (a.sender = b.sender ∧ a.seq = b.seq ∧ a.key = b.key ∧ a.val = b.val) && (decide (a.picks = b.picks) && (decide (a.bytes = b.bytes) && b.quiet))))))
theorem sameB_iff (a b : Sa) : sameB a b = true ↔ a.kind = b.kind ∧ a.node = b.node ∧ a.peer = b.peer ∧ a.n = b.n ∧ (a.sender = b.sender ∧ a.seq = b.seq ∧ a.key = b.key ∧ a.val = b.val) ∧ a.picks = b.picks ∧ a.bytes = b.bytes ∧ b.quiet = true := by
  simp only [sameB, Bool.and_eq_true, decide_eq_true_iff]
theorem bw_eq (v w : W) : ((bw v).toList == (bw w).toList) = true ↔ v = w := by
  rw [ByteArray.toList_eq, ByteArray.toList_eq, beq_iff_eq]
  exact Iff.rfl
theorem tx_iff (a b : Sa) : (a.sender == b.sender && (a.seq == b.seq && ((bw a.key).toList == (bw b.key).toList && ((bw a.val).toList == (bw b.val).toList && true)))) = true ↔ a.sender = b.sender ∧ a.seq = b.seq ∧ a.key = b.key ∧ a.val = b.val := by
  rw [← bw_eq a.key, ← bw_eq a.val]
  simp only [Bool.and_eq_true, beq_iff_eq, and_true]
theorem same_ok (a b : Sa) (m : Msg) (hm : m.few) (hq : b.quiet = m.zero) (ha : Sa.sized a) : ACalls Tryd.prog 28 [actA a msg0, actA b m] [] (fun av L => av = .d (.bool (sameB a b)) ∧ L = []) := by
  have e1 := eqNumbers_ok a.picks b.picks ha.picks
  have e2 := eqMsg0 m hm true
  have e3 := eqBytes_ok a.bytes b.bytes ha.bytes
  have stop : ∀ {p : Prop}, (sameB a b = true → p) → (¬ p) → (AV.d (.bool false) = AV.d (.bool (sameB a b)) ∧ ([] : List AB) = []) := fun h k => ⟨boolEq ⟨fun h => (by cases h), fun h2 => absurd (h h2) k⟩, rfl⟩
  (refine acalls_go ttOk zOk foOk Tryd.func28 rfl Tryd.ntmps28 rfl false rfl ?_); (conv => whnf)
  repeat' (first | (first | ((with_reducible first | apply rd_intro | apply gd_and); (focus ((conv => whnf) <;> first | rfl | (intro K hK; (conv => whnf); first | exact hK | exact z_wrap (by omega) hK))); conv => whnf) | ((with_reducible apply z_wrap); (focus omega); conv => whnf) | ((with_reducible first | apply mt_dec | apply mt_eq | apply mt_ne | apply mt_not | apply mt_any) <;> (intro _; conv => whnf))) | (refine And.intro (show eqOkB _ _ _ = true by kernel_rfl) ?_; (conv => whnf)) | fail)
  · rename_i k1 k2 k3 k4 k5
    refine e1.mono ?_
    rintro _ _ ⟨rfl, rfl⟩
    conv => whnf
    refine rdw ?_; repeat' ((with_reducible apply tw) <;> intro _)
    · rename_i k6
      refine e2.mono ?_
      rintro _ _ ⟨rfl, rfl⟩
      conv => whnf
      refine rdw ?_; repeat' ((with_reducible apply tw) <;> intro _)
      · rename_i k7
        refine e3.mono ?_
        rintro _ _ ⟨rfl, rfl⟩
        conv => whnf
        refine ⟨boolEq ?_, rfl⟩
        rw [sameB_iff, beq_iff_eq]
        exact ⟨fun h => ⟨k1, k2, k3, k4, (tx_iff a b).1 k5, k6, h, hq.trans k7⟩, fun h => h.2.2.2.2.2.2.1⟩
      · rename_i k7
        exact stop (p := m.zero = true) (fun h => by rw [← hq]; exact ((sameB_iff a b).1 h).2.2.2.2.2.2.2) (by rw [k7]; decide)
    · rename_i k6
      exact stop (fun h => ((sameB_iff a b).1 h).2.2.2.2.2.1) k6
  · rename_i k1 k2 k3 k4 k5
    exact stop (fun h => (tx_iff a b).2 ((sameB_iff a b).1 h).2.2.2.2.1) (by rw [k5]; decide)
  · rename_i k
    exact stop (fun h => ((sameB_iff a b).1 h).2.2.2.1) k
  · rename_i k
    exact stop (fun h => ((sameB_iff a b).1 h).2.2.1) k
  · rename_i k
    exact stop (fun h => ((sameB_iff a b).1 h).2.1) k
  · rename_i k
    exact stop (fun h => ((sameB_iff a b).1 h).1) k
theorem Same_ok (a b : Sa) (m : Msg) (hm : m.few) (hq : b.quiet = m.zero) (ha : Sa.sized a) : ACalls Tryd.prog 12 [actA a msg0, actA b m] [] (fun av L => av = .d (.bool (sameB a b)) ∧ L = []) := by
  have h := same_ok a b m hm hq ha
  (refine acalls_go ttOk zOk foOk Tryd.func12 rfl Tryd.ntmps12 rfl false rfl ?_); (conv => whnf)
  refine rdw ?_; repeat' ((with_reducible apply tw) <;> intro _)
  (refine (h).mono ?_; rintro _ _ ⟨rfl, rfl⟩; (conv => whnf))
  refine rdw ?_; repeat' ((with_reducible apply tw) <;> intro _)
  exact ⟨rfl, rfl⟩
theorem wordC_small {c : UInt8} {a : Sa} (ha : Sa.small a) : (wordC c a).length ≤ 100 ∧ ∀ w ∈ wordC c a, w.length ≤ 1001 := by
  have it : ∀ {n : Int} (w : W), i64S n → w = Lib.itoa n → w.length ≤ 1001 := fun w h e => by
    have := Lib.itoa_length_le _ h.1 h.2
    rw [e]; omega
  have hx : ∀ (b w : W), b.length ≤ 500 → w = hexW b → w.length ≤ 1001 := fun b w h e => by
    have := hexW_len b
    rw [e]; omega
  have hp := ha.picks
  unfold wordC
  split
  · exact ⟨by simp, fun w hw => it w ha.fit.node (by simpa using hw)⟩
  · split
    · exact ⟨by simp, fun w hw => it w ha.fit.peer (by simpa using hw)⟩
    · split
      · exact ⟨by simp, fun w hw => it w ha.fit.n (by simpa using hw)⟩
      · split
        · refine ⟨by simp, fun w hw => ?_⟩
          simp only [List.mem_cons, List.not_mem_nil, or_false] at hw
          rcases hw with h | h | h | h
          · exact it w ha.fit.sender h
          · exact it w ha.fit.seq h
          · exact hx _ w ha.key h
          · exact hx _ w ha.val h
        · split
          · exact ⟨by simp, fun w hw => hx _ w ha.bytes (by simpa using hw)⟩
          · refine ⟨by rw [List.length_map]; omega, fun w hw => ?_⟩
            obtain ⟨n, hn, rfl⟩ := List.mem_map.1 hw
            exact it _ (ha.fit.picks n hn) rfl
theorem wordsOf_small {a : Sa} (ha : Sa.small a) : ∀ has : W, (wordsOf has a).length ≤ has.length * 100 ∧ ∀ w ∈ wordsOf has a, w.length ≤ 1001
  | [] => ⟨Nat.zero_le _, fun w hw => by cases hw⟩
  | c :: t => by
    obtain ⟨i1, i2⟩ := wordsOf_small ha t
    obtain ⟨j1, j2⟩ := wordC_small (c := c) ha
    have e : wordsOf (c :: t) a = wordC c a ++ wordsOf t a := rfl
    rw [e]
    refine ⟨?_, fun w hw => ?_⟩
    · rw [List.length_append, List.length_cons, Nat.add_mul, Nat.one_mul]
      omega
    · rcases List.mem_append.1 hw with h | h
      · exact j2 w h
      · exact i2 w h
theorem print_len {a : Sa} (ha : Sa.small a) {s : W} (h : printS a = some s) : s.length ≤ 900000 := by
  obtain ⟨f, hf, _, _, rfl⟩ := print_at h
  obtain ⟨h1, h2⟩ := wordsOf_small ha f.2.2
  obtain ⟨h3, h4⟩ := forms_short f hf
  have hc : (f.2.1 :: wordsOf f.2.2 a).length ≤ 301 := by
    have := Nat.mul_le_mul_right 100 h3
    rw [List.length_cons]
    omega
  have := join_len 1001 (f.2.1 :: wordsOf f.2.2 a) fun w hw => by
    rcases List.mem_cons.1 hw with rfl | hw
    · omega
    · exact h2 w hw
  have h5 := Nat.mul_le_mul_right (1001 + 1) hc
  unfold lineOf
  omega
theorem wordC_sub {c : UInt8} {a : Sa} : ∀ {has : W}, c ∈ has → (∀ w ∈ wordC c a, w ∈ wordsOf has a) ∧ (wordC c a).length ≤ (wordsOf has a).length
  | d :: t, h => by
    have e : wordsOf (d :: t) a = wordC d a ++ wordsOf t a := rfl
    rw [e, List.length_append]
    rcases List.mem_cons.1 h with rfl | h
    · exact ⟨fun w hw => List.mem_append_left _ hw, Nat.le_add_right _ _⟩
    · obtain ⟨i1, i2⟩ := wordC_sub (c := c) (a := a) h
      exact ⟨fun w hw => List.mem_append_right _ (i1 w hw), Nat.le_trans i2 (Nat.le_add_left _ _)⟩
theorem hexW_ge (b : W) : b.length ≤ (hexW b).length := by
  unfold hexW
  split
  · rename_i h; rw [h]; simp
  · rw [hexL_len]; omega
theorem parse_fine {s : W} {a : Sa} (h : parseS s = some a) (hs : s.length ≤ 900000) : Sa.fine a ∧ a.quiet = true ∧ printS a = some s := by
  obtain ⟨hp, hfit, hq⟩ := parse_print h
  obtain ⟨f, hf, hk, ho, e⟩ := print_at hp
  obtain ⟨-, -, -, o4, o5, o6, -⟩ := only_at ho
  have hw := (line_words hf a).1
  rw [← e] at hw
  have each := words_each s
  have cnt := words_count s
  rw [hw] at each cnt
  have each2 : ∀ w ∈ wordsOf f.2.2 a, w.length ≤ s.length := fun w hw => each w (List.mem_cons_of_mem _ hw)
  simp only [List.length_cons] at cnt
  refine ⟨⟨hfit, ?_, ?_, ?_, ?_⟩, hq, hp⟩
  · rcases o6 with o | o
    · have := (wordC_sub (a := a) o).2
      have e2 : (wordC 108 a).length = a.picks.length := List.length_map ..
      omega
    · rw [o]; exact Nat.zero_le _
  · rcases o4 with o | o
    · have h1 := each2 _ ((wordC_sub (a := a) o).1 (hexW a.key) (by simp [wordC]))
      have h2 := hexW_ge a.key
      omega
    · rw [o.2.2.1]; exact Nat.zero_le _
  · rcases o4 with o | o
    · have h1 := each2 _ ((wordC_sub (a := a) o).1 (hexW a.val) (by simp [wordC]))
      have h2 := hexW_ge a.val
      omega
    · rw [o.2.2.2]; exact Nat.zero_le _
  · rcases o5 with o | o
    · have h1 := each2 _ ((wordC_sub (a := a) o).1 (hexW a.bytes) (by simp [wordC]))
      have h2 := hexW_ge a.bytes
      omega
    · rw [o]; exact Nat.zero_le _
inductive Shape (a : Sa) : AV → AV → List AB → Prop where
  | data (bs : DV) (h : bsOk bs a) (hp : a.picks = []) : Shape a (.d .nils) (.d bs) []
  | row (h : a.bytes = []) : Shape a (.arr 0) (.d .nils) [.row 3 1 (nums a.picks) false]
theorem parse_yes {s : ByteArray} (hs : s.size ≤ 1000000) {a : Sa} (h : parseS s.data.toList = some a) : ACalls Tryd.prog 9 [.d (.str s)] [] (fun av L => ∃ pk bs, Shape a pk bs L ∧ av = .tup [.agg (actC a pk bs), .d (.int .i64 0)]) :=
  parse_rok s hs _ (fun b bs k hp hb => by
    rw [h] at k
    cases k
    exact ⟨_, _, .data bs hb hp, rfl⟩) (fun b k hb hn => by
    rw [h] at k
    cases k
    exact ⟨_, _, .row hb, rfl⟩) (fun k => by rw [h] at k; cases k)
theorem Shape.lend {a : Sa} {pk bs : AV} {L : List AB} (h : Shape a pk bs L) : ∃ pk2 bs2 : DV, lend1 L pk (.d pk2) ∧ lend1 L bs (.d bs2) ∧ NW (.d pk2) (.d (.sl 1 (nums a.picks))) ∧ NW (.d bs2) (.d (.sl 1 (u8s a.bytes))) := by
  cases h with
  | data b h hp =>
    refine ⟨.nils, b, .inl ⟨_, rfl, rfl⟩, .inl ⟨_, rfl, rfl⟩, nwP0 hp, ?_⟩
    rcases h with ⟨rfl, h⟩ | rfl
    · exact nwB0 h
    · exact .refl _
  | row h => exact ⟨_, .nils, .inr (.inl ⟨0, _, _, _, _, rfl, rfl, rfl⟩), .inl ⟨_, rfl, rfl⟩, .refl _, nwB0 h⟩
theorem printX {a : Sa} (ha : Sa.fine a) (hq : a.quiet = true) {s : W} (h : printS a = some s) {pk bs : AV} {L : List AB} (hs : Shape a pk bs L) : ACalls Tryd.prog 16 [.agg (actC a pk bs)] L (fun av L' => av = .tup [.d (.str (bw s)), .d (.int .i64 0)] ∧ L' = L) := by
  obtain ⟨pk2, bs2, h1, h2, h3, h4⟩ := hs.lend
  exact print_yesX ha hq h h1 h2 h3 h4
theorem sameX {a b : Sa} {m : Msg} (hm : m.few) (hq : b.quiet = m.zero) (ha : Sa.sized a) {pk bs : AV} {L : List AB} (hs : Shape a pk bs L) : ACalls Tryd.prog 12 [.agg (actC a pk bs), actA b m] L (fun av L' => av = .d (.bool (sameB a b)) ∧ L' = L) := by
  obtain ⟨pk2, bs2, h1, h2, h3, h4⟩ := hs.lend
  exact acalls_lend (flat_bool _) (avs' := [.agg (actC a (.d pk2) (.d bs2)), actA b m]) ⟨_, _, rfl, .inr ⟨_, _, rfl, rfl, lend_actC a h1 h2⟩, _, _, rfl, .inr ⟨_, _, rfl, rfl, lendS_d _ _⟩, rfl⟩
    (acalls_nw (Same_ok a b m hm hq ha) (.cons (nw_actC a h3 h4) (.cons (.refl _) .nil)))
def bkSt (l : List Ask) (i : Nat) : AF × List AB := ([(0, .d (.sl 29 (asksD l))), (3, .d (.int .i64 (i : Int)))], [])
def bkS2 (l : List Ask) (i : Nat) (s : W) (k : Nat) : AF × List AB := ([(0, .d (.sl 29 (asksD l))), (3, .d (.int .i64 (i : Int))), (4, .d (.str (bw s))), (12, .d (.int .i64 (k : Int)))], [])
theorem sameB_refl {a : Sa} (h : a.quiet = true) : sameB a a = true := (sameB_iff a a).2 ⟨rfl, rfl, rfl, rfl, ⟨rfl, rfl, rfl, rfl⟩, rfl, rfl, h⟩
theorem print_quiet {a : Sa} {s : W} (h : printS a = some s) : a.quiet = true := by
  obtain ⟨f, _, _, ho, _⟩ := print_at h
  exact (only_at ho).2.2.2.2.2.2
theorem ext_pre {s : W} {k : Nat} : (bw s).extract (Int.toNat 0) (((k : Nat) : Int)).toNat = bw (s.take k) := by
  rw [bw_extract]
  rfl
theorem ext_post {s : W} {k : Nat} : (bw s).extract (((k : Nat) : Int)).toNat (((bw s).size : Nat) : Int).toNat = bw (s.drop k) := by
  rw [bw_extract, Int.toNat_natCast, Int.toNat_natCast]
  have : (bw s).size - k = (s.drop k).length := by rw [List.length_drop]; rfl
  rw [this, List.take_length]
theorem parse_mid {s : W} {k : Nat} (h : s[k]? = some 32) : parseS (s.take k ++ [32] ++ s.drop k) = none := by
  obtain ⟨hlt, e⟩ := List.getElem?_eq_some_iff.1 h
  have e2 : s.drop k = 32 :: s.drop (k + 1) := by rw [List.drop_eq_getElem_cons hlt, e]
  have e3 : s.take k ++ [32] ++ s.drop k = s.take k ++ 32 :: 32 :: s.drop (k + 1) := by
    rw [e2, List.append_assoc]
    rfl
  rw [e3]
  exact parse_within _ _
theorem bw_get {s : W} {k : Nat} {c : UInt8} (h : s[k]? = some c) : (bw s)[k]? = some c := by
  obtain ⟨hlt, rfl⟩ := List.getElem?_eq_some_iff.1 h
  have h2 : k < (bw s).size := hlt
  rw [getElem?_pos (bw s) k h2]
  rfl
set_option maxHeartbeats 4000000 in
theorem scriptBack_ok (l : List Ask) (hl : few l) (ho : ∀ q ∈ l, q.okT) : ACalls Tryd.prog 5 [.d (.sl 29 (asksD l))] [] (fun av L => av = .d (.bool true) ∧ L = []) := by
  have n0 := num_ok 0
  have n1 := num_ok 1
  have hcl := asksD_length l
  unfold few at hl
  (refine acalls_go ttOk zOk foOk Tryd.func5 rfl Tryd.ntmps5 rfl false rfl ?_); (conv => whnf)
  refine rdw ?_; repeat' ((with_reducible apply tw) <;> intro _)
  refine loop_go ttOk zOk foOk (σ := Nat) (bkSt l) (fun i => i ≤ 20) (fun i => 20 - i) [0, 3] ?_ ?_
  · conv => whnf
    exact ⟨0, rfl, rfl, Nat.zero_le _⟩
  · intro i hi2
    conv => whnf
    refine rdw ?_; repeat' ((with_reducible apply tw) <;> intro _)
    · rename_i h1 h2
      replace h1 : (i : Int) < ((asksD l).length : Nat) := h1
      replace h2 : (i : Int) < 20 := h2
      refine Exists.elim (⟨_, List.getElem?_eq_getElem (by omega)⟩ : ∃ q, l[i]? = some q) fun q hq => ?_
      have hidx : (asksD l)[((i : Nat) : Int).toNat]? = some q.cs := by rw [Int.toNat_natCast]; simp [asksD, hq]
      have hok := ho q (List.mem_of_getElem? hq)
      refine ⟨by omega, q.cs, hidx, ?_⟩
      conv => whnf
      refine rdw ?_; repeat' ((with_reducible apply tw) <;> intro _)
      refine (heavy_ok q hok).mono ?_
      rintro _ _ ⟨⟨b, rfl, hb⟩, rfl⟩
      cases b with
      | true =>
        conv => whnf
        refine rdw ?_; repeat' ((with_reducible apply tw) <;> intro _)
        exact ⟨rfl, rfl⟩
      | false =>
        have hsm := (hb rfl).1
        have hsz := (hb rfl).2
        conv => whnf
        refine rdw ?_; repeat' ((with_reducible apply tw) <;> intro _)
        refine ⟨by omega, q.cs, hidx, ?_⟩
        conv => whnf
        refine rdw ?_; repeat' ((with_reducible apply tw) <;> intro _)
        cases hp : printS q.a with
        | none =>
          refine (print_no hsm.fine hok.1.m hok.1.quiet hp).mono ?_
          rintro _ _ ⟨rfl, rfl⟩
          conv => whnf
          refine rdw ?_; repeat' ((with_reducible apply tw) <;> intro _)
          (refine (n1).mono ?_; rintro _ _ ⟨rfl, rfl⟩; (conv => whnf))
          refine rdw ?_; repeat' ((with_reducible apply tw) <;> intro _)
          refine ⟨by omega, q.cs, hidx, ?_⟩
          conv => whnf
          refine rdw ?_; repeat' ((with_reducible apply tw) <;> intro _)
          cases hs : parseS q.s.data.toList with
          | none =>
            refine (parse_no (Nat.le_trans hsz (by decide)) hs).mono ?_
            rintro _ _ ⟨rfl, rfl⟩
            conv => whnf
            refine rdw ?_; repeat' ((with_reducible apply tw) <;> intro _)
            (refine (n1).mono ?_; rintro _ _ ⟨rfl, rfl⟩; (conv => whnf))
            refine rdw ?_; repeat' ((with_reducible apply tw) <;> intro _)
            exact ⟨i + 1, rfl, rfl, by omega, by omega⟩
          | some a2 =>
            have hpf := parse_fine hs (Nat.le_trans hsz (by decide))
            refine (parse_yes (Nat.le_trans hsz (by decide)) hs).mono ?_
            rintro _ _ ⟨pk, bs, hsh, rfl⟩
            have hpx := printX hpf.1 hpf.2.1 hpf.2.2 hsh
            cases hsh
            all_goals
              conv => whnf
              refine rdw ?_; repeat' ((with_reducible apply tw) <;> intro _)
              (refine (n0).mono ?_; rintro _ _ ⟨rfl, rfl⟩; (conv => whnf))
              refine rdw ?_; repeat' ((with_reducible apply tw) <;> intro _)
              refine hpx.mono ?_
              rintro _ _ ⟨rfl, rfl⟩
              conv => whnf
              refine rdw ?_; repeat' ((with_reducible apply tw) <;> intro _)
              (refine (n0).mono ?_; rintro _ _ ⟨rfl, rfl⟩; (conv => whnf))
              refine rdw ?_; repeat' ((with_reducible apply tw) <;> intro _)
              refine ⟨by omega, q.cs, hidx, ?_⟩
              conv => whnf
              refine rdw ?_; repeat' ((with_reducible apply tw) <;> intro _)
              · rename_i hx
                have e : ((bw q.s.data.toList).toList == q.s.toList) = true := beq_self_eq_true _
                rw [e] at hx
                cases hx
              · exact ⟨i + 1, rfl, rfl, by omega, by omega⟩
        | some s =>
          have hsl := print_len hsm hp
          have hps := print_parse hsm.fit hp
          refine (print_yes hsm.fine hok.1.m hok.1.quiet hp).mono ?_
          rintro _ _ ⟨rfl, rfl⟩
          conv => whnf
          refine rdw ?_; repeat' ((with_reducible apply tw) <;> intro _)
          (refine (n0).mono ?_; rintro _ _ ⟨rfl, rfl⟩; (conv => whnf))
          refine rdw ?_; repeat' ((with_reducible apply tw) <;> intro _)
          refine (parse_yes (s := bw s) (show s.length ≤ 1000000 by omega) hps).mono ?_
          rintro _ _ ⟨pk, bs, hsh, rfl⟩
          have hsx := sameX hok.1.m hok.1.quiet hsm.fine.sized hsh
          rw [sameB_refl (print_quiet hp)] at hsx
          have ha1 := parse_no (s := (⟨#[32]⟩ : ByteArray) ++ bw s) (by rw [show (⟨#[32]⟩ : ByteArray) ++ bw s = bw ([32] ++ s) from bw_app [32] s]; show s.length + 1 ≤ 1000000; omega) (by rw [show (⟨#[32]⟩ : ByteArray) ++ bw s = bw ([32] ++ s) from bw_app [32] s]; exact parse_ahead s)
          have ha2 := parse_no (s := bw s ++ (⟨#[32]⟩ : ByteArray)) (by rw [show bw s ++ (⟨#[32]⟩ : ByteArray) = bw (s ++ [32]) from bw_app s [32]]; show (s ++ [32]).length ≤ 1000000; simp; omega) (by rw [show bw s ++ (⟨#[32]⟩ : ByteArray) = bw (s ++ [32]) from bw_app s [32]]; exact parse_behind s)
          cases hsh
          all_goals
            conv => whnf
            refine rdw ?_; repeat' ((with_reducible apply tw) <;> intro _)
            refine ⟨by show ((1 + s.length : Nat) : Int) ≤ 9223372036854775807; omega, ?_⟩
            conv => whnf
            refine ha1.mono ?_
            rintro _ _ ⟨rfl, rfl⟩
            conv => whnf
            refine rdw ?_; repeat' ((with_reducible apply tw) <;> intro _)
            refine ⟨by show ((s.length + 1 : Nat) : Int) ≤ 9223372036854775807; omega, ?_⟩
            conv => whnf
            refine ha2.mono ?_
            rintro _ _ ⟨rfl, rfl⟩
            conv => whnf
            refine rdw ?_; repeat' ((with_reducible apply tw) <;> intro _)
            ((with_reducible refine draw_pl ttOk zOk foOk mixedOk pl5x11 ?_ ?_); (focus kernel_rfl); (conv => whnf))
            refine rdw ?_; repeat' ((with_reducible apply tw) <;> intro _)
            (refine (n0).mono ?_; rintro _ _ ⟨rfl, rfl⟩; (conv => whnf))
            refine rdw ?_; repeat' ((with_reducible apply tw) <;> intro _)
            ((with_reducible apply rd_intro); (focus (intro K hK; (conv => whnf); exact ⟨by omega, q.cs, hidx, hK⟩)); (conv => whnf))
            refine rdw ?_; repeat' ((with_reducible apply tw) <;> intro _)
            refine hsx.mono ?_
            rintro _ _ ⟨rfl, rfl⟩
            conv => whnf
            refine rdw ?_; repeat' ((with_reducible apply tw) <;> intro _)
            (refine (n1).mono ?_; rintro _ _ ⟨rfl, rfl⟩; (conv => whnf))
            refine rdw ?_; repeat' ((with_reducible apply tw) <;> intro _)
            (refine (n1).mono ?_; rintro _ _ ⟨rfl, rfl⟩; (conv => whnf))
            refine rdw ?_; repeat' ((with_reducible apply tw) <;> intro _)
            refine loop_go ttOk zOk foOk (σ := Nat) (bkS2 l i s) (fun k => k ≤ s.length) (fun k => s.length - k) [0, 3, 4, 12] ?_ ?_
            · conv => whnf
              exact ⟨0, rfl, rfl, Nat.zero_le _⟩
            · intro k hk
              have hbs : (bw s).size = s.length := rfl
              conv => whnf
              rw [hbs]
              refine rdw ?_; repeat' ((with_reducible apply tw) <;> intro _)
              · rename_i hks
                replace hks : (k : Int) < (s.length : Int) := hks
                refine Exists.elim (⟨_, List.getElem?_eq_getElem (by omega)⟩ : ∃ c, s[k]? = some c) fun c hc => ?_
                have hcb := bw_get hc
                ((with_reducible refine ix_str hcb ?_ ?_); (focus (first | rfl | omega)); (conv => whnf))
                refine rdw ?_; repeat' ((with_reducible apply tw) <;> intro _)
                · rename_i hc32
                  have hc2 : s[k]? = some 32 := by
                    have : c = 32 := UInt8.toNat_inj.1 (by rw [show (32 : UInt8).toNat = 32 from rfl]; omega)
                    rw [← this]; exact hc
                  have hmid := parse_no (s := bw (s.take k ++ [32] ++ s.drop k)) (by show (s.take k ++ [32] ++ s.drop k).length ≤ 1000000; simp only [List.length_append, List.length_take, List.length_drop, List.length_cons, List.length_nil]; omega) (parse_mid hc2)
                  have hct1 : (bw (s.take k)).size + (⟨#[32]⟩ : ByteArray).size ≤ 2000000 := by show (s.take k).length + 1 ≤ 2000000; rw [List.length_take]; omega
                  have hct2 : (bw (s.take k ++ [32])).size + (bw (s.drop k)).size ≤ 2000000 := by show (s.take k ++ [32]).length + (s.drop k).length ≤ 2000000; simp only [List.length_append, List.length_take, List.length_drop, List.length_cons, List.length_nil]; omega
                  ((with_reducible refine draw_pl ttOk zOk foOk mixedOk pl5x17 ?_ ?_); (focus kernel_rfl); (conv => whnf))
                  refine rdw ?_; repeat' ((with_reducible apply tw) <;> intro _)
                  ((with_reducible apply rd_intro); (focus (intro K hK; (conv => whnf); exact ⟨Int.le_refl _, by omega, by omega, by rw [ext_pre]; exact hK⟩)); (conv => whnf))
                  refine rdw ?_; repeat' ((with_reducible apply tw) <;> intro _)
                  ((with_reducible apply rd_intro); (focus (intro K hK; (conv => whnf); exact ⟨by show (((s.take k).length + 1 : Nat) : Int) ≤ 9223372036854775807; rw [List.length_take]; omega, by rw [show bw (s.take k) ++ (⟨#[32]⟩ : ByteArray) = bw (s.take k ++ [32]) from bw_app _ [32]]; exact hK⟩)); (conv => whnf))
                  refine rdw ?_; repeat' ((with_reducible apply tw) <;> intro _)
                  ((with_reducible apply rd_intro); (focus (intro K hK; (conv => whnf); exact ⟨by omega, by omega, Int.le_refl _, by rw [ext_post]; exact hK⟩)); (conv => whnf))
                  refine rdw ?_; repeat' ((with_reducible apply tw) <;> intro _)
                  ((with_reducible apply rd_intro); (focus (intro K hK; (conv => whnf); exact ⟨by show (((s.take k ++ [32]).length + (s.drop k).length : Nat) : Int) ≤ 9223372036854775807; simp only [List.length_append, List.length_take, List.length_drop, List.length_cons, List.length_nil]; omega, by rw [bw_app (s.take k ++ [32]) (s.drop k)]; exact hK⟩)); (conv => whnf))
                  refine rdw ?_; repeat' ((with_reducible apply tw) <;> intro _)
                  ((with_reducible apply rd_intro); (focus (intro K hK; (conv => whnf); refine (hmid).mono ?_; rintro _ _ ⟨rfl, rfl⟩; (conv => whnf); exact hK)); (conv => whnf))
                  refine rdw ?_; repeat' ((with_reducible apply tw) <;> intro _)
                  ((with_reducible apply gd_and); (focus ((conv => whnf); intro K hK; (conv => whnf); refine (hmid).mono ?_; rintro _ _ ⟨rfl, rfl⟩; (conv => whnf); exact hK)); (conv => whnf))
                  refine rdw ?_; repeat' ((with_reducible apply tw) <;> intro _)
                  ((with_reducible apply gd_and); (focus ((conv => whnf); intro K hK; (conv => whnf); exact ⟨by omega, by omega, Int.le_refl _, by rw [ext_post]; exact hK⟩)); (conv => whnf))
                  refine rdw ?_; repeat' ((with_reducible apply tw) <;> intro _)
                  ((with_reducible apply gd_and); (focus ((conv => whnf); intro K hK; (conv => whnf); exact ⟨Int.le_refl _, by omega, by omega, by rw [ext_pre]; exact hK⟩)); (conv => whnf))
                  refine rdw ?_; repeat' ((with_reducible apply tw) <;> intro _)
                  (refine (n1).mono ?_; rintro _ _ ⟨rfl, rfl⟩; (conv => whnf))
                  refine rdw ?_; repeat' ((with_reducible apply tw) <;> intro _)
                  exact ⟨k + 1, rfl, rfl, by omega, by omega⟩
                · exact ⟨k + 1, rfl, rfl, by omega, by omega⟩
              · refine ⟨by omega, q.cs, hidx, ?_⟩
                conv => whnf
                refine rdw ?_; repeat' ((with_reducible apply tw) <;> intro _)
                cases hs : parseS q.s.data.toList with
                | none =>
                  refine (parse_no (Nat.le_trans hsz (by decide)) hs).mono ?_
                  rintro _ _ ⟨rfl, rfl⟩
                  conv => whnf
                  refine rdw ?_; repeat' ((with_reducible apply tw) <;> intro _)
                  (refine (n1).mono ?_; rintro _ _ ⟨rfl, rfl⟩; (conv => whnf))
                  refine rdw ?_; repeat' ((with_reducible apply tw) <;> intro _)
                  exact ⟨i + 1, rfl, rfl, by omega, by omega⟩
                | some a2 =>
                  have hpf := parse_fine hs (Nat.le_trans hsz (by decide))
                  refine (parse_yes (Nat.le_trans hsz (by decide)) hs).mono ?_
                  rintro _ _ ⟨pk, bs, hsh, rfl⟩
                  have hpx := printX hpf.1 hpf.2.1 hpf.2.2 hsh
                  cases hsh
                  all_goals
                    conv => whnf
                    refine rdw ?_; repeat' ((with_reducible apply tw) <;> intro _)
                    (refine (n0).mono ?_; rintro _ _ ⟨rfl, rfl⟩; (conv => whnf))
                    refine rdw ?_; repeat' ((with_reducible apply tw) <;> intro _)
                    refine hpx.mono ?_
                    rintro _ _ ⟨rfl, rfl⟩
                    conv => whnf
                    refine rdw ?_; repeat' ((with_reducible apply tw) <;> intro _)
                    (refine (n0).mono ?_; rintro _ _ ⟨rfl, rfl⟩; (conv => whnf))
                    refine rdw ?_; repeat' ((with_reducible apply tw) <;> intro _)
                    refine ⟨by omega, q.cs, hidx, ?_⟩
                    conv => whnf
                    refine rdw ?_; repeat' ((with_reducible apply tw) <;> intro _)
                    · rename_i hx
                      have e : ((bw q.s.data.toList).toList == q.s.toList) = true := beq_self_eq_true _
                      rw [e] at hx
                      cases hx
                    · exact ⟨i + 1, rfl, rfl, by omega, by omega⟩
    · (refine (wakes_ok).mono ?_; rintro _ _ ⟨rfl, rfl⟩; (conv => whnf))
      refine rdw ?_; repeat' ((with_reducible apply tw) <;> intro _)
      exact ⟨rfl, rfl⟩
    · (refine (wakes_ok).mono ?_; rintro _ _ ⟨rfl, rfl⟩; (conv => whnf))
      refine rdw ?_; repeat' ((with_reducible apply tw) <;> intro _)
      exact ⟨rfl, rfl⟩
end Go.Proofs.YtkaepgfmpljlmaaDoor
namespace Go.Proofs.YtkaepgfmpljlmaaDoor
open Go.Ab Go.RowKit Go.ChangeShapes Go.WideShapes Go.ChangeAt
variable {H : Type} {enc : TypeId × Value → H}
theorem wrap_and_shaped {a : Assume} {C : Checked} {os : Os} {f : FuncId} {fn : Func} {s : ChangeSpec} {conds : List PathCond} {apart fresh handsOn again : Bool} {X : World → Array Value → Prop}
    (hX : ∀ (w w' : World) (args : Array Value), w.heap = w'.heap → X w args → X w' args)
    (own : ownKnob C.prog.godebug = none) (started : os.Started) (noInit : C.prog.inits.idxOf? f = none) (hfn : C.prog.funcs[f]? = some fn)
    (witness : ∃ (w : World) (tape : Tape) (i : Input), w.os = os ∧ (w.forCall tape i).Shaped C.prog ∧ i.vars = [] ∧ Input.okWide C.prog (w.forCall tape i) .any w.heap.size f i ∧
      ((s.pre enc C.prog fn conds apart (w.forCall tape i).memory i.args ∧ X (w.forCall tape i).memory i.args) ∧ sizedMet enc C.prog fn (OpenSpec.ofChange s) apart (w.forCall tape i).memory i.args) ∧ a.holds C.prog (lone (Frame.enter C.prog f i.args .normal) [] (w.forCall tape i)))
    (contract : ∀ (W : World) (base : Nat) (args : Array Value) (ds gs : List (DataW H)) (before : List MemPlace),
      (∀ (j : Nat) t v, fn.params[j]? = some t → args[j]? = some v → Value.okWide C.prog W .any base t v) →
      DataW.Whole enc C.prog fn.params.toList s.vars apart W args.toList ds gs before →
      (DataW.weightsEach C.prog (fn.params.toList ++ s.plain.varTypes C.prog) (ds ++ gs)).all (· ≤ reachBytes) = true → X W args → W.ShapedOpen C.prog →
      Calls C.prog f args W fun e W' => ∃ v, e = .returned v ∧ s.post enc C.prog fn apart fresh handsOn again W args v W') :
    ReturnsInHanded a C os f .any (fun w args => (s.pre enc C.prog fn conds apart w args ∧ X w args) ∧ sizedMet enc C.prog fn (OpenSpec.ofChange s) apart w args) (s.post enc C.prog fn apart fresh handsOn again) := by
  refine returnsInHanded_of_calls own started noInit witness ?_
  intro w tape i _ hsh _ hok hpre hholds
  obtain ⟨_, _, _, fn', hfn', _, _, _, _, hval⟩ := hok
  have e : fn' = fn := Option.some.inj (hfn'.symm.trans hfn)
  subst e
  obtain ⟨⟨⟨ds, gs, before, hw, hc⟩, hx⟩, hz⟩ := hpre
  have hw' := DataW.Whole.of_heap (w' := w.forCall tape i) (by rfl) hw
  refine (contract (w.forCall tape i) w.heap.size i.args ds gs before hval hw' (hz.weights hw) (hX _ _ _ (by rfl) hx) hsh).mono fun e W' ⟨v, he, hp⟩ => ?_
  subst he
  exact ChangeSpec.post_blind hp
theorem iface_of_reads {P : Program} {w : World} {n : String} {d : DataW Unit} {g : Nat} {t : TypeId} {ms : Array (String × TypeId)} (h : Lib.VarReads P w n d) (hg : P.globalNamed n = some g) (ht : (P.globals[g]?).map (·.type) = some t) (hu : P.underlying t = some (.interface ms)) :
    ∃ ev, w.cell? ⟨g, 0, none⟩ = some ev ∧ (ev = .nilIface ∨ ∃ te pe, ev = .iface te pe) := by
  obtain ⟨g', t', cs, fuel, p, h1, h2, h3, h4⟩ := h
  obtain rfl := Option.some.inj (hg.symm.trans h1)
  obtain rfl := Option.some.inj (ht.symm.trans h2)
  have key : ∃ ev, cs.toList = [ev] ∧ (ev = .nilIface ∨ ∃ te pe, ev = .iface te pe) := by
    cases fuel with
    | zero => cases h4
    | succ fuel =>
      generalize cs.toList = l at h4
      rcases l with _ | ⟨x, _ | ⟨y, r⟩⟩
      · simp only [DataW.trod, hu] at h4
        cases h4
      · cases x <;> first | exact ⟨_, rfl, .inl rfl⟩ | exact ⟨_, rfl, .inr ⟨_, _, rfl⟩⟩ | (simp only [DataW.trod, hu] at h4; cases h4)
      · cases x <;> (simp only [DataW.trod, hu] at h4; cases h4)
  obtain ⟨ev, e, hev⟩ := key
  refine ⟨ev, ?_, hev⟩
  have := World.var?_cell hg h3 0
  rw [this]
  have : cs = #[ev] := by rw [← Array.toArray_toList (xs := cs), e]
  rw [this]
  rfl
theorem tab_of_reads {P : Program} {W : World} {name : String} {k : IntKind} {zs : List Int} {g : Nat} {t e : TypeId} {n : Nat}
    (hg : P.globalNamed name = some g) (hty : (P.globals[g]?).map (·.type) = some t) (ht : P.underlying t = some (.array n e)) (he : P.underlying e = some (.int k)) (hce : P.cellsOf e = 1) (hct : P.cellsOf t = n)
    (h : Lib.VarReads P W name (Lib.tabData k zs)) : Lib.TabIs P W name k zs := by
  obtain ⟨g', t', cs, fuel, p, hg', ht', hvar, hd⟩ := h
  obtain rfl := Option.some.inj (hg.symm.trans hg')
  obtain rfl := Option.some.inj (hty.symm.trans ht')
  unfold Lib.TabIs
  rw [hvar, ← Lib.cells_of_tab ht he hce hct hd]
theorem gDb : Tryd.prog.globalNamed "math/bits.deBruijn64tab" = some 7 := by kernel_rfl
theorem gSyn : Tryd.prog.globalNamed "strconv.ErrSyntax" = some 4 := by kernel_rfl
theorem gRan : Tryd.prog.globalNamed "strconv.ErrRange" = some 5 := by kernel_rfl
def laidL : List (String × DataW Unit) := Rows.scriptBytesRow.laid
theorem laid_plain : (laidL.all fun x => x.2.handleName?.isNone) = true := by kernel_rfl
theorem gs_of {W : World} (hL : laidMetH Tryd.prog laidL W) (hsh : W.ShapedOpen Tryd.prog) : GS W ∧ ∀ b, gblk b → b < W.heap.size := by
  rw [MakeChecks.laidMetH_plain _ _ _ laid_plain] at hL
  have r3 := Lib.laidMet.reads hL (n := "internal/strconv.uint64pow10") (d := Rows.laid_internal_strconv_uint64pow10) (.tail _ (.tail _ (.head _)))
  have r4 := Lib.laidMet.reads hL (n := "strconv.ErrSyntax") (d := Rows.laid_strconv_ErrSyntax) (.tail _ (.tail _ (.tail _ (.tail _ (.tail _ (.head _))))))
  have r5 := Lib.laidMet.reads hL (n := "strconv.ErrRange") (d := Rows.laid_strconv_ErrRange) (.tail _ (.tail _ (.tail _ (.tail _ (.head _)))))
  have r7 := Lib.laidMet.reads hL (n := "math/bits.deBruijn64tab") (d := Rows.laid_math_bits_deBruijn64tab) (.tail _ (.head _))
  refine ⟨⟨?_, ?_, ?_, ?_⟩, fun b hb => ?_⟩
  · exact cell_of_shapedOpen_int (P := Tryd.prog) (g := 0) (t := 3) (zero := #[.int .i64 0]) hsh (of_decide_eq_true (by kernel_rfl)) (by kernel_rfl) rfl (by kernel_rfl) (by kernel_rfl) Tryd.underlying3
  · exact tab_of_reads (g := 3) (t := 144) (e := 105) (n := 20) gTab (by kernel_rfl) (by kernel_rfl) (by kernel_rfl) (by kernel_rfl) (by kernel_rfl) r3
  · exact iface_of_reads r4 gSyn (t := 98) (by kernel_rfl) Tryd.underlying98
  · exact iface_of_reads r5 gRan (t := 98) (by kernel_rfl) Tryd.underlying98
  · obtain ⟨g', t', cs, fuel, p, h1, _, h3, _⟩ := r7
    obtain rfl := Option.some.inj (gDb.symm.trans h1)
    cases hh : W.heap[7]? with
    | none => simp [World.var?, gDb, hh] at h3
    | some o =>
      have := (Array.getElem?_eq_some_iff.1 hh).1
      have hb : b < 8 := hb
      omega
end Go.Proofs.YtkaepgfmpljlmaaDoor
/- ScriptBack: every act that Heavy tells small and that prints is read back from its line, is the same again, and no line with one more blank inside is read -/
namespace Go.Proofs.YtkaepgfmpljlmaaDoor
open Go.Ab Go.RowKit Go.ChangeShapes Go.WideShapes Go.ChangeAt
theorem okWide_slice {P : Program} {W : World} {base : Nat} {t e : TypeId} {v : Value} (hu : P.underlying t = some (.slice e)) (hv : Value.okWide P W .any base t v) : v.oneCell' = true := by
  cases v <;> simp_all [Value.okWide, Cell.okWide, Cell.ok, Value.oneCell']
theorem own : ownKnob Tryd.prog.godebug = none := by kernel_rfl
theorem laidOut : laidOutB Tryd.prog = true := by kernel_rfl
set_option maxRecDepth 100000 in
theorem scriptBack_lifted (os : Os) (started : os.Started) (H : Type) (enc : TypeId × Value → H) :
    ReturnsInHanded {} Tryd.checked os 5 .any (fun w args => (Rows.scriptBackSpec.pre enc Tryd.prog Tryd.f5 [] false w args ∧ laidMetH Tryd.prog laidL w) ∧ sizedMet enc Tryd.prog Tryd.f5 (OpenSpec.ofChange Rows.scriptBackSpec) false w args)
      (Rows.scriptBackSpec.post enc Tryd.prog Tryd.f5 false true false false) := by
  refine wrap_and_shaped (C := Tryd.checked) (X := fun w _ => laidMetH Tryd.prog laidL w) (fun _ _ _ hh h => h.of_heap hh) own started (by kernel_rfl) Tryd.func5
    (ChangeSpec.witness_shaped (enc := enc) (C := Tryd.checked) (os := os) (X := fun w _ => laidMetH Tryd.prog laidL w) false (World.laidAll Tryd.prog os laidL) #[.slice none 0 0] 8 (World.laidAll_os _ _ _)
      (World.shaped_of_ZipB (by kernel_rfl) (by kernel_rfl)) (by kernel_rfl) (by kernel_rfl) (by kernel_rfl)
      (by rw [MakeChecks.laidMetH_plain _ _ _ laid_plain]; exact laidMet_laidAll _ (by kernel_rfl) (by kernel_rfl))) ?_
  intro W base args ds gs before hval hW hsz hL hsh
  exact law_contract ttOk (f := Tryd.f5) (tb := 4) (t := 22) rfl rfl Tryd.underlying4 rfl (fun _ _ => rfl) laidOut (by kernel_rfl) (of_decide_eq_true (by kernel_rfl)) 9 (by kernel_rfl) arg1
    (fun W base v ds h1 h2 => arg1_ok (okWide_slice Tryd.underlying22 h1) h2)
    (fun ds hd => by
      obtain ⟨l, hl, fl, ho⟩ := rd_asks hd
      rw [hl]
      exact scriptBack_ok l fl ho) hval hW hsz (gs_of hL hsh)
theorem scriptBack_said : Rows.ScriptBackSaid :=
  OpenClaim.holds_of_wide 5 Tryd.f5 rfl rfl rfl rfl rfl rfl rfl ⟨rfl, rfl, rfl, rfl, rfl⟩ rfl rfl rfl rfl rfl (by kernel_rfl) Tryd.func5 (by kernel_rfl)
    (of_decide_eq_true (by kernel_rfl)) (by unfold Func.isWrapper; first | (rw [if_pos (by decide +kernel)]; kernel_rfl) | (rw [if_neg (by decide +kernel)]; exact ⟨rfl, rfl⟩))
    (fun os started H enc _ => scriptBack_lifted os started H enc)
theorem scriptBackCard_holds : Rows.ScriptBackCardSaid :=
  Claim7.holds_tied_plain_at .later [] [.data, .data, .data, .data, .sentinel, .sentinel, .pinned] true (true, "638c714ce6cbec5477be3a1e74b477be8c0c818e704eb2b60715e3e7b56e668c") true scriptBack_said (fun _ h => by cases h) (by kernel_rfl) (fun _ h => by cases h) scriptBack_row_tie rfl ⟨rfl, rfl⟩ (by kernel_rfl) rfl
    (fun f fn hf hfn => by
      obtain rfl : f = 5 := Option.some.inj ((show Tryd.prog.funcNamed "drover/droverlaw28.ScriptBack" = some 5 by kernel_rfl).symm.trans hf) |>.symm
      obtain rfl : fn = Tryd.f5 := (Option.some.inj (Tryd.func5.symm.trans hfn)).symm
      exact ⟨by kernel_rfl, fun j t ht => by
        rw [Tryd.params5] at ht
        have hm : t ∈ [22] := by simpa using Array.mem_of_getElem? ht
        have hall : ([22].all fun u => !Tryd.prog.wantsStandIn u) = true := by kernel_rfl
        exact (show Tryd.prog.wantsStandIn t = false by simpa using List.all_eq_true.1 hall t hm)⟩)
    (by kernel_rfl)
#print axioms scriptBackCard_holds
end Go.Proofs.YtkaepgfmpljlmaaDoor
