/- ScriptPrintsCard: contracts. -/
import Derived.Test.YtkaepgfmpljlmaaDoorScriptPrintsCardCodC
set_option linter.unusedVariables false
set_option linter.unusedSimpArgs false
namespace Go.Proofs.YtkaepgfmpljlmaaDoor
open Go.Ab Go.RowKit Go.Scr Go.Proofs
theorem rd_i64 {n : Int} (h2 : (Lit.int .i64 n).wf = true) : i64S n := by
  have hb : -9223372036854775808 ≤ n ∧ n ≤ 9223372036854775807 := by simpa [Lit.wf, IntKind.min, IntKind.max, IntKind.signed, IntKind.bits] using h2
  exact hb
theorem rd_nums {a : List DV} (h : ∃ xs, a = [DV.sl 1 xs] ∧ xs.length * 8 ≤ 140737488355328 ∧ ∀ x ∈ xs, ∃ n, x = [DV.int .i64 n] ∧ (Lit.int .i64 n).wf = true) : ∃ l : List Int, a = [.sl 1 (nums l)] ∧ few l ∧ ∀ n ∈ l, i64S n := by
  obtain ⟨xs, rfl, h1, h2⟩ := h
  obtain ⟨l, rfl, hl⟩ := map_of (f := fun n : Int => [.int .i64 n]) (ok := i64S) fun x hx => by
    obtain ⟨n, e, hw⟩ := h2 x hx
    exact ⟨n, e, rd_i64 hw⟩
  rw [List.length_map] at h1
  exact ⟨l, rfl, by unfold few; omega, hl⟩
theorem rd_hd (k : Nat) {ds : List DV} (h : DTy tt (k + 3) 31 ds) : ∃ c : Hd, ds = c.cs ∧ c.few := by
  replace h : DTyF (DTy tt (k + 2)) [3, 3, 24, 24] ds := h
  obtain ⟨a4, b4, rfl, h4, a5, b5, rfl, h5, a6, b6, rfl, h6, a7, b7, rfl, h7, rfl⟩ := h
  replace h4 : ∃ x, a4 = [.int .i64 x] ∧ (Lit.int .i64 x).wf = true := h4
  replace h5 : ∃ x, a5 = [.int .i64 x] ∧ (Lit.int .i64 x).wf = true := h5
  obtain ⟨l6, rfl, f6, e6⟩ := rd_nums h6
  obtain ⟨l7, rfl, f7, e7⟩ := rd_nums h7
  obtain ⟨x4, rfl, w4⟩ := h4
  obtain ⟨x5, rfl, w5⟩ := h5
  exact ⟨⟨x4, x5, l6, l7⟩, rfl, f6, f7⟩
theorem rd_txs (k : Nat) {a : List DV} (h : DTy tt (k + 3) 27 a) : ∃ l : List Tx, a = [.sl 4 (txsD l)] ∧ few l ∧ ∀ t ∈ l, t.key.size ≤ 140737488355328 ∧ t.val.size ≤ 140737488355328 := by
  replace h : ∃ xs, a = [.sl 4 xs] ∧ xs.length * 48 ≤ 140737488355328 ∧ ∀ x ∈ xs, DTy tt (k + 2) 26 x := h
  obtain ⟨x3, rfl, w3, e3⟩ := h
  obtain ⟨l, rfl, hl⟩ := map_of (f := Tx.cs) (ok := fun t => t.key.size ≤ 140737488355328 ∧ t.val.size ≤ 140737488355328) (xs := x3) fun x hx => by
    have h := e3 x hx
    replace h : DTyF (DTy tt (k + 1)) [3, 3, 9, 9] x := h
    obtain ⟨a1, b1, rfl, h1, a2, b2, rfl, h2, a3, b3, rfl, h3, a4, b4, rfl, h4, rfl⟩ := h
    replace h1 : ∃ x, a1 = [.int .i64 x] ∧ (Lit.int .i64 x).wf = true := h1
    replace h2 : ∃ x, a2 = [.int .i64 x] ∧ (Lit.int .i64 x).wf = true := h2
    replace h3 : ∃ s, a3 = [.str s] ∧ s.size ≤ 140737488355328 := h3
    replace h4 : ∃ s, a4 = [.str s] ∧ s.size ≤ 140737488355328 := h4
    obtain ⟨x1, rfl, _⟩ := h1
    obtain ⟨x2, rfl, _⟩ := h2
    obtain ⟨x3, rfl, w3⟩ := h3
    obtain ⟨x4, rfl, w4⟩ := h4
    exact ⟨⟨x1, x2, x3, x4⟩, rfl, w3, w4⟩
  simp only [List.length_map] at w3
  exact ⟨l, rfl, by unfold few; omega, hl⟩
theorem rd_msg (k : Nat) {ds : List DV} (h : DTy tt (k + 5) 35 ds) : ∃ m : Msg, ds = m.cs ∧ m.few ∧ ∀ t ∈ m.txs, t.key.size ≤ 140737488355328 ∧ t.val.size ≤ 140737488355328 := by
  replace h : DTyF (DTy tt (k + 4)) [3, 3, 3, 3, 29, 31, 33, 24] ds := h
  obtain ⟨a1, b1, rfl, h1, a2, b2, rfl, h2, a3, b3, rfl, h3, a4, b4, rfl, h4, a5, b5, rfl, h5, a6, b6, rfl, h6, a7, b7, rfl, h7, a8, b8, rfl, h8, rfl⟩ := h
  replace h1 : ∃ x, a1 = [.int .i64 x] ∧ (Lit.int .i64 x).wf = true := h1
  replace h2 : ∃ x, a2 = [.int .i64 x] ∧ (Lit.int .i64 x).wf = true := h2
  replace h3 : ∃ x, a3 = [.int .i64 x] ∧ (Lit.int .i64 x).wf = true := h3
  replace h4 : ∃ x, a4 = [.int .i64 x] ∧ (Lit.int .i64 x).wf = true := h4
  replace h5 : DTyF (DTy tt (k + 3)) [3, 3, 27] a5 := h5
  replace h7 : DTyF (DTy tt (k + 3)) [31, 3, 24] a7 := h7
  obtain ⟨c1, d1, rfl, g1, c2, d2, rfl, g2, c3, d3, rfl, g3, rfl⟩ := h5
  obtain ⟨e1, f1, rfl, i1, e2, f2, rfl, i2, e3, f3, rfl, i3, rfl⟩ := h7
  replace g1 : ∃ x, c1 = [.int .i64 x] ∧ (Lit.int .i64 x).wf = true := g1
  replace g2 : ∃ x, c2 = [.int .i64 x] ∧ (Lit.int .i64 x).wf = true := g2
  replace i2 : ∃ x, e2 = [.int .i64 x] ∧ (Lit.int .i64 x).wf = true := i2
  obtain ⟨x1, rfl, _⟩ := h1
  obtain ⟨x2, rfl, _⟩ := h2
  obtain ⟨x3, rfl, _⟩ := h3
  obtain ⟨x4, rfl, _⟩ := h4
  obtain ⟨y1, rfl, _⟩ := g1
  obtain ⟨y2, rfl, _⟩ := g2
  obtain ⟨l, rfl, fl, hl⟩ := rd_txs k g3
  obtain ⟨hh, rfl, fh⟩ := rd_hd (k + 1) h6
  obtain ⟨ch, rfl, fc⟩ := rd_hd k i1
  obtain ⟨z2, rfl, _⟩ := i2
  obtain ⟨sg, rfl, fs, _⟩ := rd_nums i3
  obtain ⟨dg, rfl, fd, _⟩ := rd_nums h8
  exact ⟨⟨x1, x2, x3, x4, y1, y2, l, hh, ch, z2, sg, dg⟩, by simp [Msg.cs, Hd.cs], ⟨fl, fh, fc, fs, fd⟩, hl⟩
theorem bw_of (s : ByteArray) : s = bw s.data.toList := rfl
theorem rd_act {ds : List DV} (h : DTy tt 7 38 ds) : ∃ (a : Sa) (m : Msg), ds = actD a m ∧ Sa.sized a ∧ m.few ∧ a.quiet = m.zero ∧ ∀ t ∈ m.txs, t.key.size ≤ 140737488355328 ∧ t.val.size ≤ 140737488355328 := by
  replace h : DTyF (DTy tt 6) [3, 3, 3, 3, 24, 26, 35, 36] ds := h
  obtain ⟨a1, b1, rfl, h1, a2, b2, rfl, h2, a3, b3, rfl, h3, a4, b4, rfl, h4, a5, b5, rfl, h5, a6, b6, rfl, h6, a7, b7, rfl, h7, a8, b8, rfl, h8, rfl⟩ := h
  replace h1 : ∃ x, a1 = [.int .i64 x] ∧ (Lit.int .i64 x).wf = true := h1
  replace h2 : ∃ x, a2 = [.int .i64 x] ∧ (Lit.int .i64 x).wf = true := h2
  replace h3 : ∃ x, a3 = [.int .i64 x] ∧ (Lit.int .i64 x).wf = true := h3
  replace h4 : ∃ x, a4 = [.int .i64 x] ∧ (Lit.int .i64 x).wf = true := h4
  obtain ⟨x1, rfl, w1⟩ := h1
  obtain ⟨x2, rfl, w2⟩ := h2
  obtain ⟨x3, rfl, w3⟩ := h3
  obtain ⟨x4, rfl, w4⟩ := h4
  obtain ⟨pk, rfl, fp, ep⟩ := rd_nums h5
  replace h6 : DTyF (DTy tt 5) [3, 3, 9, 9] a6 := h6
  obtain ⟨c1, d1, rfl, g1, c2, d2, rfl, g2, c3, d3, rfl, g3, c4, d4, rfl, g4, rfl⟩ := h6
  replace g1 : ∃ x, c1 = [.int .i64 x] ∧ (Lit.int .i64 x).wf = true := g1
  replace g2 : ∃ x, c2 = [.int .i64 x] ∧ (Lit.int .i64 x).wf = true := g2
  replace g3 : ∃ s, c3 = [.str s] ∧ s.size ≤ 140737488355328 := g3
  replace g4 : ∃ s, c4 = [.str s] ∧ s.size ≤ 140737488355328 := g4
  obtain ⟨y1, rfl, v1⟩ := g1
  obtain ⟨y2, rfl, v2⟩ := g2
  obtain ⟨y3, rfl, v3⟩ := g3
  obtain ⟨y4, rfl, v4⟩ := g4
  obtain ⟨m, rfl, fm, ht⟩ := rd_msg 1 h7
  replace h8 : ∃ xs, a8 = [.sl 1 xs] ∧ xs.length * 1 ≤ 140737488355328 ∧ ∀ x ∈ xs, ∃ n, x = [DV.int .u8 n] ∧ (Lit.int .u8 n).wf = true := h8
  obtain ⟨xs, rfl, w8, e8⟩ := h8
  obtain ⟨bs, rfl⟩ := u8_of e8
  rw [u8s_length] at w8
  exact ⟨⟨x1, x2, x3, x4, y1, y2, y3.data.toList, y4.data.toList, bs, pk, m.zero⟩, m, by simp [actD, ← bw_of], ⟨⟨rd_i64 w2, rd_i64 w3, rd_i64 w4, rd_i64 v1, rd_i64 v2, ep⟩, fp, v3, v4, by show bs.length ≤ 140737488355328; omega⟩, fm, rfl, ht⟩
def Ask.okT (q : Ask) : Prop := q.ok ∧ ∀ t ∈ q.m.txs, t.key.size ≤ 140737488355328 ∧ t.val.size ≤ 140737488355328
theorem rd_asks {ds : List DV} (h : DTy tt 9 22 ds) : ∃ l : List Ask, arg1 ds = .d (.sl 29 (asksD l)) ∧ few l ∧ ∀ q ∈ l, q.okT := by
  replace h : ∃ xs, ds = [.sl 29 xs] ∧ xs.length * 400 ≤ 140737488355328 ∧ ∀ x ∈ xs, DTy tt 8 40 x := h
  obtain ⟨xs, rfl, h1, h2⟩ := h
  obtain ⟨l, rfl, hl⟩ := map_of (f := Ask.cs) (ok := Ask.okT) fun x hx => by
    have h3 : DTyF (DTy tt 7) [38, 9] x := h2 x hx
    obtain ⟨a1, b1, rfl, h4, a2, b2, rfl, h5, rfl⟩ := h3
    obtain ⟨a, m, rfl, k1, k2, k3, k4⟩ := rd_act h4
    replace h5 : ∃ s, a2 = [.str s] ∧ s.size ≤ 140737488355328 := h5
    obtain ⟨s, rfl, k5⟩ := h5
    exact ⟨⟨a, m, s⟩, by simp [Ask.cs], ⟨k1, k2, k3, k5⟩, k4⟩
  rw [List.length_map] at h1
  refine ⟨l, rfl, ?_, hl⟩
  unfold few
  omega
end Go.Proofs.YtkaepgfmpljlmaaDoor
namespace Go.Proofs.YtkaepgfmpljlmaaDoor
open Go.Ab Go.RowKit Go.Scr Go.Proofs
attribute [local irreducible] ACalls AW ADraw Into fltB fnear
set_option maxRecDepth 100000
theorem txW_ok (l : List Tx) (hl : few l) (hk : ∀ t ∈ l, t.key.size ≤ 140737488355328 ∧ t.val.size ≤ 140737488355328) : ACalls Tryd.prog 19 [.d (.sl 4 (txsD l))] [] (fun av L => (∃ n : Int, av = .d (.int .i64 n) ∧ 0 ≤ n ∧ n ≤ 562949953421312 ∧ ∀ t, l = [t] → t.key.size + t.val.size ≤ n) ∧ L = []) := by
  have hcl := txsD_length l
  unfold few at hl
  (refine acalls_go ttOk zOk foOk Tryd.func19 rfl Tryd.ntmps19 rfl false rfl ?_); (conv => whnf)
  refine loop_go2 ttOk zOk foOk (σ := Int) (ρ := Nat) (fun w j => ([(0, .d (.sl 4 (txsD l))), (3, .d (.int .i64 w)), (4, .d (.int .i64 j))], [])) (fun w j => j ≤ l.length ∧ 0 ≤ w ∧ w ≤ 562949953421312 ∧ (j = 0 → w = l.length) ∧ (0 < j → ∀ t, l[0]? = some t → t.key.size + t.val.size ≤ w)) (fun _ j => l.length - j) [0, 3, 4] ?_ ?_
  · conv => whnf
    exact ⟨l.length, 0, by rw [hcl]; rfl, rfl, by omega, by omega, by omega, fun _ => rfl, fun h => absurd h (Nat.lt_irrefl 0)⟩
  · rintro w j ⟨hj, hw1, hw2, hw3, hw4⟩
    conv => whnf
    rw [hcl]
    refine rdw ?_; repeat' ((with_reducible apply tw) <;> intro _)
    · rename_i hjl hwl
      replace hwl : w < 1048576 := hwl
      refine Exists.elim (⟨_, List.getElem?_eq_getElem (by omega)⟩ : ∃ c, l[j]? = some c) fun c hc => ?_
      have hcx := hk c (List.mem_of_getElem? hc)
      have hk1 := hcx.1
      have hk2 := hcx.2
      ((with_reducible refine draw_pl ttOk zOk foOk mixedOk pl19x5 ?_ ?_); (focus kernel_rfl); (conv => whnf))
      repeat' (first | ((with_reducible apply rd_intro); (focus (intro K hK; (conv => whnf); exact ix_map hc (by first | rfl | omega) hK)); (conv => whnf)) | (first | ((with_reducible first | apply rd_intro | apply gd_and); (focus ((conv => whnf) <;> first | rfl | (intro K hK; (conv => whnf); first | exact hK | exact z_wrap (by omega) hK))); conv => whnf) | ((with_reducible apply z_wrap); (focus omega); conv => whnf) | ((with_reducible first | apply mt_dec | apply mt_eq | apply mt_ne | apply mt_not | apply mt_any) <;> (intro _; conv => whnf))))
      refine ⟨_, j + 1, rfl, rfl, ⟨by omega, by omega, by omega, fun h => absurd h (Nat.succ_ne_zero j), fun _ t ht => ?_⟩, by omega⟩
      cases j with
      | zero =>
        rw [hc] at ht
        cases ht
        omega
      | succ j =>
        have := hw4 (Nat.succ_pos j) t ht
        omega
    · rename_i hjl hwl
      replace hwl : ¬ w < 1048576 := hwl
      refine ⟨⟨_, rfl, hw1, hw2, fun t e => ?_⟩, rfl⟩
      subst e
      rcases Nat.eq_zero_or_pos j with h0 | h0
      · have := hw3 h0
        simp only [List.length_cons, List.length_nil] at this
        omega
      · exact hw4 h0 t rfl
    · rename_i hjl
      refine ⟨⟨_, rfl, hw1, hw2, fun t e => ?_⟩, rfl⟩
      subst e
      refine hw4 ?_ t rfl
      simp only [List.length_cons, List.length_nil] at hjl
      omega
theorem headW_ok (c : Hd) (h : c.few) : ACalls Tryd.prog 35 [mAv c.cs] [] (fun av L => av = .d (.int .i64 (1 + c.bats.length + c.pars.length)) ∧ L = []) := by
  have h1 := h.bats
  have h2 := h.pars
  unfold few at h1 h2
  have e1 := nums_length c.bats
  have e2 := nums_length c.pars
  (refine acalls_go ttOk zOk foOk Tryd.func35 rfl Tryd.ntmps35 rfl false rfl ?_); (conv => whnf)
  rw [e1]
  refine rdw ?_; repeat' ((with_reducible apply tw) <;> intro _)
  rw [e2]
  refine rdw ?_; repeat' ((with_reducible apply tw) <;> intro _)
  exact ⟨rfl, rfl⟩
theorem certW_ok (c : Hd) (h : c.few) (d : Int) (sg : List Int) (hs : few sg) : ACalls Tryd.prog 36 [cAv c d sg] [] (fun av L => av = .d (.int .i64 (1 + c.bats.length + c.pars.length + sg.length)) ∧ L = []) := by
  have h1 := h.bats
  have h2 := h.pars
  unfold few at h1 h2 hs
  have e3 := nums_length sg
  (refine acalls_go ttOk zOk foOk Tryd.func36 rfl Tryd.ntmps36 rfl false rfl ?_); (conv => whnf)
  ((with_reducible refine draw_pl ttOk zOk foOk mixedOk pl36x1 ?_ ?_); (focus kernel_rfl); (conv => whnf))
  refine rdw ?_; repeat' ((with_reducible apply tw) <;> intro _)
  refine (headW_ok c h).mono ?_
  rintro _ _ ⟨rfl, rfl⟩
  conv => whnf
  refine rdw ?_; repeat' ((with_reducible apply tw) <;> intro _)
  rw [e3]
  refine rdw ?_; repeat' ((with_reducible apply tw) <;> intro _)
  exact ⟨rfl, rfl⟩
theorem msgW_ok (m : Msg) (h : m.few) (hk : ∀ t ∈ m.txs, t.key.size ≤ 140737488355328 ∧ t.val.size ≤ 140737488355328) : ACalls Tryd.prog 20 [mAv m.cs] [] (fun av L => (∃ n : Int, av = .d (.int .i64 n)) ∧ L = []) := by
  have h1 := txW_ok m.txs h.txs hk
  have h2 := headW_ok m.head h.head
  have h3 := certW_ok m.chead h.chead m.cdig m.sigs h.sigs
  have l7 := nums_length m.digs
  have f1 := h.head.bats
  have f2 := h.head.pars
  have f3 := h.chead.bats
  have f4 := h.chead.pars
  have f5 := h.sigs
  have f6 := h.digs
  unfold few at f1 f2 f3 f4 f5 f6
  (refine acalls_go ttOk zOk foOk Tryd.func20 rfl Tryd.ntmps20 rfl false rfl ?_); (conv => whnf)
  ((with_reducible refine draw_pl ttOk zOk foOk mixedOk pl20x1 ?_ ?_); (focus kernel_rfl); (conv => whnf))
  refine rdw ?_; repeat' ((with_reducible apply tw) <;> intro _)
  refine h1.mono ?_
  rintro _ _ ⟨⟨n, rfl, hn1, hn2, -⟩, rfl⟩
  conv => whnf
  refine rdw ?_; repeat' ((with_reducible apply tw) <;> intro _)
  refine h2.mono ?_
  rintro _ _ ⟨rfl, rfl⟩
  conv => whnf
  refine rdw ?_; repeat' ((with_reducible apply tw) <;> intro _)
  refine h3.mono ?_
  rintro _ _ ⟨rfl, rfl⟩
  conv => whnf
  refine rdw ?_; repeat' ((with_reducible apply tw) <;> intro _)
  rw [l7]
  refine rdw ?_; repeat' ((with_reducible apply tw) <;> intro _)
  exact ⟨⟨_, rfl⟩, rfl⟩
structure Sa.small (a : Sa) : Prop where
  fit : a.fit
  picks : a.picks.length ≤ 100
  key : a.key.length ≤ 500
  val : a.val.length ≤ 500
  bytes : a.bytes.length ≤ 500
theorem Sa.small.fine {a : Sa} (h : Sa.small a) : Sa.fine a := ⟨h.fit, Nat.le_trans h.picks (by decide), Nat.le_trans h.key (by decide), Nat.le_trans h.val (by decide), Nat.le_trans h.bytes (by decide)⟩
theorem Sa.fine.sized {a : Sa} (h : Sa.fine a) : Sa.sized a := ⟨h.fit, Nat.le_trans h.picks (by decide), Nat.le_trans h.key (by decide), Nat.le_trans h.val (by decide), Nat.le_trans h.bytes (by decide)⟩
def Ask.tx (q : Ask) : Tx := ⟨q.a.sender, q.a.seq, bw q.a.key, bw q.a.val⟩
theorem heavy_ok (q : Ask) (ho : q.okT) : ACalls Tryd.prog 8 [mAv q.cs] [] (fun av L => (∃ b : Bool, av = .d (.bool b) ∧ (b = false → Sa.small q.a ∧ q.s.size ≤ 2000)) ∧ L = []) := by
  have h1 := txW_ok [q.tx] (show (1 : Nat) ≤ 140737488355328 by decide) (fun t ht => by simp only [List.mem_cons, List.not_mem_nil, or_false] at ht; subst ht; exact ⟨ho.1.a.key, ho.1.a.val⟩)
  have h2 := msgW_ok q.m ho.1.m ho.2
  have l1 := nums_length q.a.picks
  have l2 := u8s_length q.a.bytes
  have f1 := ho.1.a.picks
  have f2 := ho.1.a.bytes
  have f3 := ho.1.s
  unfold few at f1
  (refine acalls_go ttOk zOk foOk Tryd.func8 rfl Tryd.ntmps8 rfl false rfl ?_); (conv => whnf)
  refine rdw ?_; repeat' ((with_reducible apply tw) <;> intro _)
  · exact ⟨⟨_, rfl, fun h => by cases h⟩, rfl⟩
  · exact ⟨⟨_, rfl, fun h => by cases h⟩, rfl⟩
  · exact ⟨⟨_, rfl, fun h => by cases h⟩, rfl⟩
  · rename_i k1 k2 k3
    replace k1 : ¬ (q.s.size : Int) > 2000 := k1
    replace k2 : ¬ ((nums q.a.picks).length : Int) > 100 := k2
    replace k3 : ¬ ((u8s q.a.bytes).length : Int) > 500 := k3
    (refine Or.inl ?_; (conv => whnf))
    refine h1.mono ?_
    rintro _ _ ⟨⟨n, rfl, hn1, hn2, hn3⟩, rfl⟩
    have hn4 : ((q.a.key.length + q.a.val.length : Nat) : Int) ≤ n := by
      have := hn3 q.tx rfl
      have e1 : q.tx.key.size = q.a.key.length := rfl
      have e2 : q.tx.val.size = q.a.val.length := rfl
      omega
    conv => whnf
    refine rdw ?_; repeat' ((with_reducible apply tw) <;> intro _)
    · exact ⟨⟨_, rfl, fun h => by cases h⟩, rfl⟩
    · rename_i k4
      replace k4 : ¬ n > 500 := k4
      refine h2.mono ?_
      rintro _ _ ⟨⟨n2, rfl⟩, rfl⟩
      conv => whnf
      refine rdw ?_; repeat' ((with_reducible apply tw) <;> intro _)
      exact ⟨⟨_, rfl, fun _ => ⟨⟨ho.1.a.fit, by omega, by omega, by omega, by omega⟩, by omega⟩⟩, rfl⟩
def sameB (a b : Sa) : Bool := decide (a.kind = b.kind) && (decide (a.node = b.node) && (decide (a.peer = b.peer) && (decide (a.n = b.n) && (decide (a.sender = b.sender ∧ a.seq = b.seq ∧ a.key = b.key ∧ a.val = b.val) && (decide (a.picks = b.picks) && (decide (a.bytes = b.bytes) && b.quiet))))))
theorem sameB_iff (a b : Sa) : sameB a b = true ↔ a.kind = b.kind ∧ a.node = b.node ∧ a.peer = b.peer ∧ a.n = b.n ∧ (a.sender = b.sender ∧ a.seq = b.seq ∧ a.key = b.key ∧ a.val = b.val) ∧ a.picks = b.picks ∧ a.bytes = b.bytes ∧ b.quiet = true := by
  simp only [sameB, Bool.and_eq_true, decide_eq_true_iff]
theorem bw_eq (v w : W) : ((bw v).toList == (bw w).toList) = true ↔ v = w := by
  rw [ByteArray.toList_eq, ByteArray.toList_eq, beq_iff_eq]
  exact Iff.rfl
theorem tx_iff (a b : Sa) : (a.sender == b.sender && (a.seq == b.seq && ((bw a.key).toList == (bw b.key).toList && ((bw a.val).toList == (bw b.val).toList && true)))) = true ↔ a.sender = b.sender ∧ a.seq = b.seq ∧ a.key = b.key ∧ a.val = b.val := by
  rw [← bw_eq a.key, ← bw_eq a.val]
  simp only [Bool.and_eq_true, beq_iff_eq, and_true]
theorem rsame_ok (a b : Sa) (m : Msg) (hm : m.few) (hq : b.quiet = m.zero) (hb : Sa.sized b) : ACalls Tryd.prog 28 [actA b m, actA a msg0] [] (fun av L => av = .d (.bool (sameB a b)) ∧ L = []) := by
  have e1 := eqNumbers_ok b.picks a.picks hb.picks
  have e2 := eqMsg0 m hm false
  have e3 := eqBytes_ok b.bytes a.bytes hb.bytes
  have stop : ∀ {p : Prop}, (sameB a b = true → p) → (¬ p) → (AV.d (.bool false) = AV.d (.bool (sameB a b)) ∧ ([] : List AB) = []) := fun h k => ⟨boolEq ⟨fun h => (by cases h), fun h2 => absurd (h h2) k⟩, rfl⟩
  have txs := tx_iff b a
  (refine acalls_go ttOk zOk foOk Tryd.func28 rfl Tryd.ntmps28 rfl false rfl ?_); (conv => whnf)
  repeat' (first | (first | ((with_reducible first | apply rd_intro | apply gd_and); (focus ((conv => whnf) <;> first | rfl | (intro K hK; (conv => whnf); first | exact hK | exact z_wrap (by omega) hK))); conv => whnf) | ((with_reducible apply z_wrap); (focus omega); conv => whnf) | ((with_reducible first | apply mt_dec | apply mt_eq | apply mt_ne | apply mt_not | apply mt_any) <;> (intro _; conv => whnf))) | (refine And.intro (show eqOkB _ _ _ = true by kernel_rfl) ?_; (conv => whnf)) | fail)
  · rename_i k1 k2 k3 k4 k5
    refine e1.mono ?_
    rintro _ _ ⟨rfl, rfl⟩
    conv => whnf
    refine rdw ?_; repeat' ((with_reducible apply tw) <;> intro _)
    · rename_i k6
      refine e2.mono ?_
      rintro _ _ ⟨rfl, rfl⟩
      conv => whnf
      refine rdw ?_; repeat' ((with_reducible apply tw) <;> intro _)
      · rename_i k7
        refine e3.mono ?_
        rintro _ _ ⟨rfl, rfl⟩
        conv => whnf
        refine ⟨boolEq ?_, rfl⟩
        rw [sameB_iff, beq_iff_eq]
        have k8 := txs.1 k5
        exact ⟨fun h => ⟨k1.symm, k2.symm, k3.symm, k4.symm, ⟨k8.1.symm, k8.2.1.symm, k8.2.2.1.symm, k8.2.2.2.symm⟩, k6.symm, h.symm, hq.trans k7⟩, fun h => h.2.2.2.2.2.2.1.symm⟩
      · rename_i k7
        exact stop (p := m.zero = true) (fun h => by rw [← hq]; exact ((sameB_iff a b).1 h).2.2.2.2.2.2.2) (by rw [k7]; decide)
    · rename_i k6
      exact stop (fun h => ((sameB_iff a b).1 h).2.2.2.2.2.1.symm) k6
  · rename_i k1 k2 k3 k4 k5
    exact stop (fun h => by have k8 := ((sameB_iff a b).1 h).2.2.2.2.1; exact txs.2 ⟨k8.1.symm, k8.2.1.symm, k8.2.2.1.symm, k8.2.2.2.symm⟩) (by rw [k5]; decide)
  · rename_i k
    exact stop (fun h => ((sameB_iff a b).1 h).2.2.2.1.symm) k
  · rename_i k
    exact stop (fun h => ((sameB_iff a b).1 h).2.2.1.symm) k
  · rename_i k
    exact stop (fun h => ((sameB_iff a b).1 h).2.1.symm) k
  · rename_i k
    exact stop (fun h => ((sameB_iff a b).1 h).1.symm) k
theorem z_wrapU {e : Int} {B : Int → Prop} (he : 0 ≤ e ∧ e ≤ 18446744073709551615) (h : B e) : ∀ z, z = IntKind.u64.wrap e → B z := fun z hz => by
  rw [hz, IntKind.wrap_u64, Int.emod_eq_of_lt he.1 (by omega)]
  exact h
theorem wrap8 {e : Int} (he : 0 ≤ e ∧ e ≤ 255) : IntKind.u8.wrap e = e := by rw [IntKind.wrap_u8, Int.emod_eq_of_lt he.1 (by omega)]
theorem z_wrap8 {e : Int} {B : Int → Prop} (he : 0 ≤ e ∧ e ≤ 255) (h : B e) : ∀ z, z = IntKind.u8.wrap e → B z := fun z hz => by
  rw [hz, wrap8 he]
  exact h
def dgSt (u : Nat) (s : W) : AF × List AB := ([(5, .d (.int .u64 (u : Int))), (6, .d (.str (bw s)))], [])
theorem dec_len {u : Nat} (h : u ≤ 9223372036854775808) : (Lib.decDigits u).length ≤ 19 := by
  have := nDigits_19 h
  rw [Lib.decDigits_length]
  exact this
theorem bw_at {s : W} {k : Nat} {c : UInt8} (h : s[k]? = some c) : (bw s)[k]? = some c := by
  obtain ⟨hlt, rfl⟩ := List.getElem?_eq_some_iff.1 h
  have h2 : k < (bw s).size := hlt
  rw [getElem?_pos (bw s) k h2]
  rfl
theorem shr4 (n : Nat) : ishr .u8 (n : Int) 4 = ((n / 16 : Nat) : Int) := by
  unfold ishr
  rw [show (2 ^ (min (4 : Int).toNat IntKind.u8.bits) : Int) = 16 from by decide, Int.fdiv_eq_ediv_of_nonneg _ (by decide)]
  omega
theorem and15' : ∀ a : Fin 256, iand IntKind.u8 (a.val : Int) 15 = ((a.val % 16 : Nat) : Int) := by decide +kernel
theorem and15 (c : UInt8) : iand IntKind.u8 (c.toNat : Int) 15 = ((c.toNat % 16 : Nat) : Int) := and15' ⟨c.toNat, c.toNat_lt⟩
theorem dg_ext' : ∀ v : Fin 16, (⟨#[48, 49, 50, 51, 52, 53, 54, 55, 56, 57, 97, 98, 99, 100, 101, 102]⟩ : ByteArray).extract v.val (v.val + 1) = bw [sgn v.val] := by decide +kernel
theorem dg_ext {v : Nat} (h : v < 16) : (⟨#[48, 49, 50, 51, 52, 53, 54, 55, 56, 57, 97, 98, 99, 100, 101, 102]⟩ : ByteArray).extract ((v : Nat) : Int).toNat (((v : Nat) : Int) + 1).toNat = bw [sgn v] := dg_ext' ⟨v, h⟩
theorem digits_ok (u m : Nat) (h : u + m ≤ 9223372036854775808) : ACalls Tryd.prog 52 [.d (.int .i64 (u : Int)), .d (.int .i64 (m : Int))] [] (fun av L => av = .d (.str (bw (Lib.decDigits (u + m)))) ∧ L = []) := by
  have hd := dec_len h
  (refine acalls_go ttOk zOk foOk Tryd.func52 rfl Tryd.ntmps52 rfl false rfl ?_); (conv => whnf)
  repeat' (first | ((with_reducible apply z_wrapU); (focus omega); (conv => whnf)) | (first | ((with_reducible first | apply rd_intro | apply gd_and); (focus ((conv => whnf) <;> first | rfl | (intro K hK; (conv => whnf); first | exact hK | exact z_wrap (by omega) hK))); conv => whnf) | ((with_reducible apply z_wrap); (focus omega); conv => whnf) | ((with_reducible first | apply mt_dec | apply mt_eq | apply mt_ne | apply mt_not | apply mt_any) <;> (intro _; conv => whnf))))
  · rename_i h0
    have : u + m = 0 := by omega
    rw [this, dec_zero]
    exact ⟨rfl, rfl⟩
  · rename_i h0
    have hpos : 0 < u + m := by omega
    refine loop_go2 ttOk zOk foOk (σ := Nat) (ρ := W) dgSt (fun v s => v ≤ u + m ∧ digL v ++ s = Lib.decDigits (u + m)) (fun v _ => v) [5, 6] ?_ ?_
    · conv => whnf
      refine ⟨u + m, [], rfl, rfl, Nat.le_refl _, ?_⟩
      rw [digL_pos hpos, List.append_nil]
    · rintro v s ⟨hv, hvs⟩
      have hsl : s.length ≤ 19 := by
        have := congrArg List.length hvs
        rw [List.length_append] at this
        omega
      conv => whnf
      repeat' (first | ((with_reducible apply z_wrapU); (focus omega); (conv => whnf)) | (first | ((with_reducible first | apply rd_intro | apply gd_and); (focus ((conv => whnf) <;> first | rfl | (intro K hK; (conv => whnf); first | exact hK | exact z_wrap (by omega) hK))); conv => whnf) | ((with_reducible apply z_wrap); (focus omega); conv => whnf) | ((with_reducible first | apply mt_dec | apply mt_eq | apply mt_ne | apply mt_not | apply mt_any) <;> (intro _; conv => whnf))))
      · rename_i h0
        refine ⟨by decide, ?_⟩
        conv => whnf
        intro z hz
        have hz2 : z = ((v % 10 : Nat) : Int) := hz
        subst hz2
        clear hz
        conv => whnf
        repeat' (first | ((with_reducible apply z_wrapU); (focus omega); (conv => whnf)) | ((with_reducible apply z_wrap8); (focus omega); (conv => whnf)) | (first | ((with_reducible first | apply rd_intro | apply gd_and); (focus ((conv => whnf) <;> first | rfl | (intro K hK; (conv => whnf); first | exact hK | exact z_wrap (by omega) hK))); conv => whnf) | ((with_reducible apply z_wrap); (focus omega); conv => whnf) | ((with_reducible first | apply mt_dec | apply mt_eq | apply mt_ne | apply mt_not | apply mt_any) <;> (intro _; conv => whnf))))
        refine ⟨[UInt8.ofNat (48 + v % 10)], ?_, ?_⟩
        · show _ = [[DV.int .u8 (((UInt8.ofNat (48 + v % 10)).toNat : Nat) : Int)]]
          have e : (UInt8.ofNat (48 + v % 10)).toNat = 48 + v % 10 := by rw [UInt8.toNat_ofNat']; omega
          rw [e]
          rfl
        conv => whnf
        refine ⟨by show ((1 + s.length : Nat) : Int) ≤ 9223372036854775807; omega, ?_⟩
        conv => whnf
        repeat' (first | ((with_reducible apply z_wrapU); (focus omega); (conv => whnf)) | ((with_reducible apply z_wrap8); (focus omega); (conv => whnf)) | (first | ((with_reducible first | apply rd_intro | apply gd_and); (focus ((conv => whnf) <;> first | rfl | (intro K hK; (conv => whnf); first | exact hK | exact z_wrap (by omega) hK))); conv => whnf) | ((with_reducible apply z_wrap); (focus omega); conv => whnf) | ((with_reducible first | apply mt_dec | apply mt_eq | apply mt_ne | apply mt_not | apply mt_any) <;> (intro _; conv => whnf))))
        refine ⟨by decide, ?_⟩
        conv => whnf
        intro z hz
        have hz2 : z = ((v / 10 : Nat) : Int) := by
          rw [hz, show ((v : Nat) : Int).tdiv 10 = ((v / 10 : Nat) : Int) from rfl, IntKind.wrap_u64, Int.emod_eq_of_lt (by omega) (by omega)]
        subst hz2
        clear hz
        conv => whnf
        repeat' (first | ((with_reducible apply z_wrapU); (focus omega); (conv => whnf)) | ((with_reducible apply z_wrap8); (focus omega); (conv => whnf)) | (first | ((with_reducible first | apply rd_intro | apply gd_and); (focus ((conv => whnf) <;> first | rfl | (intro K hK; (conv => whnf); first | exact hK | exact z_wrap (by omega) hK))); conv => whnf) | ((with_reducible apply z_wrap); (focus omega); conv => whnf) | ((with_reducible first | apply mt_dec | apply mt_eq | apply mt_ne | apply mt_not | apply mt_any) <;> (intro _; conv => whnf))))
        refine ⟨v / 10, UInt8.ofNat (48 + v % 10) :: s, ?_, rfl, ⟨by omega, ?_⟩, by omega⟩
        · rw [show (⟨#[UInt8.ofNat (48 + v % 10)]⟩ : ByteArray) ++ bw s = bw (UInt8.ofNat (48 + v % 10) :: s) from bw_app [UInt8.ofNat (48 + v % 10)] s]
          rfl
        · rw [← hvs, digL_step (u := v) (by omega), List.append_assoc]
          rfl
      · rename_i h0
        have : v = 0 := by omega
        subst this
        have e : s = Lib.decDigits (u + m) := hvs
        rw [e]
        exact ⟨rfl, rfl⟩
def byStp (b : W) (i : Nat) : AF × List AB := ([(0, .d (.str (bw b))), (3, .d (.str (bw (hexL (b.take i))))), (4, .d (.int .i64 (i : Int)))], [])
theorem bytesW_ok (b : W) (hb : b.length ≤ 1000000) : ACalls Tryd.prog 33 [.d (.str (bw b))] [] (fun av L => av = .d (.str (bw (hexW b))) ∧ L = []) := by
  (refine acalls_go ttOk zOk foOk Tryd.func33 rfl Tryd.ntmps33 rfl false rfl ?_); (conv => whnf)
  refine rdw ?_; repeat' ((with_reducible apply tw) <;> intro _)
  · rename_i h0
    have hb0 := (bw_eq b []).1 h0
    rw [hb0]
    exact ⟨rfl, rfl⟩
  · rename_i h0
    have hb0 : b ≠ [] := fun e => by
      have := (bw_eq b []).2 e
      rw [show (bw ([] : W)) = (⟨#[]⟩ : ByteArray) from rfl] at this
      rw [this] at h0
      cases h0
    refine loop_go ttOk zOk foOk (σ := Nat) (byStp b) (fun i => i ≤ b.length) (fun i => b.length - i) [0, 3, 4] ?_ ?_
    · conv => whnf
      exact ⟨0, rfl, rfl, Nat.zero_le _⟩
    · intro i hi
      have hbs : (bw b).size = b.length := rfl
      conv => whnf
      rw [hbs]
      refine rdw ?_; repeat' ((with_reducible apply tw) <;> intro _)
      · rename_i hlt
        replace hlt : (i : Int) < ((b.length : Nat) : Int) := hlt
        refine Exists.elim (⟨_, List.getElem?_eq_getElem (by omega)⟩ : ∃ c, b[i]? = some c) fun c hc => ?_
        have hcb := bw_at hc
        ((with_reducible refine draw_pl ttOk zOk foOk mixedOk pl33x7 ?_ ?_); (focus kernel_rfl); (conv => whnf))
        have hclt := c.toNat_lt
        have e13 : bw (hexL (b.take i)) ++ bw [sgn (c.toNat / 16)] = bw (hexL (b.take i) ++ [sgn (c.toNat / 16)]) := bw_app _ _
        have e24 : bw (hexL (b.take i) ++ [sgn (c.toNat / 16)]) ++ bw [sgn (c.toNat % 16)] = bw (hexL (b.take (i + 1))) := by rw [bw_app, List.append_assoc, hexL_snoc hc]; rfl
        have hl13 : (hexL (b.take i)).length ≤ 2000000 := by rw [hexL_len, List.length_take]; omega
        repeat' (first | ((with_reducible apply rd_intro); (focus (intro K hK; (conv => whnf); exact ix_str hcb (by first | rfl | omega) hK)); (conv => whnf)) | (first | ((with_reducible first | apply rd_intro | apply gd_and); (focus ((conv => whnf) <;> first | rfl | (intro K hK; (conv => whnf); first | exact hK | exact z_wrap (by omega) hK))); conv => whnf) | ((with_reducible apply z_wrap); (focus omega); conv => whnf) | ((with_reducible first | apply mt_dec | apply mt_eq | apply mt_ne | apply mt_not | apply mt_any) <;> (intro _; conv => whnf))))
        ((with_reducible apply rd_intro); (focus (intro K hK; (conv => whnf); exact ⟨by decide, fun z hz => by rw [shr4] at hz; subst hz; exact hK⟩)); (conv => whnf))
        repeat' (first | ((with_reducible apply rd_intro); (focus (intro K hK; (conv => whnf); exact ix_str hcb (by first | rfl | omega) hK)); (conv => whnf)) | (first | ((with_reducible first | apply rd_intro | apply gd_and); (focus ((conv => whnf) <;> first | rfl | (intro K hK; (conv => whnf); first | exact hK | exact z_wrap (by omega) hK))); conv => whnf) | ((with_reducible apply z_wrap); (focus omega); conv => whnf) | ((with_reducible first | apply mt_dec | apply mt_eq | apply mt_ne | apply mt_not | apply mt_any) <;> (intro _; conv => whnf))))
        ((with_reducible apply rd_intro); (focus (intro K hK; (conv => whnf); exact ⟨by decide, fun z hz => by rw [shr4] at hz; subst hz; exact hK⟩)); (conv => whnf))
        ((with_reducible apply rd_intro); (focus (intro K hK; (conv => whnf); intro z hz; rw [wrap8 (by omega)] at hz; subst hz; exact hK)); (conv => whnf))
        ((with_reducible apply rd_intro); (focus (intro K hK; (conv => whnf); exact ⟨by omega, by omega, by show _ ≤ (16 : Int); omega, by rw [dg_ext (by omega)]; exact hK⟩)); (conv => whnf))
        ((with_reducible apply rd_intro); (focus (intro K hK; (conv => whnf); exact ⟨by show (((hexL (b.take i)).length + 1 : Nat) : Int) ≤ 9223372036854775807; omega, by rw [e13]; exact hK⟩)); (conv => whnf))
        repeat' (first | ((with_reducible apply rd_intro); (focus (intro K hK; (conv => whnf); exact ix_str hcb (by first | rfl | omega) hK)); (conv => whnf)) | (first | ((with_reducible first | apply rd_intro | apply gd_and); (focus ((conv => whnf) <;> first | rfl | (intro K hK; (conv => whnf); first | exact hK | exact z_wrap (by omega) hK))); conv => whnf) | ((with_reducible apply z_wrap); (focus omega); conv => whnf) | ((with_reducible first | apply mt_dec | apply mt_eq | apply mt_ne | apply mt_not | apply mt_any) <;> (intro _; conv => whnf))))
        ((with_reducible apply rd_intro); (focus (intro K hK; (conv => whnf); intro z hz; rw [and15] at hz; subst hz; exact hK)); (conv => whnf))
        repeat' (first | ((with_reducible apply rd_intro); (focus (intro K hK; (conv => whnf); exact ix_str hcb (by first | rfl | omega) hK)); (conv => whnf)) | (first | ((with_reducible first | apply rd_intro | apply gd_and); (focus ((conv => whnf) <;> first | rfl | (intro K hK; (conv => whnf); first | exact hK | exact z_wrap (by omega) hK))); conv => whnf) | ((with_reducible apply z_wrap); (focus omega); conv => whnf) | ((with_reducible first | apply mt_dec | apply mt_eq | apply mt_ne | apply mt_not | apply mt_any) <;> (intro _; conv => whnf))))
        ((with_reducible apply rd_intro); (focus (intro K hK; (conv => whnf); intro z hz; rw [and15] at hz; subst hz; exact hK)); (conv => whnf))
        ((with_reducible apply rd_intro); (focus (intro K hK; (conv => whnf); intro z hz; rw [wrap8 (by omega)] at hz; subst hz; exact hK)); (conv => whnf))
        ((with_reducible apply rd_intro); (focus (intro K hK; (conv => whnf); exact ⟨by omega, by omega, by show _ ≤ (16 : Int); omega, by rw [dg_ext (by omega)]; exact hK⟩)); (conv => whnf))
        ((with_reducible apply rd_intro); (focus (intro K hK; (conv => whnf); exact ⟨by show ((((hexL (b.take i) ++ [sgn (c.toNat / 16)]).length) + 1 : Nat) : Int) ≤ 9223372036854775807; rw [List.length_append]; show (((hexL (b.take i)).length + 1 + 1 : Nat) : Int) ≤ _; omega, by rw [e24]; exact hK⟩)); (conv => whnf))
        repeat' (first | ((with_reducible apply rd_intro); (focus (intro K hK; (conv => whnf); exact ix_str hcb (by first | rfl | omega) hK)); (conv => whnf)) | (first | ((with_reducible first | apply rd_intro | apply gd_and); (focus ((conv => whnf) <;> first | rfl | (intro K hK; (conv => whnf); first | exact hK | exact z_wrap (by omega) hK))); conv => whnf) | ((with_reducible apply z_wrap); (focus omega); conv => whnf) | ((with_reducible first | apply mt_dec | apply mt_eq | apply mt_ne | apply mt_not | apply mt_any) <;> (intro _; conv => whnf))))
        exact ⟨i + 1, rfl, rfl, by omega, by omega⟩
      · rename_i hlt
        replace hlt : ¬ (i : Int) < ((b.length : Nat) : Int) := hlt
        have : i = b.length := by omega
        subst this
        rw [List.take_length]
        unfold hexW
        rw [if_neg hb0]
        exact ⟨rfl, rfl⟩
theorem number28_ok (n : Int) (hn : i64S n) : ACalls Tryd.prog 32 [.d (.int .i64 n)] [] (fun av L => av = .d (.str (bw (Lib.itoa n))) ∧ L = []) := by
  have h1 := hn.1
  have h2 := hn.2
  (refine acalls_go ttOk zOk foOk Tryd.func32 rfl Tryd.ntmps32 rfl false rfl ?_); (conv => whnf)
  refine rdw ?_; repeat' ((with_reducible apply tw) <;> intro _)
  · rename_i hlt
    have e : (((0 - (n + 1)).toNat : Nat) : Int) = 0 - (n + 1) := by omega
    have e2 : (0 - (n + 1)).toNat + 1 = n.natAbs := by omega
    have hd := digits_ok (0 - (n + 1)).toNat 1 (by omega)
    rw [e, e2] at hd
    have hdl := dec_len (u := n.natAbs) (by omega)
    (refine (hd).mono ?_; rintro _ _ ⟨rfl, rfl⟩; (conv => whnf))
    refine rdw ?_; repeat' ((with_reducible apply tw) <;> intro _)
    refine ⟨by show ((1 + (Lib.decDigits n.natAbs).length : Nat) : Int) ≤ 9223372036854775807; omega, ?_⟩
    conv => whnf
    refine rdw ?_; repeat' ((with_reducible apply tw) <;> intro _)
    refine ⟨?_, rfl⟩
    rw [show (⟨#[45]⟩ : ByteArray) ++ bw (Lib.decDigits n.natAbs) = bw (45 :: Lib.decDigits n.natAbs) from bw_app [45] _]
    unfold Lib.itoa
    rw [if_pos hlt]
  · rename_i hlt
    have e : ((n.toNat : Nat) : Int) = n := by omega
    have hd := digits_ok n.toNat 0 (by omega)
    rw [e, Nat.add_zero] at hd
    (refine (hd).mono ?_; rintro _ _ ⟨rfl, rfl⟩; (conv => whnf))
    refine rdw ?_; repeat' ((with_reducible apply tw) <;> intro _)
    refine ⟨?_, rfl⟩
    unfold Lib.itoa
    rw [if_neg hlt]
def pkW (l : List Int) : W := l.flatMap fun n => 32 :: Lib.itoa n
theorem pkW_len : ∀ l : List Int, (∀ n ∈ l, i64S n) → (pkW l).length ≤ 22 * l.length
  | [], _ => Nat.zero_le _
  | n :: t, h => by
    have ih := pkW_len t fun x hx => h x (List.mem_cons_of_mem _ hx)
    have hn := h n List.mem_cons_self
    have := Lib.itoa_length_le n hn.1 hn.2
    have e : (pkW (n :: t)).length = (Lib.itoa n).length + 1 + (pkW t).length := by
      simp only [pkW, List.flatMap_cons, List.length_append, List.length_cons]
    rw [e, List.length_cons]
    omega
theorem pkW_snoc {l : List Int} {i : Nat} {n : Int} (h : l[i]? = some n) : pkW (l.take i) ++ [32] ++ Lib.itoa n = pkW (l.take (i + 1)) := by
  rw [take_snoc h]
  simp [pkW]
def pkStp (l : List Int) (i : Nat) : AF × List AB := ([(0, .d (.sl 1 (nums l))), (3, .d (.str (bw (pkW (l.take i))))), (4, .d (.int .i64 (i : Int)))], [])
theorem picks28_ok (l : List Int) (hl : l.length ≤ 1000000) (hi : ∀ n ∈ l, i64S n) : ACalls Tryd.prog 34 [.d (.sl 1 (nums l))] [] (fun av L => av = .d (.str (bw (pkW l))) ∧ L = []) := by
  have hll := nums_length l
  (refine acalls_go ttOk zOk foOk Tryd.func34 rfl Tryd.ntmps34 rfl false rfl ?_); (conv => whnf)
  refine rdw ?_; repeat' ((with_reducible apply tw) <;> intro _)
  refine loop_go ttOk zOk foOk (σ := Nat) (pkStp l) (fun i => i ≤ l.length) (fun i => l.length - i) [0, 3, 4] ?_ ?_
  · conv => whnf
    exact ⟨0, rfl, rfl, Nat.zero_le _⟩
  · intro i hil
    conv => whnf
    rw [hll]
    refine rdw ?_; repeat' ((with_reducible apply tw) <;> intro _)
    · rename_i hlt
      replace hlt : (i : Int) < ((l.length : Nat) : Int) := hlt
      refine Exists.elim (⟨_, List.getElem?_eq_getElem (by omega)⟩ : ∃ n, l[i]? = some n) fun n hn => ?_
      have hni := hi n (List.mem_of_getElem? hn)
      have hN := number28_ok n hni
      have hidx : (nums l)[((i : Nat) : Int).toNat]? = some [.int .i64 n] := by rw [Int.toNat_natCast]; simp [nums, hn]
      have hnl := Lib.itoa_length_le n hni.1 hni.2
      have hpl := pkW_len (l.take i) fun x hx => hi x (List.mem_of_mem_take hx)
      have htl : (l.take i).length ≤ 1000000 := by rw [List.length_take]; omega
      have e1 : bw (pkW (l.take i)) ++ (⟨#[32]⟩ : ByteArray) = bw (pkW (l.take i) ++ [32]) := bw_app _ [32]
      have e2 : bw (pkW (l.take i) ++ [32]) ++ bw (Lib.itoa n) = bw (pkW (l.take (i + 1))) := by rw [bw_app, pkW_snoc hn]
      refine ⟨by show (((pkW (l.take i)).length + 1 : Nat) : Int) ≤ 9223372036854775807; omega, ?_⟩
      conv => whnf
      refine ⟨by omega, _, hidx, ?_⟩
      conv => whnf
      refine rdw ?_; repeat' ((with_reducible apply tw) <;> intro _)
      (refine (hN).mono ?_; rintro _ _ ⟨rfl, rfl⟩; (conv => whnf))
      refine rdw ?_; repeat' ((with_reducible apply tw) <;> intro _)
      refine ⟨?_, ?_⟩
      · rw [e1]
        show (((pkW (l.take i) ++ [32]).length + (Lib.itoa n).length : Nat) : Int) ≤ 9223372036854775807
        rw [List.length_append]
        show (((pkW (l.take i)).length + 1 + (Lib.itoa n).length : Nat) : Int) ≤ 9223372036854775807
        omega
      conv => whnf
      refine rdw ?_; repeat' ((with_reducible apply tw) <;> intro _)
      refine ⟨i + 1, ?_, rfl, by omega, by omega⟩
      rw [e1, e2]
      rfl
    · rename_i hlt
      replace hlt : ¬ (i : Int) < ((l.length : Nat) : Int) := hlt
      have : i = l.length := by omega
      subst this
      rw [List.take_length]
      exact ⟨rfl, rfl⟩
theorem pr_form {f : Int × W × W} (hf : f ∈ formsL) {a : Sa} (hk : f.1 = a.kind) {x : Sa} {w : W} (hx : onlyS f.2.2 a = sameB x a) (hw : lineOf f a = w) : printS a = bif sameB x a then some w else none := by
  unfold printS
  rw [← hx]
  cases hb : onlyS f.2.2 a with
  | true =>
    have : formOf a = some f := find_form hf (by rw [hb, Bool.and_true]; exact decide_eq_true hk) fun g _ hp => .inl (by
      simp only [Bool.and_eq_true, decide_eq_true_iff] at hp
      rw [hk, hp.1])
    rw [this, ← hw]
    rfl
  | false =>
    have : formOf a = none := by
      unfold formOf
      rw [List.find?_eq_none]
      intro g hg
      simp only [Bool.and_eq_true, decide_eq_true_iff]
      rintro ⟨h1, h2⟩
      rw [← forms_one f hf g hg (.inl (hk.trans h1.symm)), hb] at h2
      cases h2
    rw [this]
    rfl
theorem pr_none {a : Sa} (h : ∀ f ∈ formsL, f.1 ≠ a.kind) : printS a = none := by
  unfold printS formOf
  have : formsL.find? (fun f => decide (f.1 = a.kind) && onlyS f.2.2 a) = none := by
    rw [List.find?_eq_none]
    intro g hg
    simp only [Bool.and_eq_true, decide_eq_true_iff]
    rintro ⟨h1, _⟩
    exact h g hg h1
  rw [this]
  rfl
theorem join_pk : ∀ (l : List Int) (w : W), joinF (w :: l.map Lib.itoa) = w ++ pkW l
  | [], w => by simp [joinF, pkW]
  | n :: t, w => by
    rw [List.map_cons, join_cons (List.cons_ne_nil _ _), join_pk t]
    simp [pkW]
def xN (a : Sa) : Sa := { zeroS a.kind with node := a.node }
def xT (a : Sa) : Sa := { xN a with sender := a.sender, seq := a.seq, key := a.key, val := a.val }
def xP (a : Sa) : Sa := { xN a with peer := a.peer, n := a.n }
def xL (a : Sa) : Sa := { xN a with picks := a.picks }
def xKL (a : Sa) : Sa := { xN a with n := a.n, picks := a.picks }
def xB (a : Sa) : Sa := { xN a with peer := a.peer, bytes := a.bytes }
def xK (a : Sa) : Sa := { zeroS a.kind with n := a.n }
theorem on_N (a : Sa) : onlyS [110] a = sameB (xN a) a := by
  rw [Bool.eq_iff_iff, sameB_iff]
  simp [onlyS, xN, zeroS]
  constructor <;> (intro h; simp_all) <;> omega
theorem on_T (a : Sa) : onlyS [110, 116] a = sameB (xT a) a := by
  rw [Bool.eq_iff_iff, sameB_iff]
  simp [onlyS, xT, xN, zeroS]
  constructor <;> (intro h; simp_all) <;> omega
theorem on_P (a : Sa) : onlyS [110, 112, 107] a = sameB (xP a) a := by
  rw [Bool.eq_iff_iff, sameB_iff]
  simp [onlyS, xP, xN, zeroS]
  constructor <;> (intro h; simp_all) <;> omega
theorem on_L (a : Sa) : onlyS [110, 108] a = sameB (xL a) a := by
  rw [Bool.eq_iff_iff, sameB_iff]
  simp [onlyS, xL, xN, zeroS]
  constructor <;> (intro h; simp_all) <;> omega
theorem on_KL (a : Sa) : onlyS [110, 107, 108] a = sameB (xKL a) a := by
  rw [Bool.eq_iff_iff, sameB_iff]
  simp [onlyS, xKL, xN, zeroS]
  constructor <;> (intro h; simp_all) <;> omega
theorem on_B (a : Sa) : onlyS [110, 112, 98] a = sameB (xB a) a := by
  rw [Bool.eq_iff_iff, sameB_iff]
  simp [onlyS, xB, xN, zeroS]
  constructor <;> (intro h; simp_all) <;> omega
theorem on_K (a : Sa) : onlyS [107] a = sameB (xK a) a := by
  rw [Bool.eq_iff_iff, sameB_iff]
  simp [onlyS, xK, zeroS]
  constructor <;> (intro h; simp_all) <;> omega
theorem bw_size (w : W) : (bw w).size = w.length := rfl
theorem csz (l : List UInt8) : (⟨l.toArray⟩ : ByteArray).size = l.length := rfl
theorem cbw (l : List UInt8) : (⟨l.toArray⟩ : ByteArray) = bw l := rfl
theorem rsameX {a x : Sa} {m : Msg} (hm : m.few) (hq : a.quiet = m.zero) (ha : Sa.sized a) {pk bs : DV} (h1 : NW (.d pk) (.d (.sl 1 (nums x.picks)))) (h2 : NW (.d bs) (.d (.sl 1 (u8s x.bytes)))) : ACalls Tryd.prog 28 [actA a m, .agg (actC x (.d pk) (.d bs))] [] (fun av L => av = .d (.bool (sameB x a)) ∧ L = []) :=
  acalls_nw (rsame_ok x a m hm hq ha) (.cons (.refl _) (.cons (nw_actC x h1 h2) .nil))
theorem fin_no {a x : Sa} {w : W} (pr : printS a = bif sameB x a then some w else none) (h : sameB x a = false) : AV.tup [.d (.str ⟨#[]⟩), .d (.bool false)] = AV.tup [.d (.str (bw ((printS a).getD []))), .d (.bool (printS a).isSome)] ∧ ([] : List AB) = [] := by
  rw [pr, h]
  exact ⟨rfl, rfl⟩
theorem fin_yes {a x : Sa} {w : W} (pr : printS a = bif sameB x a then some w else none) (h : sameB x a = true) {s : ByteArray} (e : s = bw w) : AV.tup [.d (.str s), .d (.bool true)] = AV.tup [.d (.str (bw ((printS a).getD []))), .d (.bool (printS a).isSome)] ∧ ([] : List AB) = [] := by
  rw [pr, h, e]
  exact ⟨rfl, rfl⟩
set_option maxHeartbeats 2000000 in
theorem print28_ok (a : Sa) (m : Msg) (ha : Sa.small a) (hm : m.few) (hq : a.quiet = m.zero) : ACalls Tryd.prog 17 [actA a m] [] (fun av L => av = .tup [.d (.str (bw ((printS a).getD []))), .d (.bool (printS a).isSome)] ∧ L = []) := by
  have fit := ha.fit
  have hnode := number28_ok a.node fit.node
  have hpeer := number28_ok a.peer fit.peer
  have hn := number28_ok a.n fit.n
  have hsnd := number28_ok a.sender fit.sender
  have hseq := number28_ok a.seq fit.seq
  have hkey := bytesW_ok a.key (Nat.le_trans ha.key (by decide))
  have hval := bytesW_ok a.val (Nat.le_trans ha.val (by decide))
  have hbyt := bytesW_ok a.bytes (Nat.le_trans ha.bytes (by decide))
  have hpk := picks28_ok a.picks (Nat.le_trans ha.picks (by decide)) fit.picks
  have l1 := Lib.itoa_length_le a.node fit.node.1 fit.node.2
  have l2 := Lib.itoa_length_le a.peer fit.peer.1 fit.peer.2
  have l3 := Lib.itoa_length_le a.n fit.n.1 fit.n.2
  have l4 := Lib.itoa_length_le a.sender fit.sender.1 fit.sender.2
  have l5 := Lib.itoa_length_le a.seq fit.seq.1 fit.seq.2
  have l6 := hexW_len a.key
  have l7 := hexW_len a.val
  have l8 := hexW_len a.bytes
  have l9 := pkW_len a.picks fit.picks
  have k1 := ha.picks
  have k2 := ha.key
  have k3 := ha.val
  have k4 := ha.bytes
  (refine acalls_go ttOk zOk foOk Tryd.func17 rfl Tryd.ntmps17 rfl false rfl ?_); (conv => whnf)
  refine rdw ?_; repeat' ((with_reducible apply tw) <;> intro _)
  (refine (hnode).mono ?_; rintro _ _ ⟨rfl, rfl⟩; (conv => whnf))
  refine ⟨(by show _ ≤ (9223372036854775807 : Int); simp only [ByteArray.size_append, bw_size, csz, List.length_cons, List.length_nil]; omega), ?_⟩
  conv => whnf
  ((with_reducible refine draw_pl ttOk zOk foOk mixedOk pl17x4 ?_ ?_); (focus kernel_rfl); (conv => whnf))
  repeat' (first | (first | ((with_reducible first | apply rd_intro | apply gd_and); (focus ((conv => whnf) <;> first | rfl | (intro K hK; (conv => whnf); first | exact hK | exact z_wrap (by omega) hK))); conv => whnf) | ((with_reducible apply z_wrap); (focus omega); conv => whnf) | ((with_reducible first | apply mt_dec | apply mt_eq | apply mt_ne | apply mt_not | apply mt_any) <;> (intro _; conv => whnf))) | ((with_reducible apply rd_intro); (focus (intro K hK; (conv => whnf); refine And.intro (by show _ ≤ (9223372036854775807 : Int); simp only [ByteArray.size_append, bw_size, csz, List.length_cons, List.length_nil]; omega) ?_; exact hK)); (conv => whnf)))
  (refine (hpeer).mono ?_; rintro _ _ ⟨rfl, rfl⟩; (conv => whnf))
  repeat' (first | (first | ((with_reducible first | apply rd_intro | apply gd_and); (focus ((conv => whnf) <;> first | rfl | (intro K hK; (conv => whnf); first | exact hK | exact z_wrap (by omega) hK))); conv => whnf) | ((with_reducible apply z_wrap); (focus omega); conv => whnf) | ((with_reducible first | apply mt_dec | apply mt_eq | apply mt_ne | apply mt_not | apply mt_any) <;> (intro _; conv => whnf))) | ((with_reducible apply rd_intro); (focus (intro K hK; (conv => whnf); refine And.intro (by show _ ≤ (9223372036854775807 : Int); simp only [ByteArray.size_append, bw_size, csz, List.length_cons, List.length_nil]; omega) ?_; exact hK)); (conv => whnf)))
  (refine (hn).mono ?_; rintro _ _ ⟨rfl, rfl⟩; (conv => whnf))
  repeat' (first | (first | ((with_reducible first | apply rd_intro | apply gd_and); (focus ((conv => whnf) <;> first | rfl | (intro K hK; (conv => whnf); first | exact hK | exact z_wrap (by omega) hK))); conv => whnf) | ((with_reducible apply z_wrap); (focus omega); conv => whnf) | ((with_reducible first | apply mt_dec | apply mt_eq | apply mt_ne | apply mt_not | apply mt_any) <;> (intro _; conv => whnf))) | ((with_reducible apply rd_intro); (focus (intro K hK; (conv => whnf); refine And.intro (by show _ ≤ (9223372036854775807 : Int); simp only [ByteArray.size_append, bw_size, csz, List.length_cons, List.length_nil]; omega) ?_; exact hK)); (conv => whnf)))
  · rename_i hk
    have hs := rsameX (x := xN a) hm hq ha.fine.sized (nwP0 rfl) (nwB0 rfl)
    have pr := pr_form (f := (1, [116, 105, 99, 107], [110])) (by decide) hk.symm (on_N a) rfl
    refine ⟨(by show _ ≤ (9223372036854775807 : Int); simp only [ByteArray.size_append, bw_size, csz, List.length_cons, List.length_nil]; omega), ?_⟩
    conv => whnf
    refine rdw ?_; repeat' ((with_reducible apply tw) <;> intro _)
    (refine (hs).mono ?_; rintro _ _ ⟨rfl, rfl⟩; (conv => whnf))
    refine rdw ?_; repeat' ((with_reducible apply tw) <;> intro _)
    · rename_i h
      exact fin_no pr h
    · rename_i h
      exact fin_yes pr h (by simp only [cbw, bw_app]; exact congrArg bw (by simp [lineOf, wordsOf, wordC, joinF, join_pk]))
  · rename_i hk
    have hs := rsameX (x := xT a) hm hq ha.fine.sized (nwP0 rfl) (nwB0 rfl)
    have pr := pr_form (f := (2, [116, 120], [110, 116])) (by decide) hk.symm (on_T a) rfl
    ((with_reducible refine draw_pl ttOk zOk foOk mixedOk pl17x12 ?_ ?_); (focus kernel_rfl); (conv => whnf))
    repeat' (first | (first | ((with_reducible first | apply rd_intro | apply gd_and); (focus ((conv => whnf) <;> first | rfl | (intro K hK; (conv => whnf); first | exact hK | exact z_wrap (by omega) hK))); conv => whnf) | ((with_reducible apply z_wrap); (focus omega); conv => whnf) | ((with_reducible first | apply mt_dec | apply mt_eq | apply mt_ne | apply mt_not | apply mt_any) <;> (intro _; conv => whnf))) | ((with_reducible apply rd_intro); (focus (intro K hK; (conv => whnf); refine And.intro (by show _ ≤ (9223372036854775807 : Int); simp only [ByteArray.size_append, bw_size, csz, List.length_cons, List.length_nil]; omega) ?_; exact hK)); (conv => whnf)))
    (refine (hsnd).mono ?_; rintro _ _ ⟨rfl, rfl⟩; (conv => whnf))
    repeat' (first | (first | ((with_reducible first | apply rd_intro | apply gd_and); (focus ((conv => whnf) <;> first | rfl | (intro K hK; (conv => whnf); first | exact hK | exact z_wrap (by omega) hK))); conv => whnf) | ((with_reducible apply z_wrap); (focus omega); conv => whnf) | ((with_reducible first | apply mt_dec | apply mt_eq | apply mt_ne | apply mt_not | apply mt_any) <;> (intro _; conv => whnf))) | ((with_reducible apply rd_intro); (focus (intro K hK; (conv => whnf); refine And.intro (by show _ ≤ (9223372036854775807 : Int); simp only [ByteArray.size_append, bw_size, csz, List.length_cons, List.length_nil]; omega) ?_; exact hK)); (conv => whnf)))
    (refine (hseq).mono ?_; rintro _ _ ⟨rfl, rfl⟩; (conv => whnf))
    repeat' (first | (first | ((with_reducible first | apply rd_intro | apply gd_and); (focus ((conv => whnf) <;> first | rfl | (intro K hK; (conv => whnf); first | exact hK | exact z_wrap (by omega) hK))); conv => whnf) | ((with_reducible apply z_wrap); (focus omega); conv => whnf) | ((with_reducible first | apply mt_dec | apply mt_eq | apply mt_ne | apply mt_not | apply mt_any) <;> (intro _; conv => whnf))) | ((with_reducible apply rd_intro); (focus (intro K hK; (conv => whnf); refine And.intro (by show _ ≤ (9223372036854775807 : Int); simp only [ByteArray.size_append, bw_size, csz, List.length_cons, List.length_nil]; omega) ?_; exact hK)); (conv => whnf)))
    (refine (hkey).mono ?_; rintro _ _ ⟨rfl, rfl⟩; (conv => whnf))
    repeat' (first | (first | ((with_reducible first | apply rd_intro | apply gd_and); (focus ((conv => whnf) <;> first | rfl | (intro K hK; (conv => whnf); first | exact hK | exact z_wrap (by omega) hK))); conv => whnf) | ((with_reducible apply z_wrap); (focus omega); conv => whnf) | ((with_reducible first | apply mt_dec | apply mt_eq | apply mt_ne | apply mt_not | apply mt_any) <;> (intro _; conv => whnf))) | ((with_reducible apply rd_intro); (focus (intro K hK; (conv => whnf); refine And.intro (by show _ ≤ (9223372036854775807 : Int); simp only [ByteArray.size_append, bw_size, csz, List.length_cons, List.length_nil]; omega) ?_; exact hK)); (conv => whnf)))
    (refine (hval).mono ?_; rintro _ _ ⟨rfl, rfl⟩; (conv => whnf))
    repeat' (first | (first | ((with_reducible first | apply rd_intro | apply gd_and); (focus ((conv => whnf) <;> first | rfl | (intro K hK; (conv => whnf); first | exact hK | exact z_wrap (by omega) hK))); conv => whnf) | ((with_reducible apply z_wrap); (focus omega); conv => whnf) | ((with_reducible first | apply mt_dec | apply mt_eq | apply mt_ne | apply mt_not | apply mt_any) <;> (intro _; conv => whnf))) | ((with_reducible apply rd_intro); (focus (intro K hK; (conv => whnf); refine And.intro (by show _ ≤ (9223372036854775807 : Int); simp only [ByteArray.size_append, bw_size, csz, List.length_cons, List.length_nil]; omega) ?_; exact hK)); (conv => whnf)))
    (refine (hs).mono ?_; rintro _ _ ⟨rfl, rfl⟩; (conv => whnf))
    refine rdw ?_; repeat' ((with_reducible apply tw) <;> intro _)
    · rename_i h
      exact fin_no pr h
    · rename_i h
      exact fin_yes pr h (by simp only [cbw, bw_app]; exact congrArg bw (by simp [lineOf, wordsOf, wordC, joinF, join_pk]))
  · rename_i hk
    have hs := rsameX (x := xP a) hm hq ha.fine.sized (nwP0 rfl) (nwB0 rfl)
    have pr := pr_form (f := (3, [100, 101, 108, 105, 118, 101, 114], [110, 112, 107])) (by decide) hk.symm (on_P a) rfl
    ((with_reducible refine draw_pl ttOk zOk foOk mixedOk pl17x14 ?_ ?_); (focus kernel_rfl); (conv => whnf))
    repeat' (first | (first | ((with_reducible first | apply rd_intro | apply gd_and); (focus ((conv => whnf) <;> first | rfl | (intro K hK; (conv => whnf); first | exact hK | exact z_wrap (by omega) hK))); conv => whnf) | ((with_reducible apply z_wrap); (focus omega); conv => whnf) | ((with_reducible first | apply mt_dec | apply mt_eq | apply mt_ne | apply mt_not | apply mt_any) <;> (intro _; conv => whnf))) | ((with_reducible apply rd_intro); (focus (intro K hK; (conv => whnf); refine And.intro (by show _ ≤ (9223372036854775807 : Int); simp only [ByteArray.size_append, bw_size, csz, List.length_cons, List.length_nil]; omega) ?_; exact hK)); (conv => whnf)))
    refine ⟨(by show _ ≤ (9223372036854775807 : Int); simp only [ByteArray.size_append, bw_size, csz, List.length_cons, List.length_nil]; omega), ?_⟩
    conv => whnf
    refine rdw ?_; repeat' ((with_reducible apply tw) <;> intro _)
    (refine (hs).mono ?_; rintro _ _ ⟨rfl, rfl⟩; (conv => whnf))
    refine rdw ?_; repeat' ((with_reducible apply tw) <;> intro _)
    · rename_i h
      exact fin_no pr h
    · rename_i h
      exact fin_yes pr h (by simp only [cbw, bw_app]; exact congrArg bw (by simp [lineOf, wordsOf, wordC, joinF, join_pk]))
  · rename_i hk
    have hs := rsameX (x := xP a) hm hq ha.fine.sized (nwP0 rfl) (nwB0 rfl)
    have pr := pr_form (f := (4, [100, 111, 117, 98, 108, 101], [110, 112, 107])) (by decide) hk.symm (on_P a) rfl
    ((with_reducible refine draw_pl ttOk zOk foOk mixedOk pl17x17 ?_ ?_); (focus kernel_rfl); (conv => whnf))
    repeat' (first | (first | ((with_reducible first | apply rd_intro | apply gd_and); (focus ((conv => whnf) <;> first | rfl | (intro K hK; (conv => whnf); first | exact hK | exact z_wrap (by omega) hK))); conv => whnf) | ((with_reducible apply z_wrap); (focus omega); conv => whnf) | ((with_reducible first | apply mt_dec | apply mt_eq | apply mt_ne | apply mt_not | apply mt_any) <;> (intro _; conv => whnf))) | ((with_reducible apply rd_intro); (focus (intro K hK; (conv => whnf); refine And.intro (by show _ ≤ (9223372036854775807 : Int); simp only [ByteArray.size_append, bw_size, csz, List.length_cons, List.length_nil]; omega) ?_; exact hK)); (conv => whnf)))
    refine ⟨(by show _ ≤ (9223372036854775807 : Int); simp only [ByteArray.size_append, bw_size, csz, List.length_cons, List.length_nil]; omega), ?_⟩
    conv => whnf
    refine rdw ?_; repeat' ((with_reducible apply tw) <;> intro _)
    (refine (hs).mono ?_; rintro _ _ ⟨rfl, rfl⟩; (conv => whnf))
    refine rdw ?_; repeat' ((with_reducible apply tw) <;> intro _)
    · rename_i h
      exact fin_no pr h
    · rename_i h
      exact fin_yes pr h (by simp only [cbw, bw_app]; exact congrArg bw (by simp [lineOf, wordsOf, wordC, joinF, join_pk]))
  · rename_i hk
    have hs := rsameX (x := xP a) hm hq ha.fine.sized (nwP0 rfl) (nwB0 rfl)
    have pr := pr_form (f := (5, [100, 114, 111, 112], [110, 112, 107])) (by decide) hk.symm (on_P a) rfl
    ((with_reducible refine draw_pl ttOk zOk foOk mixedOk pl17x20 ?_ ?_); (focus kernel_rfl); (conv => whnf))
    repeat' (first | (first | ((with_reducible first | apply rd_intro | apply gd_and); (focus ((conv => whnf) <;> first | rfl | (intro K hK; (conv => whnf); first | exact hK | exact z_wrap (by omega) hK))); conv => whnf) | ((with_reducible apply z_wrap); (focus omega); conv => whnf) | ((with_reducible first | apply mt_dec | apply mt_eq | apply mt_ne | apply mt_not | apply mt_any) <;> (intro _; conv => whnf))) | ((with_reducible apply rd_intro); (focus (intro K hK; (conv => whnf); refine And.intro (by show _ ≤ (9223372036854775807 : Int); simp only [ByteArray.size_append, bw_size, csz, List.length_cons, List.length_nil]; omega) ?_; exact hK)); (conv => whnf)))
    refine ⟨(by show _ ≤ (9223372036854775807 : Int); simp only [ByteArray.size_append, bw_size, csz, List.length_cons, List.length_nil]; omega), ?_⟩
    conv => whnf
    refine rdw ?_; repeat' ((with_reducible apply tw) <;> intro _)
    (refine (hs).mono ?_; rintro _ _ ⟨rfl, rfl⟩; (conv => whnf))
    refine rdw ?_; repeat' ((with_reducible apply tw) <;> intro _)
    · rename_i h
      exact fin_no pr h
    · rename_i h
      exact fin_yes pr h (by simp only [cbw, bw_app]; exact congrArg bw (by simp [lineOf, wordsOf, wordC, joinF, join_pk]))
  · rename_i hk
    have hs := rsameX (x := xL a) hm hq ha.fine.sized (.refl _) (nwB0 rfl)
    have pr := pr_form (f := (6, [99, 114, 97, 115, 104], [110, 108])) (by decide) hk.symm (on_L a) rfl
    refine ⟨(by show _ ≤ (9223372036854775807 : Int); simp only [ByteArray.size_append, bw_size, csz, List.length_cons, List.length_nil]; omega), ?_⟩
    conv => whnf
    refine rdw ?_; repeat' ((with_reducible apply tw) <;> intro _)
    (refine (hpk).mono ?_; rintro _ _ ⟨rfl, rfl⟩; (conv => whnf))
    refine rdw ?_; repeat' ((with_reducible apply tw) <;> intro _)
    refine ⟨(by show _ ≤ (9223372036854775807 : Int); simp only [ByteArray.size_append, bw_size, csz, List.length_cons, List.length_nil]; omega), ?_⟩
    conv => whnf
    refine rdw ?_; repeat' ((with_reducible apply tw) <;> intro _)
    (refine (hs).mono ?_; rintro _ _ ⟨rfl, rfl⟩; (conv => whnf))
    refine rdw ?_; repeat' ((with_reducible apply tw) <;> intro _)
    · rename_i h
      exact fin_no pr h
    · rename_i h
      exact fin_yes pr h (by simp only [cbw, bw_app]; exact congrArg bw (by simp [lineOf, wordsOf, wordC, joinF, join_pk]))
  · rename_i hk
    have hs := rsameX (x := xN a) hm hq ha.fine.sized (nwP0 rfl) (nwB0 rfl)
    have pr := pr_form (f := (7, [115, 116, 97, 114, 116], [110])) (by decide) hk.symm (on_N a) rfl
    refine ⟨(by show _ ≤ (9223372036854775807 : Int); simp only [ByteArray.size_append, bw_size, csz, List.length_cons, List.length_nil]; omega), ?_⟩
    conv => whnf
    refine rdw ?_; repeat' ((with_reducible apply tw) <;> intro _)
    (refine (hs).mono ?_; rintro _ _ ⟨rfl, rfl⟩; (conv => whnf))
    refine rdw ?_; repeat' ((with_reducible apply tw) <;> intro _)
    · rename_i h
      exact fin_no pr h
    · rename_i h
      exact fin_yes pr h (by simp only [cbw, bw_app]; exact congrArg bw (by simp [lineOf, wordsOf, wordC, joinF, join_pk]))
  · rename_i hk
    have hs := rsameX (x := xKL a) hm hq ha.fine.sized (.refl _) (nwB0 rfl)
    have pr := pr_form (f := (8, [97, 114, 109], [110, 107, 108])) (by decide) hk.symm (on_KL a) rfl
    ((with_reducible refine draw_pl ttOk zOk foOk mixedOk pl17x28 ?_ ?_); (focus kernel_rfl); (conv => whnf))
    repeat' (first | (first | ((with_reducible first | apply rd_intro | apply gd_and); (focus ((conv => whnf) <;> first | rfl | (intro K hK; (conv => whnf); first | exact hK | exact z_wrap (by omega) hK))); conv => whnf) | ((with_reducible apply z_wrap); (focus omega); conv => whnf) | ((with_reducible first | apply mt_dec | apply mt_eq | apply mt_ne | apply mt_not | apply mt_any) <;> (intro _; conv => whnf))) | ((with_reducible apply rd_intro); (focus (intro K hK; (conv => whnf); refine And.intro (by show _ ≤ (9223372036854775807 : Int); simp only [ByteArray.size_append, bw_size, csz, List.length_cons, List.length_nil]; omega) ?_; exact hK)); (conv => whnf)))
    ((with_reducible refine draw_pl ttOk zOk foOk mixedOk pl17x29 ?_ ?_); (focus kernel_rfl); (conv => whnf))
    repeat' (first | (first | ((with_reducible first | apply rd_intro | apply gd_and); (focus ((conv => whnf) <;> first | rfl | (intro K hK; (conv => whnf); first | exact hK | exact z_wrap (by omega) hK))); conv => whnf) | ((with_reducible apply z_wrap); (focus omega); conv => whnf) | ((with_reducible first | apply mt_dec | apply mt_eq | apply mt_ne | apply mt_not | apply mt_any) <;> (intro _; conv => whnf))) | ((with_reducible apply rd_intro); (focus (intro K hK; (conv => whnf); refine And.intro (by show _ ≤ (9223372036854775807 : Int); simp only [ByteArray.size_append, bw_size, csz, List.length_cons, List.length_nil]; omega) ?_; exact hK)); (conv => whnf)))
    (refine (hn).mono ?_; rintro _ _ ⟨rfl, rfl⟩; (conv => whnf))
    repeat' (first | (first | ((with_reducible first | apply rd_intro | apply gd_and); (focus ((conv => whnf) <;> first | rfl | (intro K hK; (conv => whnf); first | exact hK | exact z_wrap (by omega) hK))); conv => whnf) | ((with_reducible apply z_wrap); (focus omega); conv => whnf) | ((with_reducible first | apply mt_dec | apply mt_eq | apply mt_ne | apply mt_not | apply mt_any) <;> (intro _; conv => whnf))) | ((with_reducible apply rd_intro); (focus (intro K hK; (conv => whnf); refine And.intro (by show _ ≤ (9223372036854775807 : Int); simp only [ByteArray.size_append, bw_size, csz, List.length_cons, List.length_nil]; omega) ?_; exact hK)); (conv => whnf)))
    (refine (hpk).mono ?_; rintro _ _ ⟨rfl, rfl⟩; (conv => whnf))
    repeat' (first | (first | ((with_reducible first | apply rd_intro | apply gd_and); (focus ((conv => whnf) <;> first | rfl | (intro K hK; (conv => whnf); first | exact hK | exact z_wrap (by omega) hK))); conv => whnf) | ((with_reducible apply z_wrap); (focus omega); conv => whnf) | ((with_reducible first | apply mt_dec | apply mt_eq | apply mt_ne | apply mt_not | apply mt_any) <;> (intro _; conv => whnf))) | ((with_reducible apply rd_intro); (focus (intro K hK; (conv => whnf); refine And.intro (by show _ ≤ (9223372036854775807 : Int); simp only [ByteArray.size_append, bw_size, csz, List.length_cons, List.length_nil]; omega) ?_; exact hK)); (conv => whnf)))
    (refine (hs).mono ?_; rintro _ _ ⟨rfl, rfl⟩; (conv => whnf))
    refine rdw ?_; repeat' ((with_reducible apply tw) <;> intro _)
    · rename_i h
      exact fin_no pr h
    · rename_i h
      exact fin_yes pr h (by simp only [cbw, bw_app]; exact congrArg bw (by simp [lineOf, wordsOf, wordC, joinF, join_pk]))
  · rename_i hk
    have hs := rsameX (x := xB a) hm hq ha.fine.sized (nwP0 rfl) (.refl _)
    have pr := pr_form (f := (10, [114, 97, 119], [110, 112, 98])) (by decide) hk.symm (on_B a) rfl
    ((with_reducible refine draw_pl ttOk zOk foOk mixedOk pl17x31 ?_ ?_); (focus kernel_rfl); (conv => whnf))
    repeat' (first | (first | ((with_reducible first | apply rd_intro | apply gd_and); (focus ((conv => whnf) <;> first | rfl | (intro K hK; (conv => whnf); first | exact hK | exact z_wrap (by omega) hK))); conv => whnf) | ((with_reducible apply z_wrap); (focus omega); conv => whnf) | ((with_reducible first | apply mt_dec | apply mt_eq | apply mt_ne | apply mt_not | apply mt_any) <;> (intro _; conv => whnf))) | ((with_reducible apply rd_intro); (focus (intro K hK; (conv => whnf); refine And.intro (by show _ ≤ (9223372036854775807 : Int); simp only [ByteArray.size_append, bw_size, csz, List.length_cons, List.length_nil]; omega) ?_; exact hK)); (conv => whnf)))
    ((with_reducible refine draw_pl ttOk zOk foOk mixedOk pl17x32 ?_ ?_); (focus kernel_rfl); (conv => whnf))
    repeat' (first | (first | ((with_reducible first | apply rd_intro | apply gd_and); (focus ((conv => whnf) <;> first | rfl | (intro K hK; (conv => whnf); first | exact hK | exact z_wrap (by omega) hK))); conv => whnf) | ((with_reducible apply z_wrap); (focus omega); conv => whnf) | ((with_reducible first | apply mt_dec | apply mt_eq | apply mt_ne | apply mt_not | apply mt_any) <;> (intro _; conv => whnf))) | ((with_reducible apply rd_intro); (focus (intro K hK; (conv => whnf); refine And.intro (by show _ ≤ (9223372036854775807 : Int); simp only [ByteArray.size_append, bw_size, csz, List.length_cons, List.length_nil]; omega) ?_; exact hK)); (conv => whnf)))
    ((with_reducible apply rd_intro); (focus (intro K hK; (conv => whnf); exact ⟨a.bytes, rfl, hK⟩)); (conv => whnf))
    repeat' (first | (first | ((with_reducible first | apply rd_intro | apply gd_and); (focus ((conv => whnf) <;> first | rfl | (intro K hK; (conv => whnf); first | exact hK | exact z_wrap (by omega) hK))); conv => whnf) | ((with_reducible apply z_wrap); (focus omega); conv => whnf) | ((with_reducible first | apply mt_dec | apply mt_eq | apply mt_ne | apply mt_not | apply mt_any) <;> (intro _; conv => whnf))) | ((with_reducible apply rd_intro); (focus (intro K hK; (conv => whnf); refine And.intro (by show _ ≤ (9223372036854775807 : Int); simp only [ByteArray.size_append, bw_size, csz, List.length_cons, List.length_nil]; omega) ?_; exact hK)); (conv => whnf)))
    (refine (hpeer).mono ?_; rintro _ _ ⟨rfl, rfl⟩; (conv => whnf))
    repeat' (first | (first | ((with_reducible first | apply rd_intro | apply gd_and); (focus ((conv => whnf) <;> first | rfl | (intro K hK; (conv => whnf); first | exact hK | exact z_wrap (by omega) hK))); conv => whnf) | ((with_reducible apply z_wrap); (focus omega); conv => whnf) | ((with_reducible first | apply mt_dec | apply mt_eq | apply mt_ne | apply mt_not | apply mt_any) <;> (intro _; conv => whnf))) | ((with_reducible apply rd_intro); (focus (intro K hK; (conv => whnf); refine And.intro (by show _ ≤ (9223372036854775807 : Int); simp only [ByteArray.size_append, bw_size, csz, List.length_cons, List.length_nil]; omega) ?_; exact hK)); (conv => whnf)))
    ((with_reducible apply gd_and); (focus ((conv => whnf); intro K hK; (conv => whnf); exact ⟨a.bytes, rfl, hK⟩)); (conv => whnf))
    repeat' (first | (first | ((with_reducible first | apply rd_intro | apply gd_and); (focus ((conv => whnf) <;> first | rfl | (intro K hK; (conv => whnf); first | exact hK | exact z_wrap (by omega) hK))); conv => whnf) | ((with_reducible apply z_wrap); (focus omega); conv => whnf) | ((with_reducible first | apply mt_dec | apply mt_eq | apply mt_ne | apply mt_not | apply mt_any) <;> (intro _; conv => whnf))) | ((with_reducible apply rd_intro); (focus (intro K hK; (conv => whnf); refine And.intro (by show _ ≤ (9223372036854775807 : Int); simp only [ByteArray.size_append, bw_size, csz, List.length_cons, List.length_nil]; omega) ?_; exact hK)); (conv => whnf)))
    (refine (hbyt).mono ?_; rintro _ _ ⟨rfl, rfl⟩; (conv => whnf))
    repeat' (first | (first | ((with_reducible first | apply rd_intro | apply gd_and); (focus ((conv => whnf) <;> first | rfl | (intro K hK; (conv => whnf); first | exact hK | exact z_wrap (by omega) hK))); conv => whnf) | ((with_reducible apply z_wrap); (focus omega); conv => whnf) | ((with_reducible first | apply mt_dec | apply mt_eq | apply mt_ne | apply mt_not | apply mt_any) <;> (intro _; conv => whnf))) | ((with_reducible apply rd_intro); (focus (intro K hK; (conv => whnf); refine And.intro (by show _ ≤ (9223372036854775807 : Int); simp only [ByteArray.size_append, bw_size, csz, List.length_cons, List.length_nil]; omega) ?_; exact hK)); (conv => whnf)))
    (refine (hs).mono ?_; rintro _ _ ⟨rfl, rfl⟩; (conv => whnf))
    refine rdw ?_; repeat' ((with_reducible apply tw) <;> intro _)
    · rename_i h
      exact fin_no pr h
    · rename_i h
      exact fin_yes pr h (by simp only [cbw, bw_app]; exact congrArg bw (by simp [lineOf, wordsOf, wordC, joinF, join_pk]))
  · rename_i hk
    have hs := rsameX (x := xK a) hm hq ha.fine.sized (nwP0 rfl) (nwB0 rfl)
    have pr := pr_form (f := (11, [99, 97, 108, 109], [107])) (by decide) hk.symm (on_K a) rfl
    ((with_reducible refine draw_pl ttOk zOk foOk mixedOk pl17x34 ?_ ?_); (focus kernel_rfl); (conv => whnf))
    repeat' (first | (first | ((with_reducible first | apply rd_intro | apply gd_and); (focus ((conv => whnf) <;> first | rfl | (intro K hK; (conv => whnf); first | exact hK | exact z_wrap (by omega) hK))); conv => whnf) | ((with_reducible apply z_wrap); (focus omega); conv => whnf) | ((with_reducible first | apply mt_dec | apply mt_eq | apply mt_ne | apply mt_not | apply mt_any) <;> (intro _; conv => whnf))) | ((with_reducible apply rd_intro); (focus (intro K hK; (conv => whnf); refine And.intro (by show _ ≤ (9223372036854775807 : Int); simp only [ByteArray.size_append, bw_size, csz, List.length_cons, List.length_nil]; omega) ?_; exact hK)); (conv => whnf)))
    (refine (hn).mono ?_; rintro _ _ ⟨rfl, rfl⟩; (conv => whnf))
    refine rdw ?_; repeat' ((with_reducible apply tw) <;> intro _)
    refine ⟨(by show _ ≤ (9223372036854775807 : Int); simp only [ByteArray.size_append, bw_size, csz, List.length_cons, List.length_nil]; omega), ?_⟩
    conv => whnf
    refine rdw ?_; repeat' ((with_reducible apply tw) <;> intro _)
    (refine (hs).mono ?_; rintro _ _ ⟨rfl, rfl⟩; (conv => whnf))
    refine rdw ?_; repeat' ((with_reducible apply tw) <;> intro _)
    · rename_i h
      exact fin_no pr h
    · rename_i h
      exact fin_yes pr h (by simp only [cbw, bw_app]; exact congrArg bw (by simp [lineOf, wordsOf, wordC, joinF, join_pk]))
  · rename_i n1 n2 n3 n4 n5 n6 n7 n8 n10 n11
    rw [pr_none fun f hf => by
      simp only [formsL, List.mem_cons, List.not_mem_nil, or_false] at hf
      rcases hf with rfl | rfl | rfl | rfl | rfl | rfl | rfl | rfl | rfl | rfl <;> exact fun h => absurd h.symm (by assumption)]
    exact ⟨rfl, rfl⟩
end Go.Proofs.YtkaepgfmpljlmaaDoor
