/- ScriptParsesCard: contracts. -/
import Derived.Test.YtkaepgfmpljlmaaDoorScriptParsesCardCodC
set_option linter.unusedVariables false
set_option linter.unusedSimpArgs false
namespace Go.Proofs.YtkaepgfmpljlmaaDoor
open Go.Ab Go.RowKit Go.Scr Go.Proofs
theorem rd_i64 {n : Int} (h2 : (Lit.int .i64 n).wf = true) : i64S n := by
  have hb : -9223372036854775808 ≤ n ∧ n ≤ 9223372036854775807 := by simpa [Lit.wf, IntKind.min, IntKind.max, IntKind.signed, IntKind.bits] using h2
  exact hb
theorem rd_nums {a : List DV} (h : ∃ xs, a = [DV.sl 1 xs] ∧ xs.length * 8 ≤ 140737488355328 ∧ ∀ x ∈ xs, ∃ n, x = [DV.int .i64 n] ∧ (Lit.int .i64 n).wf = true) : ∃ l : List Int, a = [.sl 1 (nums l)] ∧ few l ∧ ∀ n ∈ l, i64S n := by
  obtain ⟨xs, rfl, h1, h2⟩ := h
  obtain ⟨l, rfl, hl⟩ := map_of (f := fun n : Int => [.int .i64 n]) (ok := i64S) fun x hx => by
    obtain ⟨n, e, hw⟩ := h2 x hx
    exact ⟨n, e, rd_i64 hw⟩
  rw [List.length_map] at h1
  exact ⟨l, rfl, by unfold few; omega, hl⟩
theorem rd_hd (k : Nat) {ds : List DV} (h : DTy tt (k + 3) 31 ds) : ∃ c : Hd, ds = c.cs ∧ c.few := by
  replace h : DTyF (DTy tt (k + 2)) [3, 3, 24, 24] ds := h
  obtain ⟨a4, b4, rfl, h4, a5, b5, rfl, h5, a6, b6, rfl, h6, a7, b7, rfl, h7, rfl⟩ := h
  replace h4 : ∃ x, a4 = [.int .i64 x] ∧ (Lit.int .i64 x).wf = true := h4
  replace h5 : ∃ x, a5 = [.int .i64 x] ∧ (Lit.int .i64 x).wf = true := h5
  obtain ⟨l6, rfl, f6, e6⟩ := rd_nums h6
  obtain ⟨l7, rfl, f7, e7⟩ := rd_nums h7
  obtain ⟨x4, rfl, w4⟩ := h4
  obtain ⟨x5, rfl, w5⟩ := h5
  exact ⟨⟨x4, x5, l6, l7⟩, rfl, f6, f7⟩
theorem rd_txs (k : Nat) {a : List DV} (h : DTy tt (k + 3) 27 a) : ∃ l : List Tx, a = [.sl 4 (txsD l)] ∧ few l ∧ ∀ t ∈ l, t.key.size ≤ 140737488355328 ∧ t.val.size ≤ 140737488355328 := by
  replace h : ∃ xs, a = [.sl 4 xs] ∧ xs.length * 48 ≤ 140737488355328 ∧ ∀ x ∈ xs, DTy tt (k + 2) 26 x := h
  obtain ⟨x3, rfl, w3, e3⟩ := h
  obtain ⟨l, rfl, hl⟩ := map_of (f := Tx.cs) (ok := fun t => t.key.size ≤ 140737488355328 ∧ t.val.size ≤ 140737488355328) (xs := x3) fun x hx => by
    have h := e3 x hx
    replace h : DTyF (DTy tt (k + 1)) [3, 3, 9, 9] x := h
    obtain ⟨a1, b1, rfl, h1, a2, b2, rfl, h2, a3, b3, rfl, h3, a4, b4, rfl, h4, rfl⟩ := h
    replace h1 : ∃ x, a1 = [.int .i64 x] ∧ (Lit.int .i64 x).wf = true := h1
    replace h2 : ∃ x, a2 = [.int .i64 x] ∧ (Lit.int .i64 x).wf = true := h2
    replace h3 : ∃ s, a3 = [.str s] ∧ s.size ≤ 140737488355328 := h3
    replace h4 : ∃ s, a4 = [.str s] ∧ s.size ≤ 140737488355328 := h4
    obtain ⟨x1, rfl, _⟩ := h1
    obtain ⟨x2, rfl, _⟩ := h2
    obtain ⟨x3, rfl, w3⟩ := h3
    obtain ⟨x4, rfl, w4⟩ := h4
    exact ⟨⟨x1, x2, x3, x4⟩, rfl, w3, w4⟩
  simp only [List.length_map] at w3
  exact ⟨l, rfl, by unfold few; omega, hl⟩
theorem rd_msg (k : Nat) {ds : List DV} (h : DTy tt (k + 5) 35 ds) : ∃ m : Msg, ds = m.cs ∧ m.few ∧ ∀ t ∈ m.txs, t.key.size ≤ 140737488355328 ∧ t.val.size ≤ 140737488355328 := by
  replace h : DTyF (DTy tt (k + 4)) [3, 3, 3, 3, 29, 31, 33, 24] ds := h
  obtain ⟨a1, b1, rfl, h1, a2, b2, rfl, h2, a3, b3, rfl, h3, a4, b4, rfl, h4, a5, b5, rfl, h5, a6, b6, rfl, h6, a7, b7, rfl, h7, a8, b8, rfl, h8, rfl⟩ := h
  replace h1 : ∃ x, a1 = [.int .i64 x] ∧ (Lit.int .i64 x).wf = true := h1
  replace h2 : ∃ x, a2 = [.int .i64 x] ∧ (Lit.int .i64 x).wf = true := h2
  replace h3 : ∃ x, a3 = [.int .i64 x] ∧ (Lit.int .i64 x).wf = true := h3
  replace h4 : ∃ x, a4 = [.int .i64 x] ∧ (Lit.int .i64 x).wf = true := h4
  replace h5 : DTyF (DTy tt (k + 3)) [3, 3, 27] a5 := h5
  replace h7 : DTyF (DTy tt (k + 3)) [31, 3, 24] a7 := h7
  obtain ⟨c1, d1, rfl, g1, c2, d2, rfl, g2, c3, d3, rfl, g3, rfl⟩ := h5
  obtain ⟨e1, f1, rfl, i1, e2, f2, rfl, i2, e3, f3, rfl, i3, rfl⟩ := h7
  replace g1 : ∃ x, c1 = [.int .i64 x] ∧ (Lit.int .i64 x).wf = true := g1
  replace g2 : ∃ x, c2 = [.int .i64 x] ∧ (Lit.int .i64 x).wf = true := g2
  replace i2 : ∃ x, e2 = [.int .i64 x] ∧ (Lit.int .i64 x).wf = true := i2
  obtain ⟨x1, rfl, _⟩ := h1
  obtain ⟨x2, rfl, _⟩ := h2
  obtain ⟨x3, rfl, _⟩ := h3
  obtain ⟨x4, rfl, _⟩ := h4
  obtain ⟨y1, rfl, _⟩ := g1
  obtain ⟨y2, rfl, _⟩ := g2
  obtain ⟨l, rfl, fl, hl⟩ := rd_txs k g3
  obtain ⟨hh, rfl, fh⟩ := rd_hd (k + 1) h6
  obtain ⟨ch, rfl, fc⟩ := rd_hd k i1
  obtain ⟨z2, rfl, _⟩ := i2
  obtain ⟨sg, rfl, fs, _⟩ := rd_nums i3
  obtain ⟨dg, rfl, fd, _⟩ := rd_nums h8
  exact ⟨⟨x1, x2, x3, x4, y1, y2, l, hh, ch, z2, sg, dg⟩, by simp [Msg.cs, Hd.cs], ⟨fl, fh, fc, fs, fd⟩, hl⟩
theorem bw_of (s : ByteArray) : s = bw s.data.toList := rfl
theorem rd_act {ds : List DV} (h : DTy tt 7 38 ds) : ∃ (a : Sa) (m : Msg), ds = actD a m ∧ Sa.sized a ∧ m.few ∧ a.quiet = m.zero ∧ ∀ t ∈ m.txs, t.key.size ≤ 140737488355328 ∧ t.val.size ≤ 140737488355328 := by
  replace h : DTyF (DTy tt 6) [3, 3, 3, 3, 24, 26, 35, 36] ds := h
  obtain ⟨a1, b1, rfl, h1, a2, b2, rfl, h2, a3, b3, rfl, h3, a4, b4, rfl, h4, a5, b5, rfl, h5, a6, b6, rfl, h6, a7, b7, rfl, h7, a8, b8, rfl, h8, rfl⟩ := h
  replace h1 : ∃ x, a1 = [.int .i64 x] ∧ (Lit.int .i64 x).wf = true := h1
  replace h2 : ∃ x, a2 = [.int .i64 x] ∧ (Lit.int .i64 x).wf = true := h2
  replace h3 : ∃ x, a3 = [.int .i64 x] ∧ (Lit.int .i64 x).wf = true := h3
  replace h4 : ∃ x, a4 = [.int .i64 x] ∧ (Lit.int .i64 x).wf = true := h4
  obtain ⟨x1, rfl, w1⟩ := h1
  obtain ⟨x2, rfl, w2⟩ := h2
  obtain ⟨x3, rfl, w3⟩ := h3
  obtain ⟨x4, rfl, w4⟩ := h4
  obtain ⟨pk, rfl, fp, ep⟩ := rd_nums h5
  replace h6 : DTyF (DTy tt 5) [3, 3, 9, 9] a6 := h6
  obtain ⟨c1, d1, rfl, g1, c2, d2, rfl, g2, c3, d3, rfl, g3, c4, d4, rfl, g4, rfl⟩ := h6
  replace g1 : ∃ x, c1 = [.int .i64 x] ∧ (Lit.int .i64 x).wf = true := g1
  replace g2 : ∃ x, c2 = [.int .i64 x] ∧ (Lit.int .i64 x).wf = true := g2
  replace g3 : ∃ s, c3 = [.str s] ∧ s.size ≤ 140737488355328 := g3
  replace g4 : ∃ s, c4 = [.str s] ∧ s.size ≤ 140737488355328 := g4
  obtain ⟨y1, rfl, v1⟩ := g1
  obtain ⟨y2, rfl, v2⟩ := g2
  obtain ⟨y3, rfl, v3⟩ := g3
  obtain ⟨y4, rfl, v4⟩ := g4
  obtain ⟨m, rfl, fm, ht⟩ := rd_msg 1 h7
  replace h8 : ∃ xs, a8 = [.sl 1 xs] ∧ xs.length * 1 ≤ 140737488355328 ∧ ∀ x ∈ xs, ∃ n, x = [DV.int .u8 n] ∧ (Lit.int .u8 n).wf = true := h8
  obtain ⟨xs, rfl, w8, e8⟩ := h8
  obtain ⟨bs, rfl⟩ := u8_of e8
  rw [u8s_length] at w8
  exact ⟨⟨x1, x2, x3, x4, y1, y2, y3.data.toList, y4.data.toList, bs, pk, m.zero⟩, m, by simp [actD, ← bw_of], ⟨⟨rd_i64 w2, rd_i64 w3, rd_i64 w4, rd_i64 v1, rd_i64 v2, ep⟩, fp, v3, v4, by show bs.length ≤ 140737488355328; omega⟩, fm, rfl, ht⟩
def Ask.okT (q : Ask) : Prop := q.ok ∧ ∀ t ∈ q.m.txs, t.key.size ≤ 140737488355328 ∧ t.val.size ≤ 140737488355328
theorem rd_asks {ds : List DV} (h : DTy tt 9 22 ds) : ∃ l : List Ask, arg1 ds = .d (.sl 29 (asksD l)) ∧ few l ∧ ∀ q ∈ l, q.okT := by
  replace h : ∃ xs, ds = [.sl 29 xs] ∧ xs.length * 400 ≤ 140737488355328 ∧ ∀ x ∈ xs, DTy tt 8 40 x := h
  obtain ⟨xs, rfl, h1, h2⟩ := h
  obtain ⟨l, rfl, hl⟩ := map_of (f := Ask.cs) (ok := Ask.okT) fun x hx => by
    have h3 : DTyF (DTy tt 7) [38, 9] x := h2 x hx
    obtain ⟨a1, b1, rfl, h4, a2, b2, rfl, h5, rfl⟩ := h3
    obtain ⟨a, m, rfl, k1, k2, k3, k4⟩ := rd_act h4
    replace h5 : ∃ s, a2 = [.str s] ∧ s.size ≤ 140737488355328 := h5
    obtain ⟨s, rfl, k5⟩ := h5
    exact ⟨⟨a, m, s⟩, by simp [Ask.cs], ⟨k1, k2, k3, k5⟩, k4⟩
  rw [List.length_map] at h1
  refine ⟨l, rfl, ?_, hl⟩
  unfold few
  omega
end Go.Proofs.YtkaepgfmpljlmaaDoor
namespace Go.Proofs.YtkaepgfmpljlmaaDoor
open Go.Ab Go.RowKit Go.Scr Go.Proofs
attribute [local irreducible] ACalls AW ADraw Into fltB fnear
set_option maxRecDepth 100000
theorem txW_ok (l : List Tx) (hl : few l) (hk : ∀ t ∈ l, t.key.size ≤ 140737488355328 ∧ t.val.size ≤ 140737488355328) : ACalls Tryd.prog 19 [.d (.sl 4 (txsD l))] [] (fun av L => (∃ n : Int, av = .d (.int .i64 n) ∧ 0 ≤ n ∧ n ≤ 562949953421312 ∧ ∀ t, l = [t] → t.key.size + t.val.size ≤ n) ∧ L = []) := by
  have hcl := txsD_length l
  unfold few at hl
  (refine acalls_go ttOk zOk foOk Tryd.func19 rfl Tryd.ntmps19 rfl false rfl ?_); (conv => whnf)
  refine loop_go2 ttOk zOk foOk (σ := Int) (ρ := Nat) (fun w j => ([(0, .d (.sl 4 (txsD l))), (3, .d (.int .i64 w)), (4, .d (.int .i64 j))], [])) (fun w j => j ≤ l.length ∧ 0 ≤ w ∧ w ≤ 562949953421312 ∧ (j = 0 → w = l.length) ∧ (0 < j → ∀ t, l[0]? = some t → t.key.size + t.val.size ≤ w)) (fun _ j => l.length - j) [0, 3, 4] ?_ ?_
  · conv => whnf
    exact ⟨l.length, 0, by rw [hcl]; rfl, rfl, by omega, by omega, by omega, fun _ => rfl, fun h => absurd h (Nat.lt_irrefl 0)⟩
  · rintro w j ⟨hj, hw1, hw2, hw3, hw4⟩
    conv => whnf
    rw [hcl]
    refine rdw ?_; repeat' ((with_reducible apply tw) <;> intro _)
    · rename_i hjl hwl
      replace hwl : w < 1048576 := hwl
      refine Exists.elim (⟨_, List.getElem?_eq_getElem (by omega)⟩ : ∃ c, l[j]? = some c) fun c hc => ?_
      have hcx := hk c (List.mem_of_getElem? hc)
      have hk1 := hcx.1
      have hk2 := hcx.2
      ((with_reducible refine draw_pl ttOk zOk foOk mixedOk pl19x5 ?_ ?_); (focus kernel_rfl); (conv => whnf))
      repeat' (first | ((with_reducible apply rd_intro); (focus (intro K hK; (conv => whnf); exact ix_map hc (by first | rfl | omega) hK)); (conv => whnf)) | (first | ((with_reducible first | apply rd_intro | apply gd_and); (focus ((conv => whnf) <;> first | rfl | (intro K hK; (conv => whnf); first | exact hK | exact z_wrap (by omega) hK))); conv => whnf) | ((with_reducible apply z_wrap); (focus omega); conv => whnf) | ((with_reducible first | apply mt_dec | apply mt_eq | apply mt_ne | apply mt_not | apply mt_any) <;> (intro _; conv => whnf))))
      refine ⟨_, j + 1, rfl, rfl, ⟨by omega, by omega, by omega, fun h => absurd h (Nat.succ_ne_zero j), fun _ t ht => ?_⟩, by omega⟩
      cases j with
      | zero =>
        rw [hc] at ht
        cases ht
        omega
      | succ j =>
        have := hw4 (Nat.succ_pos j) t ht
        omega
    · rename_i hjl hwl
      replace hwl : ¬ w < 1048576 := hwl
      refine ⟨⟨_, rfl, hw1, hw2, fun t e => ?_⟩, rfl⟩
      subst e
      rcases Nat.eq_zero_or_pos j with h0 | h0
      · have := hw3 h0
        simp only [List.length_cons, List.length_nil] at this
        omega
      · exact hw4 h0 t rfl
    · rename_i hjl
      refine ⟨⟨_, rfl, hw1, hw2, fun t e => ?_⟩, rfl⟩
      subst e
      refine hw4 ?_ t rfl
      simp only [List.length_cons, List.length_nil] at hjl
      omega
theorem headW_ok (c : Hd) (h : c.few) : ACalls Tryd.prog 35 [mAv c.cs] [] (fun av L => av = .d (.int .i64 (1 + c.bats.length + c.pars.length)) ∧ L = []) := by
  have h1 := h.bats
  have h2 := h.pars
  unfold few at h1 h2
  have e1 := nums_length c.bats
  have e2 := nums_length c.pars
  (refine acalls_go ttOk zOk foOk Tryd.func35 rfl Tryd.ntmps35 rfl false rfl ?_); (conv => whnf)
  rw [e1]
  refine rdw ?_; repeat' ((with_reducible apply tw) <;> intro _)
  rw [e2]
  refine rdw ?_; repeat' ((with_reducible apply tw) <;> intro _)
  exact ⟨rfl, rfl⟩
theorem certW_ok (c : Hd) (h : c.few) (d : Int) (sg : List Int) (hs : few sg) : ACalls Tryd.prog 36 [cAv c d sg] [] (fun av L => av = .d (.int .i64 (1 + c.bats.length + c.pars.length + sg.length)) ∧ L = []) := by
  have h1 := h.bats
  have h2 := h.pars
  unfold few at h1 h2 hs
  have e3 := nums_length sg
  (refine acalls_go ttOk zOk foOk Tryd.func36 rfl Tryd.ntmps36 rfl false rfl ?_); (conv => whnf)
  ((with_reducible refine draw_pl ttOk zOk foOk mixedOk pl36x1 ?_ ?_); (focus kernel_rfl); (conv => whnf))
  refine rdw ?_; repeat' ((with_reducible apply tw) <;> intro _)
  refine (headW_ok c h).mono ?_
  rintro _ _ ⟨rfl, rfl⟩
  conv => whnf
  refine rdw ?_; repeat' ((with_reducible apply tw) <;> intro _)
  rw [e3]
  refine rdw ?_; repeat' ((with_reducible apply tw) <;> intro _)
  exact ⟨rfl, rfl⟩
theorem msgW_ok (m : Msg) (h : m.few) (hk : ∀ t ∈ m.txs, t.key.size ≤ 140737488355328 ∧ t.val.size ≤ 140737488355328) : ACalls Tryd.prog 20 [mAv m.cs] [] (fun av L => (∃ n : Int, av = .d (.int .i64 n)) ∧ L = []) := by
  have h1 := txW_ok m.txs h.txs hk
  have h2 := headW_ok m.head h.head
  have h3 := certW_ok m.chead h.chead m.cdig m.sigs h.sigs
  have l7 := nums_length m.digs
  have f1 := h.head.bats
  have f2 := h.head.pars
  have f3 := h.chead.bats
  have f4 := h.chead.pars
  have f5 := h.sigs
  have f6 := h.digs
  unfold few at f1 f2 f3 f4 f5 f6
  (refine acalls_go ttOk zOk foOk Tryd.func20 rfl Tryd.ntmps20 rfl false rfl ?_); (conv => whnf)
  ((with_reducible refine draw_pl ttOk zOk foOk mixedOk pl20x1 ?_ ?_); (focus kernel_rfl); (conv => whnf))
  refine rdw ?_; repeat' ((with_reducible apply tw) <;> intro _)
  refine h1.mono ?_
  rintro _ _ ⟨⟨n, rfl, hn1, hn2, -⟩, rfl⟩
  conv => whnf
  refine rdw ?_; repeat' ((with_reducible apply tw) <;> intro _)
  refine h2.mono ?_
  rintro _ _ ⟨rfl, rfl⟩
  conv => whnf
  refine rdw ?_; repeat' ((with_reducible apply tw) <;> intro _)
  refine h3.mono ?_
  rintro _ _ ⟨rfl, rfl⟩
  conv => whnf
  refine rdw ?_; repeat' ((with_reducible apply tw) <;> intro _)
  rw [l7]
  refine rdw ?_; repeat' ((with_reducible apply tw) <;> intro _)
  exact ⟨⟨_, rfl⟩, rfl⟩
structure Sa.small (a : Sa) : Prop where
  fit : a.fit
  picks : a.picks.length ≤ 100
  key : a.key.length ≤ 500
  val : a.val.length ≤ 500
  bytes : a.bytes.length ≤ 500
theorem Sa.fine.sized {a : Sa} (h : Sa.fine a) : Sa.sized a := ⟨h.fit, Nat.le_trans h.picks (by decide), Nat.le_trans h.key (by decide), Nat.le_trans h.val (by decide), Nat.le_trans h.bytes (by decide)⟩
def Ask.tx (q : Ask) : Tx := ⟨q.a.sender, q.a.seq, bw q.a.key, bw q.a.val⟩
theorem heavy_ok (q : Ask) (ho : q.okT) : ACalls Tryd.prog 8 [mAv q.cs] [] (fun av L => (∃ b : Bool, av = .d (.bool b) ∧ (b = false → Sa.small q.a ∧ q.s.size ≤ 2000)) ∧ L = []) := by
  have h1 := txW_ok [q.tx] (show (1 : Nat) ≤ 140737488355328 by decide) (fun t ht => by simp only [List.mem_cons, List.not_mem_nil, or_false] at ht; subst ht; exact ⟨ho.1.a.key, ho.1.a.val⟩)
  have h2 := msgW_ok q.m ho.1.m ho.2
  have l1 := nums_length q.a.picks
  have l2 := u8s_length q.a.bytes
  have f1 := ho.1.a.picks
  have f2 := ho.1.a.bytes
  have f3 := ho.1.s
  unfold few at f1
  (refine acalls_go ttOk zOk foOk Tryd.func8 rfl Tryd.ntmps8 rfl false rfl ?_); (conv => whnf)
  refine rdw ?_; repeat' ((with_reducible apply tw) <;> intro _)
  · exact ⟨⟨_, rfl, fun h => by cases h⟩, rfl⟩
  · exact ⟨⟨_, rfl, fun h => by cases h⟩, rfl⟩
  · exact ⟨⟨_, rfl, fun h => by cases h⟩, rfl⟩
  · rename_i k1 k2 k3
    replace k1 : ¬ (q.s.size : Int) > 2000 := k1
    replace k2 : ¬ ((nums q.a.picks).length : Int) > 100 := k2
    replace k3 : ¬ ((u8s q.a.bytes).length : Int) > 500 := k3
    (refine Or.inl ?_; (conv => whnf))
    refine h1.mono ?_
    rintro _ _ ⟨⟨n, rfl, hn1, hn2, hn3⟩, rfl⟩
    have hn4 : ((q.a.key.length + q.a.val.length : Nat) : Int) ≤ n := by
      have := hn3 q.tx rfl
      have e1 : q.tx.key.size = q.a.key.length := rfl
      have e2 : q.tx.val.size = q.a.val.length := rfl
      omega
    conv => whnf
    refine rdw ?_; repeat' ((with_reducible apply tw) <;> intro _)
    · exact ⟨⟨_, rfl, fun h => by cases h⟩, rfl⟩
    · rename_i k4
      replace k4 : ¬ n > 500 := k4
      refine h2.mono ?_
      rintro _ _ ⟨⟨n2, rfl⟩, rfl⟩
      conv => whnf
      refine rdw ?_; repeat' ((with_reducible apply tw) <;> intro _)
      exact ⟨⟨_, rfl, fun _ => ⟨⟨ho.1.a.fit, by omega, by omega, by omega, by omega⟩, by omega⟩⟩, rfl⟩
def sameB (a b : Sa) : Bool := decide (a.kind = b.kind) && (decide (a.node = b.node) && (decide (a.peer = b.peer) && (decide (a.n = b.n) && (decide (a.sender = b.sender ∧ a.seq = b.seq ∧ a.key = b.key ∧ a.val = b.val) && (decide (a.picks = b.picks) && (decide (a.bytes = b.bytes) && b.quiet))))))
theorem sameB_iff (a b : Sa) : sameB a b = true ↔ a.kind = b.kind ∧ a.node = b.node ∧ a.peer = b.peer ∧ a.n = b.n ∧ (a.sender = b.sender ∧ a.seq = b.seq ∧ a.key = b.key ∧ a.val = b.val) ∧ a.picks = b.picks ∧ a.bytes = b.bytes ∧ b.quiet = true := by
  simp only [sameB, Bool.and_eq_true, decide_eq_true_iff]
theorem bw_eq (v w : W) : ((bw v).toList == (bw w).toList) = true ↔ v = w := by
  rw [ByteArray.toList_eq, ByteArray.toList_eq, beq_iff_eq]
  exact Iff.rfl
theorem tx_iff (a b : Sa) : (a.sender == b.sender && (a.seq == b.seq && ((bw a.key).toList == (bw b.key).toList && ((bw a.val).toList == (bw b.val).toList && true)))) = true ↔ a.sender = b.sender ∧ a.seq = b.seq ∧ a.key = b.key ∧ a.val = b.val := by
  rw [← bw_eq a.key, ← bw_eq a.val]
  simp only [Bool.and_eq_true, beq_iff_eq, and_true]
theorem same_ok (a b : Sa) (m : Msg) (hm : m.few) (hq : b.quiet = m.zero) (ha : Sa.sized a) : ACalls Tryd.prog 28 [actA a msg0, actA b m] [] (fun av L => av = .d (.bool (sameB a b)) ∧ L = []) := by
  have e1 := eqNumbers_ok a.picks b.picks ha.picks
  have e2 := eqMsg0 m hm true
  have e3 := eqBytes_ok a.bytes b.bytes ha.bytes
  have stop : ∀ {p : Prop}, (sameB a b = true → p) → (¬ p) → (AV.d (.bool false) = AV.d (.bool (sameB a b)) ∧ ([] : List AB) = []) := fun h k => ⟨boolEq ⟨fun h => (by cases h), fun h2 => absurd (h h2) k⟩, rfl⟩
  (refine acalls_go ttOk zOk foOk Tryd.func28 rfl Tryd.ntmps28 rfl false rfl ?_); (conv => whnf)
  repeat' (first | (first | ((with_reducible first | apply rd_intro | apply gd_and); (focus ((conv => whnf) <;> first | rfl | (intro K hK; (conv => whnf); first | exact hK | exact z_wrap (by omega) hK))); conv => whnf) | ((with_reducible apply z_wrap); (focus omega); conv => whnf) | ((with_reducible first | apply mt_dec | apply mt_eq | apply mt_ne | apply mt_not | apply mt_any) <;> (intro _; conv => whnf))) | (refine And.intro (show eqOkB _ _ _ = true by kernel_rfl) ?_; (conv => whnf)) | fail)
  · rename_i k1 k2 k3 k4 k5
    refine e1.mono ?_
    rintro _ _ ⟨rfl, rfl⟩
    conv => whnf
    refine rdw ?_; repeat' ((with_reducible apply tw) <;> intro _)
    · rename_i k6
      refine e2.mono ?_
      rintro _ _ ⟨rfl, rfl⟩
      conv => whnf
      refine rdw ?_; repeat' ((with_reducible apply tw) <;> intro _)
      · rename_i k7
        refine e3.mono ?_
        rintro _ _ ⟨rfl, rfl⟩
        conv => whnf
        refine ⟨boolEq ?_, rfl⟩
        rw [sameB_iff, beq_iff_eq]
        exact ⟨fun h => ⟨k1, k2, k3, k4, (tx_iff a b).1 k5, k6, h, hq.trans k7⟩, fun h => h.2.2.2.2.2.2.1⟩
      · rename_i k7
        exact stop (p := m.zero = true) (fun h => by rw [← hq]; exact ((sameB_iff a b).1 h).2.2.2.2.2.2.2) (by rw [k7]; decide)
    · rename_i k6
      exact stop (fun h => ((sameB_iff a b).1 h).2.2.2.2.2.1) k6
  · rename_i k1 k2 k3 k4 k5
    exact stop (fun h => (tx_iff a b).2 ((sameB_iff a b).1 h).2.2.2.2.1) (by rw [k5]; decide)
  · rename_i k
    exact stop (fun h => ((sameB_iff a b).1 h).2.2.2.1) k
  · rename_i k
    exact stop (fun h => ((sameB_iff a b).1 h).2.2.1) k
  · rename_i k
    exact stop (fun h => ((sameB_iff a b).1 h).2.1) k
  · rename_i k
    exact stop (fun h => ((sameB_iff a b).1 h).1) k
theorem Same_ok (a b : Sa) (m : Msg) (hm : m.few) (hq : b.quiet = m.zero) (ha : Sa.sized a) : ACalls Tryd.prog 12 [actA a msg0, actA b m] [] (fun av L => av = .d (.bool (sameB a b)) ∧ L = []) := by
  have h := same_ok a b m hm hq ha
  (refine acalls_go ttOk zOk foOk Tryd.func12 rfl Tryd.ntmps12 rfl false rfl ?_); (conv => whnf)
  refine rdw ?_; repeat' ((with_reducible apply tw) <;> intro _)
  (refine (h).mono ?_; rintro _ _ ⟨rfl, rfl⟩; (conv => whnf))
  refine rdw ?_; repeat' ((with_reducible apply tw) <;> intro _)
  exact ⟨rfl, rfl⟩
theorem wordC_sub {c : UInt8} {a : Sa} : ∀ {has : W}, c ∈ has → (∀ w ∈ wordC c a, w ∈ wordsOf has a) ∧ (wordC c a).length ≤ (wordsOf has a).length
  | d :: t, h => by
    have e : wordsOf (d :: t) a = wordC d a ++ wordsOf t a := rfl
    rw [e, List.length_append]
    rcases List.mem_cons.1 h with rfl | h
    · exact ⟨fun w hw => List.mem_append_left _ hw, Nat.le_add_right _ _⟩
    · obtain ⟨i1, i2⟩ := wordC_sub (c := c) (a := a) h
      exact ⟨fun w hw => List.mem_append_right _ (i1 w hw), Nat.le_trans i2 (Nat.le_add_left _ _)⟩
theorem hexW_ge (b : W) : b.length ≤ (hexW b).length := by
  unfold hexW
  split
  · rename_i h; rw [h]; simp
  · rw [hexL_len]; omega
theorem parse_fine {s : W} {a : Sa} (h : parseS s = some a) (hs : s.length ≤ 900000) : Sa.fine a ∧ a.quiet = true ∧ printS a = some s := by
  obtain ⟨hp, hfit, hq⟩ := parse_print h
  obtain ⟨f, hf, hk, ho, e⟩ := print_at hp
  obtain ⟨-, -, -, o4, o5, o6, -⟩ := only_at ho
  have hw := (line_words hf a).1
  rw [← e] at hw
  have each := words_each s
  have cnt := words_count s
  rw [hw] at each cnt
  have each2 : ∀ w ∈ wordsOf f.2.2 a, w.length ≤ s.length := fun w hw => each w (List.mem_cons_of_mem _ hw)
  simp only [List.length_cons] at cnt
  refine ⟨⟨hfit, ?_, ?_, ?_, ?_⟩, hq, hp⟩
  · rcases o6 with o | o
    · have := (wordC_sub (a := a) o).2
      have e2 : (wordC 108 a).length = a.picks.length := List.length_map ..
      omega
    · rw [o]; exact Nat.zero_le _
  · rcases o4 with o | o
    · have h1 := each2 _ ((wordC_sub (a := a) o).1 (hexW a.key) (by simp [wordC]))
      have h2 := hexW_ge a.key
      omega
    · rw [o.2.2.1]; exact Nat.zero_le _
  · rcases o4 with o | o
    · have h1 := each2 _ ((wordC_sub (a := a) o).1 (hexW a.val) (by simp [wordC]))
      have h2 := hexW_ge a.val
      omega
    · rw [o.2.2.2]; exact Nat.zero_le _
  · rcases o5 with o | o
    · have h1 := each2 _ ((wordC_sub (a := a) o).1 (hexW a.bytes) (by simp [wordC]))
      have h2 := hexW_ge a.bytes
      omega
    · rw [o]; exact Nat.zero_le _
theorem z_wrapU {e : Int} {B : Int → Prop} (he : 0 ≤ e ∧ e ≤ 18446744073709551615) (h : B e) : ∀ z, z = IntKind.u64.wrap e → B z := fun z hz => by
  rw [hz, IntKind.wrap_u64, Int.emod_eq_of_lt he.1 (by omega)]
  exact h
theorem wrap8 {e : Int} (he : 0 ≤ e ∧ e ≤ 255) : IntKind.u8.wrap e = e := by rw [IntKind.wrap_u8, Int.emod_eq_of_lt he.1 (by omega)]
theorem z_wrap8 {e : Int} {B : Int → Prop} (he : 0 ≤ e ∧ e ≤ 255) (h : B e) : ∀ z, z = IntKind.u8.wrap e → B z := fun z hz => by
  rw [hz, wrap8 he]
  exact h
def dgSt (u : Nat) (s : W) : AF × List AB := ([(5, .d (.int .u64 (u : Int))), (6, .d (.str (bw s)))], [])
theorem dec_len {u : Nat} (h : u ≤ 9223372036854775808) : (Lib.decDigits u).length ≤ 19 := by
  have := nDigits_19 h
  rw [Lib.decDigits_length]
  exact this
theorem bw_at {s : W} {k : Nat} {c : UInt8} (h : s[k]? = some c) : (bw s)[k]? = some c := by
  obtain ⟨hlt, rfl⟩ := List.getElem?_eq_some_iff.1 h
  have h2 : k < (bw s).size := hlt
  rw [getElem?_pos (bw s) k h2]
  rfl
theorem digits_ok (u m : Nat) (h : u + m ≤ 9223372036854775808) : ACalls Tryd.prog 52 [.d (.int .i64 (u : Int)), .d (.int .i64 (m : Int))] [] (fun av L => av = .d (.str (bw (Lib.decDigits (u + m)))) ∧ L = []) := by
  have hd := dec_len h
  (refine acalls_go ttOk zOk foOk Tryd.func52 rfl Tryd.ntmps52 rfl false rfl ?_); (conv => whnf)
  repeat' (first | ((with_reducible apply z_wrapU); (focus omega); (conv => whnf)) | (first | ((with_reducible first | apply rd_intro | apply gd_and); (focus ((conv => whnf) <;> first | rfl | (intro K hK; (conv => whnf); first | exact hK | exact z_wrap (by omega) hK))); conv => whnf) | ((with_reducible apply z_wrap); (focus omega); conv => whnf) | ((with_reducible first | apply mt_dec | apply mt_eq | apply mt_ne | apply mt_not | apply mt_any) <;> (intro _; conv => whnf))))
  · rename_i h0
    have : u + m = 0 := by omega
    rw [this, dec_zero]
    exact ⟨rfl, rfl⟩
  · rename_i h0
    have hpos : 0 < u + m := by omega
    refine loop_go2 ttOk zOk foOk (σ := Nat) (ρ := W) dgSt (fun v s => v ≤ u + m ∧ digL v ++ s = Lib.decDigits (u + m)) (fun v _ => v) [5, 6] ?_ ?_
    · conv => whnf
      refine ⟨u + m, [], rfl, rfl, Nat.le_refl _, ?_⟩
      rw [digL_pos hpos, List.append_nil]
    · rintro v s ⟨hv, hvs⟩
      have hsl : s.length ≤ 19 := by
        have := congrArg List.length hvs
        rw [List.length_append] at this
        omega
      conv => whnf
      repeat' (first | ((with_reducible apply z_wrapU); (focus omega); (conv => whnf)) | (first | ((with_reducible first | apply rd_intro | apply gd_and); (focus ((conv => whnf) <;> first | rfl | (intro K hK; (conv => whnf); first | exact hK | exact z_wrap (by omega) hK))); conv => whnf) | ((with_reducible apply z_wrap); (focus omega); conv => whnf) | ((with_reducible first | apply mt_dec | apply mt_eq | apply mt_ne | apply mt_not | apply mt_any) <;> (intro _; conv => whnf))))
      · rename_i h0
        refine ⟨by decide, ?_⟩
        conv => whnf
        intro z hz
        have hz2 : z = ((v % 10 : Nat) : Int) := hz
        subst hz2
        clear hz
        conv => whnf
        repeat' (first | ((with_reducible apply z_wrapU); (focus omega); (conv => whnf)) | ((with_reducible apply z_wrap8); (focus omega); (conv => whnf)) | (first | ((with_reducible first | apply rd_intro | apply gd_and); (focus ((conv => whnf) <;> first | rfl | (intro K hK; (conv => whnf); first | exact hK | exact z_wrap (by omega) hK))); conv => whnf) | ((with_reducible apply z_wrap); (focus omega); conv => whnf) | ((with_reducible first | apply mt_dec | apply mt_eq | apply mt_ne | apply mt_not | apply mt_any) <;> (intro _; conv => whnf))))
        refine ⟨[UInt8.ofNat (48 + v % 10)], ?_, ?_⟩
        · show _ = [[DV.int .u8 (((UInt8.ofNat (48 + v % 10)).toNat : Nat) : Int)]]
          have e : (UInt8.ofNat (48 + v % 10)).toNat = 48 + v % 10 := by rw [UInt8.toNat_ofNat']; omega
          rw [e]
          rfl
        conv => whnf
        refine ⟨by show ((1 + s.length : Nat) : Int) ≤ 9223372036854775807; omega, ?_⟩
        conv => whnf
        repeat' (first | ((with_reducible apply z_wrapU); (focus omega); (conv => whnf)) | ((with_reducible apply z_wrap8); (focus omega); (conv => whnf)) | (first | ((with_reducible first | apply rd_intro | apply gd_and); (focus ((conv => whnf) <;> first | rfl | (intro K hK; (conv => whnf); first | exact hK | exact z_wrap (by omega) hK))); conv => whnf) | ((with_reducible apply z_wrap); (focus omega); conv => whnf) | ((with_reducible first | apply mt_dec | apply mt_eq | apply mt_ne | apply mt_not | apply mt_any) <;> (intro _; conv => whnf))))
        refine ⟨by decide, ?_⟩
        conv => whnf
        intro z hz
        have hz2 : z = ((v / 10 : Nat) : Int) := by
          rw [hz, show ((v : Nat) : Int).tdiv 10 = ((v / 10 : Nat) : Int) from rfl, IntKind.wrap_u64, Int.emod_eq_of_lt (by omega) (by omega)]
        subst hz2
        clear hz
        conv => whnf
        repeat' (first | ((with_reducible apply z_wrapU); (focus omega); (conv => whnf)) | ((with_reducible apply z_wrap8); (focus omega); (conv => whnf)) | (first | ((with_reducible first | apply rd_intro | apply gd_and); (focus ((conv => whnf) <;> first | rfl | (intro K hK; (conv => whnf); first | exact hK | exact z_wrap (by omega) hK))); conv => whnf) | ((with_reducible apply z_wrap); (focus omega); conv => whnf) | ((with_reducible first | apply mt_dec | apply mt_eq | apply mt_ne | apply mt_not | apply mt_any) <;> (intro _; conv => whnf))))
        refine ⟨v / 10, UInt8.ofNat (48 + v % 10) :: s, ?_, rfl, ⟨by omega, ?_⟩, by omega⟩
        · rw [show (⟨#[UInt8.ofNat (48 + v % 10)]⟩ : ByteArray) ++ bw s = bw (UInt8.ofNat (48 + v % 10) :: s) from bw_app [UInt8.ofNat (48 + v % 10)] s]
          rfl
        · rw [← hvs, digL_step (u := v) (by omega), List.append_assoc]
          rfl
      · rename_i h0
        have : v = 0 := by omega
        subst this
        have e : s = Lib.decDigits (u + m) := hvs
        rw [e]
        exact ⟨rfl, rfl⟩
theorem number28_ok (n : Int) (hn : i64S n) : ACalls Tryd.prog 32 [.d (.int .i64 n)] [] (fun av L => av = .d (.str (bw (Lib.itoa n))) ∧ L = []) := by
  have h1 := hn.1
  have h2 := hn.2
  (refine acalls_go ttOk zOk foOk Tryd.func32 rfl Tryd.ntmps32 rfl false rfl ?_); (conv => whnf)
  refine rdw ?_; repeat' ((with_reducible apply tw) <;> intro _)
  · rename_i hlt
    have e : (((0 - (n + 1)).toNat : Nat) : Int) = 0 - (n + 1) := by omega
    have e2 : (0 - (n + 1)).toNat + 1 = n.natAbs := by omega
    have hd := digits_ok (0 - (n + 1)).toNat 1 (by omega)
    rw [e, e2] at hd
    have hdl := dec_len (u := n.natAbs) (by omega)
    (refine (hd).mono ?_; rintro _ _ ⟨rfl, rfl⟩; (conv => whnf))
    refine rdw ?_; repeat' ((with_reducible apply tw) <;> intro _)
    refine ⟨by show ((1 + (Lib.decDigits n.natAbs).length : Nat) : Int) ≤ 9223372036854775807; omega, ?_⟩
    conv => whnf
    refine rdw ?_; repeat' ((with_reducible apply tw) <;> intro _)
    refine ⟨?_, rfl⟩
    rw [show (⟨#[45]⟩ : ByteArray) ++ bw (Lib.decDigits n.natAbs) = bw (45 :: Lib.decDigits n.natAbs) from bw_app [45] _]
    unfold Lib.itoa
    rw [if_pos hlt]
  · rename_i hlt
    have e : ((n.toNat : Nat) : Int) = n := by omega
    have hd := digits_ok n.toNat 0 (by omega)
    rw [e, Nat.add_zero] at hd
    (refine (hd).mono ?_; rintro _ _ ⟨rfl, rfl⟩; (conv => whnf))
    refine rdw ?_; repeat' ((with_reducible apply tw) <;> intro _)
    refine ⟨?_, rfl⟩
    unfold Lib.itoa
    rw [if_neg hlt]
end Go.Proofs.YtkaepgfmpljlmaaDoor
