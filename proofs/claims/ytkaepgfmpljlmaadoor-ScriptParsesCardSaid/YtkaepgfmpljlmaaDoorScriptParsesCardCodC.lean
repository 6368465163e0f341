/- ScriptParsesCard: contracts. -/
import Derived.Test.YtkaepgfmpljlmaaDoorScriptParsesCardCodB
set_option linter.unusedVariables false
set_option linter.unusedSimpArgs false
namespace Go.Proofs.YtkaepgfmpljlmaaDoor
open Go.Ab Go.RowKit Go.Scr Go.Proofs
attribute [local irreducible] ACalls AW ADraw Into fltB fnear
set_option maxRecDepth 100000
structure Hd where
  author : Int
  round : Int
  bats : List Int
  pars : List Int
def Hd.cs (h : Hd) : List DV := [.int .i64 h.author, .int .i64 h.round, .sl 1 (nums h.bats), .sl 1 (nums h.pars)]
structure Tx where
  sender : Int
  seq : Int
  key : ByteArray
  val : ByteArray
def Tx.cs (t : Tx) : List DV := [.int .i64 t.sender, .int .i64 t.seq, .str t.key, .str t.val]
def txsD (l : List Tx) : List (List DV) := l.map Tx.cs
theorem txsD_length (l : List Tx) : (txsD l).length = l.length := List.length_map ..
structure Msg where
  kind : Int
  src : Int
  dst : Int
  digest : Int
  ba : Int
  bn : Int
  txs : List Tx
  head : Hd
  chead : Hd
  cdig : Int
  sigs : List Int
  digs : List Int
def Msg.cs (m : Msg) : List DV := [.int .i64 m.kind, .int .i64 m.src, .int .i64 m.dst, .int .i64 m.digest, .int .i64 m.ba, .int .i64 m.bn, .sl 4 (txsD m.txs)] ++ m.head.cs ++ m.chead.cs ++ [.int .i64 m.cdig, .sl 1 (nums m.sigs), .sl 1 (nums m.digs)]
def mAv (l : List DV) : AV := .agg (l.map AV.d)
def hd0 : Hd := ⟨0, 0, [], []⟩
def msg0 : Msg := ⟨0, 0, 0, 0, 0, 0, [], hd0, hd0, 0, [], []⟩
structure Hd.few (h : Hd) : Prop where
  bats : YtkaepgfmpljlmaaDoor.few h.bats
  pars : YtkaepgfmpljlmaaDoor.few h.pars
structure Msg.few (m : Msg) : Prop where
  txs : YtkaepgfmpljlmaaDoor.few m.txs
  head : m.head.few
  chead : m.chead.few
  sigs : YtkaepgfmpljlmaaDoor.few m.sigs
  digs : YtkaepgfmpljlmaaDoor.few m.digs
def Hd.zero (h : Hd) : Bool := decide (h.author = 0) && (decide (h.round = 0) && (decide (h.bats = []) && decide (h.pars = [])))
def Msg.zero (m : Msg) : Bool := decide (m.kind = 0) && (decide (m.src = 0) && (decide (m.dst = 0) && (decide (m.digest = 0) && (decide (m.ba = 0) && (decide (m.bn = 0) && (decide (m.txs = []) && (m.head.zero && (m.chead.zero && (decide (m.cdig = 0) && (decide (m.sigs = []) && decide (m.digs = [])))))))))))
theorem Msg.zero_iff (m : Msg) : m.zero = true ↔ m.kind = 0 ∧ m.src = 0 ∧ m.dst = 0 ∧ m.digest = 0 ∧ m.ba = 0 ∧ m.bn = 0 ∧ m.txs.length = 0 ∧ m.head.zero = true ∧ m.chead.zero = true ∧ m.cdig = 0 ∧ m.sigs.length = 0 ∧ m.digs.length = 0 := by
  simp only [Msg.zero, Bool.and_eq_true, decide_eq_true_iff, List.length_eq_zero_iff]
theorem boolEq {a b : Bool} (h : a = true ↔ b = true) : AV.d (.bool a) = AV.d (.bool b) := by
  rw [Bool.eq_iff_iff.2 h]
theorem eqNumbers_ok (xs ys : List Int) (hm : few xs) : ACalls Tryd.prog 42 [.d (.sl 1 (nums xs)), .d (.sl 1 (nums ys))] [] (fun av L => av = .d (.bool (decide (xs = ys))) ∧ L = []) := by
  have hx := nums_length xs
  have hy := nums_length ys
  unfold few at hm
  (refine acalls_go ttOk zOk foOk Tryd.func42 rfl Tryd.ntmps42 rfl false rfl ?_); (conv => whnf)
  rw [hx, hy]
  refine rdw ?_; repeat' ((with_reducible apply tw) <;> intro _)
  · rename_i h
    rw [decide_eq_false (fun e => h (by rw [e]))]
    exact ⟨rfl, rfl⟩
  · rename_i h
    have hl : xs.length = ys.length := by omega
    refine loop_go ttOk zOk foOk (σ := Nat) (fun k => ([(0, .d (.sl 1 (nums xs))), (1, .d (.sl 1 (nums ys))), (5, .d (.int .i64 k))], [])) (fun k => k ≤ xs.length ∧ xs.take k = ys.take k) (fun k => xs.length - k) [0, 1, 5] ?_ ?_
    · conv => whnf
      exact ⟨0, rfl, rfl, by simp⟩
    · rintro k ⟨hk, he⟩
      conv => whnf
      rw [hx]
      refine rdw ?_; repeat' ((with_reducible apply tw) <;> intro _)
      · rename_i h
        refine Exists.elim (⟨_, List.getElem?_eq_getElem (by omega)⟩ : ∃ a, xs[k]? = some a) fun a ha => ?_
        refine Exists.elim (⟨_, List.getElem?_eq_getElem (by omega)⟩ : ∃ b, ys[k]? = some b) fun b hb => ?_
        ((with_reducible refine draw_pl ttOk zOk foOk mixedOk pl42x6 ?_ ?_); (focus kernel_rfl); (conv => whnf))
        refine rdw ?_; repeat' ((with_reducible apply tw) <;> intro _)
        ((with_reducible apply rd_intro); (focus (intro K hK; (conv => whnf); exact ⟨by omega, [.int .i64 a], nums_at ha, hK⟩)); (conv => whnf))
        refine rdw ?_; repeat' ((with_reducible apply tw) <;> intro _)
        ((with_reducible apply rd_intro); (focus (intro K hK; (conv => whnf); exact ⟨by omega, [.int .i64 b], nums_at hb, hK⟩)); (conv => whnf))
        refine rdw ?_; repeat' ((with_reducible apply tw) <;> intro _)
        · rename_i h
          rw [decide_eq_false (fun e => by subst e; rw [ha] at hb; cases hb; exact h rfl)]
          exact ⟨rfl, rfl⟩
        · rename_i h
          exact ⟨k + 1, rfl, rfl, ⟨by omega, (take_succ_eq ha hb he).2 (by omega)⟩, by omega⟩
      · rename_i h
        obtain rfl : k = xs.length := by omega
        rw [decide_eq_true (by rw [List.take_length, hl, List.take_length] at he; exact he)]
        exact ⟨rfl, rfl⟩
theorem eqHeader_ok (a b : Hd) (ha : a.few) : ACalls Tryd.prog 59 [mAv a.cs, mAv b.cs] [] (fun av L => av = .d (.bool (decide (a.author = b.author ∧ a.round = b.round ∧ a.bats = b.bats ∧ a.pars = b.pars))) ∧ L = []) := by
  have h1 := eqNumbers_ok a.bats b.bats ha.1
  have h2 := eqNumbers_ok a.pars b.pars ha.2
  (refine acalls_go ttOk zOk foOk Tryd.func59 rfl Tryd.ntmps59 rfl false rfl ?_); (conv => whnf)
  refine rdw ?_; repeat' ((with_reducible apply tw) <;> intro _)
  · rename_i k1 k2
    (refine (h1).mono ?_; rintro _ _ ⟨rfl, rfl⟩; (conv => whnf))
    refine rdw ?_; repeat' ((with_reducible apply tw) <;> intro _)
    · rename_i k3
      (refine (h2).mono ?_; rintro _ _ ⟨rfl, rfl⟩; (conv => whnf))
      exact ⟨boolEq (by simp only [decide_eq_true_iff]; exact ⟨fun h => ⟨k1, k2, k3, h⟩, fun h => h.2.2.2⟩), rfl⟩
    · rename_i k3
      exact ⟨by rw [decide_eq_false (fun h => k3 h.2.2.1)]; rfl, rfl⟩
  · rename_i k1 k2
    exact ⟨by rw [decide_eq_false (fun h => k2 h.2.1)]; rfl, rfl⟩
  · rename_i k1
    exact ⟨by rw [decide_eq_false (fun h => k1 h.1)]; rfl, rfl⟩
theorem eqTxs0 (l : List Tx) (r : Bool) : ACalls Tryd.prog 72 (if r then [.d (.sl 4 []), .d (.sl 4 (txsD l))] else [.d (.sl 4 (txsD l)), .d (.sl 4 [])]) [] (fun av L => av = .d (.bool (decide (l.length = 0))) ∧ L = []) := by
  have hl := txsD_length l
  cases r
  all_goals
    (refine acalls_go ttOk zOk foOk Tryd.func72 rfl Tryd.ntmps72 rfl false rfl ?_); (conv => whnf)
    refine rdw ?_; repeat' ((with_reducible apply tw) <;> intro _)
    · rename_i h
      refine ⟨boolEq ?_, rfl⟩
      rw [decide_eq_true_iff]
      refine ⟨fun h => (by cases h), fun h0 => absurd ?_ h⟩
      obtain rfl := List.eq_nil_of_length_eq_zero h0
      rfl
    · rename_i h
      have h0 : l = [] := by
        have h1 : ((txsD l).length : Int) = 0 := by first | exact h | exact h.symm
        exact List.eq_nil_of_length_eq_zero (by omega)
      subst h0
      refine loop_some ttOk zOk foOk 1 ?_
      conv => whnf
      refine rdw ?_; repeat' ((with_reducible apply tw) <;> intro _)
      exact ⟨rfl, rfl⟩
theorem eqBatch0 (a n : Int) (l : List Tx) (r : Bool) : ACalls Tryd.prog 58 (if r then [mAv [.int .i64 0, .int .i64 0, .sl 4 []], mAv [.int .i64 a, .int .i64 n, .sl 4 (txsD l)]] else [mAv [.int .i64 a, .int .i64 n, .sl 4 (txsD l)], mAv [.int .i64 0, .int .i64 0, .sl 4 []]]) []
    (fun av L => av = .d (.bool (decide (a = 0 ∧ n = 0 ∧ l.length = 0))) ∧ L = []) := by
  have h := eqTxs0 l r
  cases r
  all_goals
    (refine acalls_go ttOk zOk foOk Tryd.func58 rfl Tryd.ntmps58 rfl false rfl ?_); (conv => whnf)
    refine rdw ?_; repeat' ((with_reducible apply tw) <;> intro _)
    · rename_i k1 k2
      refine h.mono ?_
      rintro _ _ ⟨rfl, rfl⟩
      conv => whnf
      exact ⟨boolEq (by simp only [decide_eq_true_iff]; omega), rfl⟩
    · rename_i k1 k2
      exact ⟨boolEq (by simp only [decide_eq_true_iff, avOf1]; refine ⟨fun h => (by cases h), fun h => ?_⟩; omega), rfl⟩
    · rename_i k1
      exact ⟨boolEq (by simp only [decide_eq_true_iff, avOf1]; refine ⟨fun h => (by cases h), fun h => ?_⟩; omega), rfl⟩
theorem hd0_few : hd0.few := ⟨Nat.zero_le _, Nat.zero_le _⟩
theorem eqHeader0 (h : Hd) (hf : h.few) (r : Bool) : ACalls Tryd.prog 59 (if r then [mAv hd0.cs, mAv h.cs] else [mAv h.cs, mAv hd0.cs]) [] (fun av L => av = .d (.bool h.zero) ∧ L = []) := by
  cases r
  · refine (eqHeader_ok h hd0 hf).mono ?_
    rintro _ _ ⟨rfl, rfl⟩
    exact ⟨boolEq (by rw [decide_eq_true_iff]; simp only [Hd.zero, Bool.and_eq_true, decide_eq_true_iff]; exact Iff.rfl), rfl⟩
  · refine (eqHeader_ok hd0 h hd0_few).mono ?_
    rintro _ _ ⟨rfl, rfl⟩
    refine ⟨boolEq ?_, rfl⟩
    rw [decide_eq_true_iff]
    simp only [Hd.zero, Bool.and_eq_true, decide_eq_true_iff]
    exact ⟨fun ⟨a, b, c, d⟩ => ⟨a.symm, b.symm, c.symm, d.symm⟩, fun ⟨a, b, c, d⟩ => ⟨a.symm, b.symm, c.symm, d.symm⟩⟩
theorem eqNumbers0 (l : List Int) (hl : few l) (r : Bool) : ACalls Tryd.prog 42 (if r then [.d (.sl 1 []), .d (.sl 1 (nums l))] else [.d (.sl 1 (nums l)), .d (.sl 1 [])]) [] (fun av L => av = .d (.bool (decide (l.length = 0))) ∧ L = []) := by
  cases r
  · refine (eqNumbers_ok l [] hl).mono ?_
    rintro _ _ ⟨rfl, rfl⟩
    exact ⟨boolEq (by simp), rfl⟩
  · refine (eqNumbers_ok [] l (Nat.zero_le _)).mono ?_
    rintro _ _ ⟨rfl, rfl⟩
    exact ⟨boolEq (by simp only [decide_eq_true_iff]; exact ⟨fun h => by rw [← h]; rfl, fun h => (List.eq_nil_of_length_eq_zero h).symm⟩), rfl⟩
def cAv (h : Hd) (d : Int) (l : List Int) : AV := mAv (h.cs ++ [.int .i64 d, .sl 1 (nums l)])
theorem eqCert0 (h : Hd) (hf : h.few) (d : Int) (l : List Int) (hl : few l) (r : Bool) : ACalls Tryd.prog 60 (if r then [cAv hd0 0 [], cAv h d l] else [cAv h d l, cAv hd0 0 []]) [] (fun av L => av = .d (.bool (h.zero && (decide (d = 0) && decide (l.length = 0)))) ∧ L = []) := by
  have e1 := eqHeader0 h hf r
  have e2 := eqNumbers0 l hl r
  obtain ⟨z, hz⟩ : ∃ z, h.zero = z := ⟨_, rfl⟩
  rw [hz] at e1 ⊢
  cases r
  all_goals
    cases z
    all_goals
      (refine acalls_go ttOk zOk foOk Tryd.func60 rfl Tryd.ntmps60 rfl false rfl ?_); (conv => whnf)
      refine rdw ?_; repeat' ((with_reducible apply tw) <;> intro _)
      refine e1.mono ?_
      rintro _ _ ⟨rfl, rfl⟩
      conv => whnf
      refine rdw ?_; repeat' ((with_reducible apply tw) <;> intro _)
    · exact ⟨rfl, rfl⟩
    · rename_i k1
      refine e2.mono ?_
      rintro _ _ ⟨rfl, rfl⟩
      conv => whnf
      exact ⟨boolEq (by first | simp [k1] | simp [← k1]), rfl⟩
    · rename_i k1
      exact ⟨boolEq (by simp only [decide_eq_true_iff, avOf1, Bool.and_eq_true]; refine ⟨fun h => (by cases h), fun h => ?_⟩; first | exact absurd h.2.1 k1 | exact absurd h.2.1.symm k1), rfl⟩
theorem eqMsg0 (m : Msg) (hf : m.few) (r : Bool) : ACalls Tryd.prog 43 (if r then [mAv msg0.cs, mAv m.cs] else [mAv m.cs, mAv msg0.cs]) [] (fun av L => av = .d (.bool m.zero) ∧ L = []) := by
  have e1 := eqBatch0 m.ba m.bn m.txs r
  have e2 := eqHeader0 m.head hf.head r
  have e3 := eqCert0 m.chead hf.chead m.cdig m.sigs hf.sigs r
  have e4 := eqNumbers0 m.digs hf.digs r
  cases r
  all_goals
    (refine acalls_go ttOk zOk foOk Tryd.func43 rfl Tryd.ntmps43 rfl false rfl ?_); (conv => whnf)
    refine rdw ?_; repeat' ((with_reducible apply tw) <;> intro _)
    · refine e1.mono ?_
      rintro _ _ ⟨rfl, rfl⟩
      conv => whnf
      refine rdw ?_; repeat' ((with_reducible apply tw) <;> intro _)
      · refine e2.mono ?_
        rintro _ _ ⟨rfl, rfl⟩
        conv => whnf
        refine rdw ?_; repeat' ((with_reducible apply tw) <;> intro _)
        · refine e3.mono ?_
          rintro _ _ ⟨rfl, rfl⟩
          conv => whnf
          refine rdw ?_; repeat' ((with_reducible apply tw) <;> intro _)
          · refine e4.mono ?_
            rintro _ _ ⟨rfl, rfl⟩
            conv => whnf
            rename_i k1 k2 k3 k4 k5 k6 k7
            simp only [Bool.and_eq_true, decide_eq_true_iff] at k7
            refine ⟨boolEq ?_, rfl⟩
            rw [Msg.zero_iff, decide_eq_true_iff]
            exact ⟨fun h => ⟨by first | exact k1 | exact k1.symm, by first | exact k2 | exact k2.symm, by first | exact k3 | exact k3.symm, by first | exact k4 | exact k4.symm, k5.1, k5.2.1, k5.2.2, k6, k7.1, k7.2.1, k7.2.2, h⟩, fun h => h.2.2.2.2.2.2.2.2.2.2.2⟩
          · rename_i k7
            refine ⟨boolEq ⟨fun h => (by cases h), fun h => ?_⟩, rfl⟩
            obtain ⟨-, -, -, -, -, -, -, -, h1, h2, h3, -⟩ := (Msg.zero_iff m).1 h
            rw [h1, decide_eq_true h2, decide_eq_true h3] at k7
            cases k7
        · rename_i k6
          refine ⟨boolEq ⟨fun h => (by cases h), fun h => ?_⟩, rfl⟩
          obtain ⟨-, -, -, -, -, -, -, h1, -⟩ := (Msg.zero_iff m).1 h
          rw [h1] at k6
          cases k6
      · rename_i k5
        refine ⟨boolEq ⟨fun h => (by cases h), fun h => ?_⟩, rfl⟩
        obtain ⟨-, -, -, -, h1, h2, h3, -⟩ := (Msg.zero_iff m).1 h
        exact absurd ⟨h1, h2, h3⟩ k5
    all_goals
      refine ⟨boolEq ⟨fun h => (by cases h), fun h => ?_⟩, rfl⟩
      rename_i k
      obtain ⟨h1, h2, h3, h4, -⟩ := (Msg.zero_iff m).1 h
      first | exact absurd h1 k | exact absurd h2 k | exact absurd h3 k | exact absurd h4 k | exact absurd h1.symm k | exact absurd h2.symm k | exact absurd h3.symm k | exact absurd h4.symm k
def actD (a : Sa) (m : Msg) : List DV := [.int .i64 a.kind, .int .i64 a.node, .int .i64 a.peer, .int .i64 a.n, .sl 1 (nums a.picks), .int .i64 a.sender, .int .i64 a.seq, .str (bw a.key), .str (bw a.val)] ++ m.cs ++ [.sl 1 (u8s a.bytes)]
def actA (a : Sa) (m : Msg) : AV := mAv (actD a m)
structure Sa.fine (a : Sa) : Prop where
  fit : a.fit
  picks : a.picks.length ≤ 1000000
  key : a.key.length ≤ 1000000
  val : a.val.length ≤ 1000000
  bytes : a.bytes.length ≤ 1000000
theorem wsD_snoc (l : List W) (w : W) : wsD l ++ [[.str (bw w)]] = wsD (l ++ [w]) := by simp [wsD]
theorem num_ok (n : Int) : ACalls Tryd.prog 11 [.d (.int .i64 n)] [] (fun av L => av = .d (.int .i64 n) ∧ L = []) := by
  (refine acalls_go ttOk zOk foOk Tryd.func11 rfl Tryd.ntmps11 rfl false rfl ?_); (conv => whnf)
  refine rdw ?_; repeat' ((with_reducible apply tw) <;> intro _)
  exact ⟨rfl, rfl⟩
theorem parse_no {s : ByteArray} (hs : s.size ≤ 1000000) (h : parseS s.data.toList = none) : ACalls Tryd.prog 9 [.d (.str s)] [] (fun av L => av = .tup [.agg (actC (zeroS 0) (.d .nils) (.d .nils)), .d (.int .i64 1)] ∧ L = []) :=
  parse_rok s hs _ (fun a bs k => by rw [h] at k; cases k) (fun a k => by rw [h] at k; cases k) (fun _ => ⟨rfl, rfl⟩)
theorem parse_plain {s : ByteArray} (hs : s.size ≤ 1000000) {a : Sa} (h : parseS s.data.toList = some a) (hp : a.picks = []) : ACalls Tryd.prog 9 [.d (.str s)] [] (fun av L => ∃ bs, bsOk bs a ∧ av = .tup [.agg (actC a (.d .nils) (.d bs)), .d (.int .i64 0)] ∧ L = []) :=
  parse_rok s hs _ (fun b bs k _ hb => by
    rw [h] at k
    cases k
    exact ⟨bs, hb, rfl, rfl⟩) (fun b k _ hn => by
    rw [h] at k
    cases k
    exact absurd hp hn) (fun k => by rw [h] at k; cases k)
theorem wakes_ok : ACalls Tryd.prog 15 [] [] (fun av L => av = .d (.bool true) ∧ L = []) := by
  have h := parse_plain (s := bw [116, 105, 99, 107, 32, 51]) (by decide) tick3 rfl
  have hn := num_ok 0
  (refine acalls_go ttOk zOk foOk Tryd.func15 rfl Tryd.ntmps15 rfl false rfl ?_); (conv => whnf)
  refine rdw ?_; repeat' ((with_reducible apply tw) <;> intro _)
  refine h.mono ?_
  rintro _ _ ⟨bs, hb, rfl, rfl⟩
  conv => whnf
  refine rdw ?_; repeat' ((with_reducible apply tw) <;> intro _)
  refine hn.mono ?_
  rintro _ _ ⟨rfl, rfl⟩
  conv => whnf
  refine rdw ?_; repeat' ((with_reducible apply tw) <;> intro _)
  exact ⟨rfl, rfl⟩
theorem eqBytes_ok (xs ys : List UInt8) (hm : xs.length ≤ 140737488355328) : ACalls Tryd.prog 18 [.d (.sl 1 (u8s xs)), .d (.sl 1 (u8s ys))] [] (fun av L => av = .d (.bool (xs == ys)) ∧ L = []) := by
  (refine acalls_go ttOk zOk foOk Tryd.func18 rfl Tryd.ntmps18 rfl false rfl ?_); (conv => whnf)
  ((with_reducible refine mt_ne (fun _ => ?_) (fun _ => ?_)) <;> (conv => whnf))
  · rename_i h
    simp only [u8s_length] at h
    have : (xs == ys) = false := by rw [beq_eq_false_iff_ne]; intro e; exact h (by rw [e])
    rw [this]; exact ⟨rfl, rfl⟩
  · rename_i h
    simp only [u8s_length] at h
    have hl : xs.length = ys.length := by omega
    refine loop_go ttOk zOk foOk (σ := Nat) (fun k => ([(0, .d (.sl 1 (u8s xs))), (1, .d (.sl 1 (u8s ys))), (5, .d (.int .i64 k))], [])) (fun k => k ≤ xs.length ∧ xs.take k = ys.take k) (fun k => xs.length - k) [0, 1, 5] ?_ ?_
    · conv => whnf
      exact ⟨0, rfl, rfl, by simp⟩
    · rintro k ⟨hk, he⟩
      conv => whnf
      ((with_reducible refine mt_dec (fun _ => ?_) (fun _ => ?_)) <;> (conv => whnf))
      · rename_i h
        simp only [u8s_length] at h
        obtain ⟨a, ha⟩ : ∃ a, xs[k]? = some a := ⟨_, List.getElem?_eq_getElem (by omega)⟩
        obtain ⟨b, hb⟩ : ∃ b, ys[k]? = some b := ⟨_, List.getElem?_eq_getElem (by omega)⟩
        ((with_reducible refine draw_pl ttOk zOk foOk mixedOk pl18x6 ?_ ?_); (focus kernel_rfl); (conv => whnf))
        refine rdw ?_; repeat' ((with_reducible apply tw) <;> intro _)
        ((with_reducible apply rd_intro); (focus (intro K hK; (conv => whnf); exact ix_u8 ha (by first | rfl | omega) hK)); (conv => whnf))
        refine rdw ?_; repeat' ((with_reducible apply tw) <;> intro _)
        ((with_reducible apply rd_intro); (focus (intro K hK; (conv => whnf); exact ix_u8 hb (by first | rfl | omega) hK)); (conv => whnf))
        refine rdw ?_; repeat' ((with_reducible apply tw) <;> intro _)
        · rename_i h
          have h2 : a ≠ b := by intro e; rw [e] at h; exact h rfl
          have : (xs == ys) = false := by rw [beq_eq_false_iff_ne]; intro e; subst e; rw [ha] at hb; cases hb; exact h2 rfl
          rw [this]; exact ⟨rfl, rfl⟩
        · rename_i h
          have h2 : a = b := UInt8.toNat_inj.1 (by omega)
          exact ⟨k + 1, rfl, rfl, ⟨by omega, (take_succ_eq ha hb he).2 h2⟩, by omega⟩
      · rename_i h
        simp only [u8s_length] at h
        obtain rfl : k = xs.length := by omega
        have : (xs == ys) = true := by rw [List.take_length, hl, List.take_length] at he; simp [he]
        rw [this]; exact ⟨rfl, rfl⟩
theorem bw_extract (l : W) (i j : Nat) : (bw l).extract i j = bw ((l.drop i).take (j - i)) := by
  have e : ((bw l).extract i j).data.toList = (l.drop i).take (j - i) := by
    rw [ByteArray.data_extract, Array.toList_extract, List.extract_eq_take_drop]
    rfl
  generalize (bw l).extract i j = x at e
  obtain ⟨⟨m⟩⟩ := x
  subst e
  rfl
theorem lendS_d (L : List AB) : ∀ ds : List DV, lendS L (ds.map AV.d) (ds.map AV.d)
  | [] => rfl
  | d :: r => ⟨_, _, rfl, .inl ⟨_, rfl, rfl⟩, lendS_d L r⟩
theorem lendS_app {L : List AB} : ∀ {ps bs cs ds : List AV}, lendS L ps bs → lendS L cs ds → lendS L (ps ++ cs) (bs ++ ds)
  | [], bs, cs, ds, h, k => by
    simp only [lendS] at h
    subst h
    exact k
  | a :: ps, bs, cs, ds, h, k => by
    obtain ⟨b, r, rfl, h1, h2⟩ := h
    exact ⟨_, _, rfl, h1, lendS_app h2 k⟩
theorem lend_actC {L : List AB} (a : Sa) {pk bs : AV} {pk2 bs2 : DV} (h1 : lend1 L pk (.d pk2)) (h2 : lend1 L bs (.d bs2)) : lendS L (actC a pk bs) (actC a (.d pk2) (.d bs2)) :=
  lendS_app (lendS_app (lendS_app (ps := [.d (.int .i64 a.kind), .d (.int .i64 a.node), .d (.int .i64 a.peer), .d (.int .i64 a.n)]) (cs := [pk, .d (.int .i64 a.sender), .d (.int .i64 a.seq), .d (.str (bw a.key)), .d (.str (bw a.val))])
    (lendS_d L [.int .i64 a.kind, .int .i64 a.node, .int .i64 a.peer, .int .i64 a.n]) ⟨_, _, rfl, h1, lendS_d L [.int .i64 a.sender, .int .i64 a.seq, .str (bw a.key), .str (bw a.val)]⟩)
    (lendS_d L [.int .i64 0, .int .i64 0, .int .i64 0, .int .i64 0, .int .i64 0, .int .i64 0, .nils, .int .i64 0, .int .i64 0, .nils, .nils, .int .i64 0, .int .i64 0, .nils, .nils, .int .i64 0, .nils, .nils])) ⟨_, _, rfl, h2, rfl⟩
theorem NWs_app : ∀ {ps bs cs ds : List AV}, NWs ps bs → NWs cs ds → NWs (ps ++ cs) (bs ++ ds)
  | _, _, _, _, .nil, k => k
  | _, _, _, _, .cons h1 h2, k => .cons h1 (NWs_app h2 k)
theorem nw_msgZ : NWs msgZ (msg0.cs.map AV.d) :=
  .cons (.refl _) (.cons (.refl _) (.cons (.refl _) (.cons (.refl _) (.cons (.refl _) (.cons (.refl _) (.cons (.nils 4 (by decide)) (.cons (.refl _) (.cons (.refl _) (.cons (.nils 1 (by decide)) (.cons (.nils 1 (by decide)) (.cons (.refl _) (.cons (.refl _) (.cons (.nils 1 (by decide)) (.cons (.nils 1 (by decide)) (.cons (.refl _) (.cons (.nils 1 (by decide)) (.cons (.nils 1 (by decide)) .nil)))))))))))))))))
theorem nw_actC (a : Sa) {pk bs : DV} (h1 : NW (.d pk) (.d (.sl 1 (nums a.picks)))) (h2 : NW (.d bs) (.d (.sl 1 (u8s a.bytes)))) : NW (.agg (actC a (.d pk) (.d bs))) (actA a msg0) := by
  refine .agg ?_
  have e : (actD a msg0).map AV.d = ([.d (.int .i64 a.kind), .d (.int .i64 a.node), .d (.int .i64 a.peer), .d (.int .i64 a.n), .d (.sl 1 (nums a.picks)), .d (.int .i64 a.sender), .d (.int .i64 a.seq), .d (.str (bw a.key)), .d (.str (bw a.val))] ++ msg0.cs.map AV.d) ++ [.d (.sl 1 (u8s a.bytes))] := by
    simp only [actD, List.map_append, List.map_cons, List.map_nil]
  rw [e]
  exact NWs_app (NWs_app (.cons (.refl _) (.cons (.refl _) (.cons (.refl _) (.cons (.refl _) (.cons h1 (.cons (.refl _) (.cons (.refl _) (.cons (.refl _) (.cons (.refl _) .nil))))))))) nw_msgZ) (.cons h2 .nil)
structure Ask where
  a : Sa
  m : Msg
  s : ByteArray
def Ask.cs (q : Ask) : List DV := actD q.a q.m ++ [.str q.s]
def asksD (l : List Ask) : List (List DV) := l.map Ask.cs
theorem asksD_length (l : List Ask) : (asksD l).length = l.length := List.length_map ..
structure Sa.sized (a : Sa) : Prop where
  fit : a.fit
  picks : few a.picks
  key : a.key.length ≤ 140737488355328
  val : a.val.length ≤ 140737488355328
  bytes : a.bytes.length ≤ 140737488355328
structure Ask.ok (q : Ask) : Prop where
  a : Sa.sized q.a
  m : q.m.few
  quiet : q.a.quiet = q.m.zero
  s : q.s.size ≤ 140737488355328
theorem bw_app (a b : W) : bw a ++ bw b = bw (a ++ b) := by
  have e : (bw a ++ bw b).data.toList = a ++ b := by
    rw [ByteArray.data_append, Array.toList_append]
    rfl
  generalize bw a ++ bw b = x at e
  obtain ⟨⟨m⟩⟩ := x
  subst e
  rfl
theorem nwP0 {a : Sa} (h : a.picks = []) : NW (.d .nils) (.d (.sl 1 (nums a.picks))) := by rw [h]; exact .nils 1 (by decide)
theorem nwB0 {a : Sa} (h : a.bytes = []) : NW (.d .nils) (.d (.sl 1 (u8s a.bytes))) := by rw [h]; exact .nils 1 (by decide)
end Go.Proofs.YtkaepgfmpljlmaaDoor
