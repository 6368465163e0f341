/- ScriptPrintsCard: contracts. -/
import Derived.Test.YtkaepgfmpljlmaaDoorScriptPrintsCardCodB
set_option linter.unusedVariables false
set_option linter.unusedSimpArgs false
namespace Go.Proofs.YtkaepgfmpljlmaaDoor
open Go.Ab Go.RowKit Go.Scr Go.Proofs
attribute [local irreducible] ACalls AW ADraw Into fltB fnear
set_option maxRecDepth 100000
structure Hd where
  author : Int
  round : Int
  bats : List Int
  pars : List Int
def Hd.cs (h : Hd) : List DV := [.int .i64 h.author, .int .i64 h.round, .sl 1 (nums h.bats), .sl 1 (nums h.pars)]
structure Tx where
  sender : Int
  seq : Int
  key : ByteArray
  val : ByteArray
def Tx.cs (t : Tx) : List DV := [.int .i64 t.sender, .int .i64 t.seq, .str t.key, .str t.val]
def txsD (l : List Tx) : List (List DV) := l.map Tx.cs
theorem txsD_length (l : List Tx) : (txsD l).length = l.length := List.length_map ..
structure Msg where
  kind : Int
  src : Int
  dst : Int
  digest : Int
  ba : Int
  bn : Int
  txs : List Tx
  head : Hd
  chead : Hd
  cdig : Int
  sigs : List Int
  digs : List Int
def Msg.cs (m : Msg) : List DV := [.int .i64 m.kind, .int .i64 m.src, .int .i64 m.dst, .int .i64 m.digest, .int .i64 m.ba, .int .i64 m.bn, .sl 4 (txsD m.txs)] ++ m.head.cs ++ m.chead.cs ++ [.int .i64 m.cdig, .sl 1 (nums m.sigs), .sl 1 (nums m.digs)]
def mAv (l : List DV) : AV := .agg (l.map AV.d)
def hd0 : Hd := ⟨0, 0, [], []⟩
def msg0 : Msg := ⟨0, 0, 0, 0, 0, 0, [], hd0, hd0, 0, [], []⟩
structure Hd.few (h : Hd) : Prop where
  bats : YtkaepgfmpljlmaaDoor.few h.bats
  pars : YtkaepgfmpljlmaaDoor.few h.pars
structure Msg.few (m : Msg) : Prop where
  txs : YtkaepgfmpljlmaaDoor.few m.txs
  head : m.head.few
  chead : m.chead.few
  sigs : YtkaepgfmpljlmaaDoor.few m.sigs
  digs : YtkaepgfmpljlmaaDoor.few m.digs
def Hd.zero (h : Hd) : Bool := decide (h.author = 0) && (decide (h.round = 0) && (decide (h.bats = []) && decide (h.pars = [])))
def Msg.zero (m : Msg) : Bool := decide (m.kind = 0) && (decide (m.src = 0) && (decide (m.dst = 0) && (decide (m.digest = 0) && (decide (m.ba = 0) && (decide (m.bn = 0) && (decide (m.txs = []) && (m.head.zero && (m.chead.zero && (decide (m.cdig = 0) && (decide (m.sigs = []) && decide (m.digs = [])))))))))))
theorem Msg.zero_iff (m : Msg) : m.zero = true ↔ m.kind = 0 ∧ m.src = 0 ∧ m.dst = 0 ∧ m.digest = 0 ∧ m.ba = 0 ∧ m.bn = 0 ∧ m.txs.length = 0 ∧ m.head.zero = true ∧ m.chead.zero = true ∧ m.cdig = 0 ∧ m.sigs.length = 0 ∧ m.digs.length = 0 := by
  simp only [Msg.zero, Bool.and_eq_true, decide_eq_true_iff, List.length_eq_zero_iff]
theorem boolEq {a b : Bool} (h : a = true ↔ b = true) : AV.d (.bool a) = AV.d (.bool b) := by
  rw [Bool.eq_iff_iff.2 h]
theorem empty_ok (h : Hd) (hf : h.few) : ACalls Tryd.prog 61 [mAv h.cs] [] (fun av L => av = .d (.bool h.zero) ∧ L = []) := by
  have h1 := nums_length h.bats
  have h2 := nums_length h.pars
  have f1 := hf.bats
  have f2 := hf.pars
  unfold few at f1 f2
  (refine acalls_go ttOk zOk foOk Tryd.func61 rfl Tryd.ntmps61 rfl false rfl ?_); (conv => whnf)
  refine rdw ?_; repeat' ((with_reducible apply tw) <;> intro _)
  · rename_i k1 k2
    exact ⟨boolEq (by simp only [Hd.zero, k1, k2, decide_true, Bool.true_and, beq_iff_eq, Bool.and_eq_true, decide_eq_true_iff]; constructor
                      · intro h; exact ⟨List.eq_nil_of_length_eq_zero (by omega), List.eq_nil_of_length_eq_zero (by omega)⟩
                      · rintro ⟨e1, e2⟩; rw [e1, e2]; rfl), rfl⟩
  · rename_i k1 k2
    exact ⟨boolEq (by simp [Hd.zero, avOf1, k2]), rfl⟩
  · rename_i k1
    exact ⟨boolEq (by simp [Hd.zero, avOf1, k1]), rfl⟩
theorem silent_ok (m : Msg) (hf : m.few) : ACalls Tryd.prog 46 [mAv m.cs] [] (fun av L => av = .d (.bool m.zero) ∧ L = []) := by
  have e1 := empty_ok m.head hf.head
  have e2 := empty_ok m.chead hf.chead
  have l1 := txsD_length m.txs
  have l2 := nums_length m.sigs
  have l3 := nums_length m.digs
  (refine acalls_go ttOk zOk foOk Tryd.func46 rfl Tryd.ntmps46 rfl false rfl ?_); (conv => whnf)
  refine rdw ?_; repeat' ((with_reducible apply tw) <;> intro _)
  · refine e1.mono ?_
    rintro _ _ ⟨rfl, rfl⟩
    conv => whnf
    refine rdw ?_; repeat' ((with_reducible apply tw) <;> intro _)
    · refine e2.mono ?_
      rintro _ _ ⟨rfl, rfl⟩
      conv => whnf
      refine rdw ?_; repeat' ((with_reducible apply tw) <;> intro _)
      all_goals refine ⟨boolEq ?_, rfl⟩
      all_goals rw [Msg.zero_iff]
      · simp only [beq_iff_eq]
        constructor
        · intro h
          refine ⟨?_, ?_, ?_, ?_, ?_, ?_, ?_, ?_, ?_, ?_, ?_, ?_⟩ <;> first | assumption | omega
        · rintro ⟨-, -, -, -, -, -, -, -, -, -, -, h⟩
          omega
      all_goals refine ⟨fun h => (by cases h), ?_⟩
      all_goals (rename_i hn; rintro ⟨_, _, _, _, _, _, _, _, hz, _, _, _⟩; first | omega | (rw [hz] at hn; cases hn))
    · refine ⟨boolEq ?_, rfl⟩
      rw [Msg.zero_iff]
      refine ⟨fun h => (by cases h), ?_⟩
      rename_i hn
      rintro ⟨_, _, _, _, _, _, _, hz, _⟩
      rw [hz] at hn; cases hn
  all_goals
    refine ⟨boolEq ?_, rfl⟩
    rw [Msg.zero_iff]
    refine ⟨fun h => (by cases h), ?_⟩
    rintro ⟨_, _, _, _, _, _, _, _⟩
    omega
theorem eqNumbers_ok (xs ys : List Int) (hm : few xs) : ACalls Tryd.prog 42 [.d (.sl 1 (nums xs)), .d (.sl 1 (nums ys))] [] (fun av L => av = .d (.bool (decide (xs = ys))) ∧ L = []) := by
  have hx := nums_length xs
  have hy := nums_length ys
  unfold few at hm
  (refine acalls_go ttOk zOk foOk Tryd.func42 rfl Tryd.ntmps42 rfl false rfl ?_); (conv => whnf)
  rw [hx, hy]
  refine rdw ?_; repeat' ((with_reducible apply tw) <;> intro _)
  · rename_i h
    rw [decide_eq_false (fun e => h (by rw [e]))]
    exact ⟨rfl, rfl⟩
  · rename_i h
    have hl : xs.length = ys.length := by omega
    refine loop_go ttOk zOk foOk (σ := Nat) (fun k => ([(0, .d (.sl 1 (nums xs))), (1, .d (.sl 1 (nums ys))), (5, .d (.int .i64 k))], [])) (fun k => k ≤ xs.length ∧ xs.take k = ys.take k) (fun k => xs.length - k) [0, 1, 5] ?_ ?_
    · conv => whnf
      exact ⟨0, rfl, rfl, by simp⟩
    · rintro k ⟨hk, he⟩
      conv => whnf
      rw [hx]
      refine rdw ?_; repeat' ((with_reducible apply tw) <;> intro _)
      · rename_i h
        refine Exists.elim (⟨_, List.getElem?_eq_getElem (by omega)⟩ : ∃ a, xs[k]? = some a) fun a ha => ?_
        refine Exists.elim (⟨_, List.getElem?_eq_getElem (by omega)⟩ : ∃ b, ys[k]? = some b) fun b hb => ?_
        ((with_reducible refine draw_pl ttOk zOk foOk mixedOk pl42x6 ?_ ?_); (focus kernel_rfl); (conv => whnf))
        refine rdw ?_; repeat' ((with_reducible apply tw) <;> intro _)
        ((with_reducible apply rd_intro); (focus (intro K hK; (conv => whnf); exact ⟨by omega, [.int .i64 a], nums_at ha, hK⟩)); (conv => whnf))
        refine rdw ?_; repeat' ((with_reducible apply tw) <;> intro _)
        ((with_reducible apply rd_intro); (focus (intro K hK; (conv => whnf); exact ⟨by omega, [.int .i64 b], nums_at hb, hK⟩)); (conv => whnf))
        refine rdw ?_; repeat' ((with_reducible apply tw) <;> intro _)
        · rename_i h
          rw [decide_eq_false (fun e => by subst e; rw [ha] at hb; cases hb; exact h rfl)]
          exact ⟨rfl, rfl⟩
        · rename_i h
          exact ⟨k + 1, rfl, rfl, ⟨by omega, (take_succ_eq ha hb he).2 (by omega)⟩, by omega⟩
      · rename_i h
        obtain rfl : k = xs.length := by omega
        rw [decide_eq_true (by rw [List.take_length, hl, List.take_length] at he; exact he)]
        exact ⟨rfl, rfl⟩
theorem eqHeader_ok (a b : Hd) (ha : a.few) : ACalls Tryd.prog 59 [mAv a.cs, mAv b.cs] [] (fun av L => av = .d (.bool (decide (a.author = b.author ∧ a.round = b.round ∧ a.bats = b.bats ∧ a.pars = b.pars))) ∧ L = []) := by
  have h1 := eqNumbers_ok a.bats b.bats ha.1
  have h2 := eqNumbers_ok a.pars b.pars ha.2
  (refine acalls_go ttOk zOk foOk Tryd.func59 rfl Tryd.ntmps59 rfl false rfl ?_); (conv => whnf)
  refine rdw ?_; repeat' ((with_reducible apply tw) <;> intro _)
  · rename_i k1 k2
    (refine (h1).mono ?_; rintro _ _ ⟨rfl, rfl⟩; (conv => whnf))
    refine rdw ?_; repeat' ((with_reducible apply tw) <;> intro _)
    · rename_i k3
      (refine (h2).mono ?_; rintro _ _ ⟨rfl, rfl⟩; (conv => whnf))
      exact ⟨boolEq (by simp only [decide_eq_true_iff]; exact ⟨fun h => ⟨k1, k2, k3, h⟩, fun h => h.2.2.2⟩), rfl⟩
    · rename_i k3
      exact ⟨by rw [decide_eq_false (fun h => k3 h.2.2.1)]; rfl, rfl⟩
  · rename_i k1 k2
    exact ⟨by rw [decide_eq_false (fun h => k2 h.2.1)]; rfl, rfl⟩
  · rename_i k1
    exact ⟨by rw [decide_eq_false (fun h => k1 h.1)]; rfl, rfl⟩
theorem eqTxs0 (l : List Tx) (r : Bool) : ACalls Tryd.prog 72 (if r then [.d (.sl 4 []), .d (.sl 4 (txsD l))] else [.d (.sl 4 (txsD l)), .d (.sl 4 [])]) [] (fun av L => av = .d (.bool (decide (l.length = 0))) ∧ L = []) := by
  have hl := txsD_length l
  cases r
  all_goals
    (refine acalls_go ttOk zOk foOk Tryd.func72 rfl Tryd.ntmps72 rfl false rfl ?_); (conv => whnf)
    refine rdw ?_; repeat' ((with_reducible apply tw) <;> intro _)
    · rename_i h
      refine ⟨boolEq ?_, rfl⟩
      rw [decide_eq_true_iff]
      refine ⟨fun h => (by cases h), fun h0 => absurd ?_ h⟩
      obtain rfl := List.eq_nil_of_length_eq_zero h0
      rfl
    · rename_i h
      have h0 : l = [] := by
        have h1 : ((txsD l).length : Int) = 0 := by first | exact h | exact h.symm
        exact List.eq_nil_of_length_eq_zero (by omega)
      subst h0
      refine loop_some ttOk zOk foOk 1 ?_
      conv => whnf
      refine rdw ?_; repeat' ((with_reducible apply tw) <;> intro _)
      exact ⟨rfl, rfl⟩
theorem eqBatch0 (a n : Int) (l : List Tx) (r : Bool) : ACalls Tryd.prog 58 (if r then [mAv [.int .i64 0, .int .i64 0, .sl 4 []], mAv [.int .i64 a, .int .i64 n, .sl 4 (txsD l)]] else [mAv [.int .i64 a, .int .i64 n, .sl 4 (txsD l)], mAv [.int .i64 0, .int .i64 0, .sl 4 []]]) []
    (fun av L => av = .d (.bool (decide (a = 0 ∧ n = 0 ∧ l.length = 0))) ∧ L = []) := by
  have h := eqTxs0 l r
  cases r
  all_goals
    (refine acalls_go ttOk zOk foOk Tryd.func58 rfl Tryd.ntmps58 rfl false rfl ?_); (conv => whnf)
    refine rdw ?_; repeat' ((with_reducible apply tw) <;> intro _)
    · rename_i k1 k2
      refine h.mono ?_
      rintro _ _ ⟨rfl, rfl⟩
      conv => whnf
      exact ⟨boolEq (by simp only [decide_eq_true_iff]; omega), rfl⟩
    · rename_i k1 k2
      exact ⟨boolEq (by simp only [decide_eq_true_iff, avOf1]; refine ⟨fun h => (by cases h), fun h => ?_⟩; omega), rfl⟩
    · rename_i k1
      exact ⟨boolEq (by simp only [decide_eq_true_iff, avOf1]; refine ⟨fun h => (by cases h), fun h => ?_⟩; omega), rfl⟩
theorem hd0_few : hd0.few := ⟨Nat.zero_le _, Nat.zero_le _⟩
theorem eqHeader0 (h : Hd) (hf : h.few) (r : Bool) : ACalls Tryd.prog 59 (if r then [mAv hd0.cs, mAv h.cs] else [mAv h.cs, mAv hd0.cs]) [] (fun av L => av = .d (.bool h.zero) ∧ L = []) := by
  cases r
  · refine (eqHeader_ok h hd0 hf).mono ?_
    rintro _ _ ⟨rfl, rfl⟩
    exact ⟨boolEq (by rw [decide_eq_true_iff]; simp only [Hd.zero, Bool.and_eq_true, decide_eq_true_iff]; exact Iff.rfl), rfl⟩
  · refine (eqHeader_ok hd0 h hd0_few).mono ?_
    rintro _ _ ⟨rfl, rfl⟩
    refine ⟨boolEq ?_, rfl⟩
    rw [decide_eq_true_iff]
    simp only [Hd.zero, Bool.and_eq_true, decide_eq_true_iff]
    exact ⟨fun ⟨a, b, c, d⟩ => ⟨a.symm, b.symm, c.symm, d.symm⟩, fun ⟨a, b, c, d⟩ => ⟨a.symm, b.symm, c.symm, d.symm⟩⟩
theorem eqNumbers0 (l : List Int) (hl : few l) (r : Bool) : ACalls Tryd.prog 42 (if r then [.d (.sl 1 []), .d (.sl 1 (nums l))] else [.d (.sl 1 (nums l)), .d (.sl 1 [])]) [] (fun av L => av = .d (.bool (decide (l.length = 0))) ∧ L = []) := by
  cases r
  · refine (eqNumbers_ok l [] hl).mono ?_
    rintro _ _ ⟨rfl, rfl⟩
    exact ⟨boolEq (by simp), rfl⟩
  · refine (eqNumbers_ok [] l (Nat.zero_le _)).mono ?_
    rintro _ _ ⟨rfl, rfl⟩
    exact ⟨boolEq (by simp only [decide_eq_true_iff]; exact ⟨fun h => by rw [← h]; rfl, fun h => (List.eq_nil_of_length_eq_zero h).symm⟩), rfl⟩
def cAv (h : Hd) (d : Int) (l : List Int) : AV := mAv (h.cs ++ [.int .i64 d, .sl 1 (nums l)])
theorem eqCert0 (h : Hd) (hf : h.few) (d : Int) (l : List Int) (hl : few l) (r : Bool) : ACalls Tryd.prog 60 (if r then [cAv hd0 0 [], cAv h d l] else [cAv h d l, cAv hd0 0 []]) [] (fun av L => av = .d (.bool (h.zero && (decide (d = 0) && decide (l.length = 0)))) ∧ L = []) := by
  have e1 := eqHeader0 h hf r
  have e2 := eqNumbers0 l hl r
  obtain ⟨z, hz⟩ : ∃ z, h.zero = z := ⟨_, rfl⟩
  rw [hz] at e1 ⊢
  cases r
  all_goals
    cases z
    all_goals
      (refine acalls_go ttOk zOk foOk Tryd.func60 rfl Tryd.ntmps60 rfl false rfl ?_); (conv => whnf)
      refine rdw ?_; repeat' ((with_reducible apply tw) <;> intro _)
      refine e1.mono ?_
      rintro _ _ ⟨rfl, rfl⟩
      conv => whnf
      refine rdw ?_; repeat' ((with_reducible apply tw) <;> intro _)
    · exact ⟨rfl, rfl⟩
    · rename_i k1
      refine e2.mono ?_
      rintro _ _ ⟨rfl, rfl⟩
      conv => whnf
      exact ⟨boolEq (by first | simp [k1] | simp [← k1]), rfl⟩
    · rename_i k1
      exact ⟨boolEq (by simp only [decide_eq_true_iff, avOf1, Bool.and_eq_true]; refine ⟨fun h => (by cases h), fun h => ?_⟩; first | exact absurd h.2.1 k1 | exact absurd h.2.1.symm k1), rfl⟩
theorem eqMsg0 (m : Msg) (hf : m.few) (r : Bool) : ACalls Tryd.prog 43 (if r then [mAv msg0.cs, mAv m.cs] else [mAv m.cs, mAv msg0.cs]) [] (fun av L => av = .d (.bool m.zero) ∧ L = []) := by
  have e1 := eqBatch0 m.ba m.bn m.txs r
  have e2 := eqHeader0 m.head hf.head r
  have e3 := eqCert0 m.chead hf.chead m.cdig m.sigs hf.sigs r
  have e4 := eqNumbers0 m.digs hf.digs r
  cases r
  all_goals
    (refine acalls_go ttOk zOk foOk Tryd.func43 rfl Tryd.ntmps43 rfl false rfl ?_); (conv => whnf)
    refine rdw ?_; repeat' ((with_reducible apply tw) <;> intro _)
    · refine e1.mono ?_
      rintro _ _ ⟨rfl, rfl⟩
      conv => whnf
      refine rdw ?_; repeat' ((with_reducible apply tw) <;> intro _)
      · refine e2.mono ?_
        rintro _ _ ⟨rfl, rfl⟩
        conv => whnf
        refine rdw ?_; repeat' ((with_reducible apply tw) <;> intro _)
        · refine e3.mono ?_
          rintro _ _ ⟨rfl, rfl⟩
          conv => whnf
          refine rdw ?_; repeat' ((with_reducible apply tw) <;> intro _)
          · refine e4.mono ?_
            rintro _ _ ⟨rfl, rfl⟩
            conv => whnf
            rename_i k1 k2 k3 k4 k5 k6 k7
            simp only [Bool.and_eq_true, decide_eq_true_iff] at k7
            refine ⟨boolEq ?_, rfl⟩
            rw [Msg.zero_iff, decide_eq_true_iff]
            exact ⟨fun h => ⟨by first | exact k1 | exact k1.symm, by first | exact k2 | exact k2.symm, by first | exact k3 | exact k3.symm, by first | exact k4 | exact k4.symm, k5.1, k5.2.1, k5.2.2, k6, k7.1, k7.2.1, k7.2.2, h⟩, fun h => h.2.2.2.2.2.2.2.2.2.2.2⟩
          · rename_i k7
            refine ⟨boolEq ⟨fun h => (by cases h), fun h => ?_⟩, rfl⟩
            obtain ⟨-, -, -, -, -, -, -, -, h1, h2, h3, -⟩ := (Msg.zero_iff m).1 h
            rw [h1, decide_eq_true h2, decide_eq_true h3] at k7
            cases k7
        · rename_i k6
          refine ⟨boolEq ⟨fun h => (by cases h), fun h => ?_⟩, rfl⟩
          obtain ⟨-, -, -, -, -, -, -, h1, -⟩ := (Msg.zero_iff m).1 h
          rw [h1] at k6
          cases k6
      · rename_i k5
        refine ⟨boolEq ⟨fun h => (by cases h), fun h => ?_⟩, rfl⟩
        obtain ⟨-, -, -, -, h1, h2, h3, -⟩ := (Msg.zero_iff m).1 h
        exact absurd ⟨h1, h2, h3⟩ k5
    all_goals
      refine ⟨boolEq ⟨fun h => (by cases h), fun h => ?_⟩, rfl⟩
      rename_i k
      obtain ⟨h1, h2, h3, h4, -⟩ := (Msg.zero_iff m).1 h
      first | exact absurd h1 k | exact absurd h2 k | exact absurd h3 k | exact absurd h4 k | exact absurd h1.symm k | exact absurd h2.symm k | exact absurd h3.symm k | exact absurd h4.symm k
def actD (a : Sa) (m : Msg) : List DV := [.int .i64 a.kind, .int .i64 a.node, .int .i64 a.peer, .int .i64 a.n, .sl 1 (nums a.picks), .int .i64 a.sender, .int .i64 a.seq, .str (bw a.key), .str (bw a.val)] ++ m.cs ++ [.sl 1 (u8s a.bytes)]
def actA (a : Sa) (m : Msg) : AV := mAv (actD a m)
def formC (f : Int × W × W) : AB := .cells [.d (.int .i64 f.1), .d (.str (bw f.2.1)), .d (.str (bw f.2.2))]
theorem has_ok (f : Int × W × W) (c : UInt8) : ACalls Tryd.prog 44 [.d (.str (bw [c])), .ptr 0 0] [formC f] (fun av L => av = .d (.bool (decide (0 ≤ Lib.indexByte f.2.2 c))) ∧ L = [formC f]) := by
  have h := contains_ok (bw f.2.2) c
  (refine acalls_go ttOk zOk foOk Tryd.func44 rfl Tryd.ntmps44 rfl false rfl ?_); (conv => whnf)
  refine rdw ?_; repeat' ((with_reducible apply tw) <;> intro _)
  refine h.mono ?_
  rintro _ _ ⟨rfl, rfl⟩
  conv => whnf
  exact ⟨rfl, rfl⟩
theorem only_iff (has : W) (a : Sa) : onlyS has a = true ↔ ((110 : UInt8) ∈ has ∨ a.node = 0) ∧ ((112 : UInt8) ∈ has ∨ a.peer = 0) ∧ ((107 : UInt8) ∈ has ∨ a.n = 0) ∧ ((116 : UInt8) ∈ has ∨ a.sender = 0 ∧ a.seq = 0 ∧ a.key = [] ∧ a.val = []) ∧ ((98 : UInt8) ∈ has ∨ a.bytes = []) ∧ ((108 : UInt8) ∈ has ∨ a.picks = []) ∧ a.quiet = true := by
  refine ⟨only_at, fun ⟨h1, h2, h3, h4, h5, h6, h7⟩ => ?_⟩
  simp only [onlyS, Bool.and_eq_true, Bool.or_eq_true, decide_eq_true_iff]
  exact ⟨⟨⟨⟨⟨⟨h1, h2⟩, h3⟩, h4⟩, h5⟩, h6⟩, h7⟩
theorem bw_nil (w : W) : ((bw w).toList == (⟨#[]⟩ : ByteArray).toList) = true ↔ w = [] := by
  rw [ByteArray.toList_eq, ByteArray.toList_eq, beq_iff_eq]
  exact Iff.rfl
theorem txz_iff (a : Sa) : (a.sender == 0 && (a.seq == 0 && ((bw a.key).toList == (⟨#[]⟩ : ByteArray).toList && ((bw a.val).toList == (⟨#[]⟩ : ByteArray).toList && true)))) = true ↔ a.sender = 0 ∧ a.seq = 0 ∧ a.key = [] ∧ a.val = [] := by
  simp only [Bool.and_eq_true, beq_iff_eq, bw_nil, and_true]
  rw [← bw_nil a.key, ← bw_nil a.val]
  simp only [beq_iff_eq]
theorem lenB {a : Sa} (h : a.bytes = []) : (((u8s a.bytes).length : Nat) : Int) = 0 := by rw [h]; rfl
theorem lenP {a : Sa} (h : a.picks = []) : (((nums a.picks).length : Nat) : Int) = 0 := by rw [h]; rfl
theorem lenB' {a : Sa} (h : (((u8s a.bytes).length : Nat) : Int) = 0) : a.bytes = [] := List.eq_nil_of_length_eq_zero (by rw [u8s_length] at h; omega)
theorem lenP' {a : Sa} (h : (((nums a.picks).length : Nat) : Int) = 0) : a.picks = [] := List.eq_nil_of_length_eq_zero (by rw [nums_length] at h; omega)
theorem only_ok {f : Int × W × W} (hf : f ∈ formsL) (a : Sa) (m : Msg) (hm : m.few) (hq : a.quiet = m.zero) : ACalls Tryd.prog 29 [formA f, actA a m] [] (fun av L => av = .d (.bool (onlyS f.2.2 a)) ∧ L = []) := by
  have hs := silent_ok m hm
  have hn := has_ok f 110
  have hp := has_ok f 112
  have hk := has_ok f 107
  have ht := has_ok f 116
  have hb := has_ok f 98
  have hl := has_ok f 108
  obtain ⟨q, hq2⟩ : ∃ q, m.zero = q := ⟨_, rfl⟩
  rw [hq2] at hs hq
  simp only [formsL, List.mem_cons, List.not_mem_nil, or_false] at hf
  rcases hf with rfl | rfl | rfl | rfl | rfl | rfl | rfl | rfl | rfl | rfl
  all_goals
    (refine acalls_go ttOk zOk foOk Tryd.func29 rfl Tryd.ntmps29 rfl false rfl ?_); (conv => whnf)
    repeat' (first | (first | ((with_reducible first | apply rd_intro | apply gd_and); (focus ((conv => whnf) <;> first | rfl | (intro K hK; (conv => whnf); first | exact hK | exact z_wrap (by omega) hK))); conv => whnf) | ((with_reducible apply z_wrap); (focus omega); conv => whnf) | ((with_reducible first | apply mt_dec | apply mt_eq | apply mt_ne | apply mt_not | apply mt_any) <;> (intro _; conv => whnf))) | ((first | refine hn.mono ?_ | refine hp.mono ?_ | refine hk.mono ?_ | refine ht.mono ?_ | refine hb.mono ?_ | refine hl.mono ?_ | refine hs.mono ?_); (rintro _ _ ⟨rfl, rfl⟩); (conv => whnf)) | (refine And.intro (show eqOkB _ _ _ = true by kernel_rfl) ?_; (conv => whnf)) | fail)
    all_goals refine ⟨boolEq ?_, rfl⟩
    all_goals rw [only_iff]
    all_goals
      first
        | (refine ⟨fun h => (by cases h), ?_⟩
           rename_i k
           rintro ⟨h1, h2, h3, h4, h5, h6, h7⟩
           first
             | exact absurd (h1.resolve_left (by decide)) k
             | exact absurd (h2.resolve_left (by decide)) k
             | exact absurd (h3.resolve_left (by decide)) k
             | (rw [(txz_iff a).2 (h4.resolve_left (by decide))] at k; cases k)
             | exact absurd (lenB (h5.resolve_left (by decide))) k
             | exact absurd (lenP (h6.resolve_left (by decide))) k
             | fail)
        | (refine ⟨fun h => ⟨?_, ?_, ?_, ?_, ?_, ?_, hq.trans h⟩, fun h => hq.symm.trans h.2.2.2.2.2.2⟩
           all_goals first
             | exact .inl (by decide)
             | exact .inr (by assumption)
             | exact .inr ((txz_iff a).1 (by assumption))
             | exact .inr (lenB' (by assumption))
             | exact .inr (lenP' (by assumption))
             | fail)
        | fail
structure Sa.fine (a : Sa) : Prop where
  fit : a.fit
  picks : a.picks.length ≤ 1000000
  key : a.key.length ≤ 1000000
  val : a.val.length ≤ 1000000
  bytes : a.bytes.length ≤ 1000000
theorem wsD_snoc (l : List W) (w : W) : wsD l ++ [[.str (bw w)]] = wsD (l ++ [w]) := by simp [wsD]
theorem pwords_n (k : Int) (u : W) (a : Sa) (m : Msg) (ha : Sa.fine a) : ACalls Tryd.prog 31 [formA (k, u, [110]), actA a m] [] (fun av L => av = .d (.sl 1 (wsD (u :: wordsOf [110] a))) ∧ L = []) := by
  have hn := itoa_ok a.node ha.fit.node
  (refine acalls_go ttOk zOk foOk Tryd.func31 rfl Tryd.ntmps31 rfl false rfl ?_); (conv => whnf)
  refine rdw ?_; repeat' ((with_reducible apply tw) <;> intro _)
  refine loop_some ttOk zOk foOk 2 ?_
  conv => whnf
  repeat' (first | (first | ((with_reducible first | apply rd_intro | apply gd_and); (focus ((conv => whnf) <;> first | rfl | (intro K hK; (conv => whnf); first | exact hK | exact z_wrap (by omega) hK))); conv => whnf) | ((with_reducible apply z_wrap); (focus omega); conv => whnf) | ((with_reducible first | apply mt_dec | apply mt_eq | apply mt_ne | apply mt_not | apply mt_any) <;> (intro _; conv => whnf))) | ((first | refine hn.mono ?_); (rintro _ _ ⟨rfl, rfl⟩); (conv => whnf)) | (refine And.intro (show _ ≤ 140737488355328 from Nat.le_of_ble_eq_true rfl) ?_; (conv => whnf)) | fail)
  exact ⟨rfl, rfl⟩
theorem pwords_k (k : Int) (u : W) (a : Sa) (m : Msg) (ha : Sa.fine a) : ACalls Tryd.prog 31 [formA (k, u, [107]), actA a m] [] (fun av L => av = .d (.sl 1 (wsD (u :: wordsOf [107] a))) ∧ L = []) := by
  have hk := itoa_ok a.n ha.fit.n
  (refine acalls_go ttOk zOk foOk Tryd.func31 rfl Tryd.ntmps31 rfl false rfl ?_); (conv => whnf)
  refine rdw ?_; repeat' ((with_reducible apply tw) <;> intro _)
  refine loop_some ttOk zOk foOk 2 ?_
  conv => whnf
  repeat' (first | (first | ((with_reducible first | apply rd_intro | apply gd_and); (focus ((conv => whnf) <;> first | rfl | (intro K hK; (conv => whnf); first | exact hK | exact z_wrap (by omega) hK))); conv => whnf) | ((with_reducible apply z_wrap); (focus omega); conv => whnf) | ((with_reducible first | apply mt_dec | apply mt_eq | apply mt_ne | apply mt_not | apply mt_any) <;> (intro _; conv => whnf))) | ((first | refine hk.mono ?_); (rintro _ _ ⟨rfl, rfl⟩); (conv => whnf)) | (refine And.intro (show _ ≤ 140737488355328 from Nat.le_of_ble_eq_true rfl) ?_; (conv => whnf)) | fail)
  exact ⟨rfl, rfl⟩
theorem pwords_npk (k : Int) (u : W) (a : Sa) (m : Msg) (ha : Sa.fine a) : ACalls Tryd.prog 31 [formA (k, u, [110, 112, 107]), actA a m] [] (fun av L => av = .d (.sl 1 (wsD (u :: wordsOf [110, 112, 107] a))) ∧ L = []) := by
  have hn := itoa_ok a.node ha.fit.node
  have hp := itoa_ok a.peer ha.fit.peer
  have hk := itoa_ok a.n ha.fit.n
  (refine acalls_go ttOk zOk foOk Tryd.func31 rfl Tryd.ntmps31 rfl false rfl ?_); (conv => whnf)
  refine rdw ?_; repeat' ((with_reducible apply tw) <;> intro _)
  refine loop_some ttOk zOk foOk 4 ?_
  conv => whnf
  repeat' (first | (first | ((with_reducible first | apply rd_intro | apply gd_and); (focus ((conv => whnf) <;> first | rfl | (intro K hK; (conv => whnf); first | exact hK | exact z_wrap (by omega) hK))); conv => whnf) | ((with_reducible apply z_wrap); (focus omega); conv => whnf) | ((with_reducible first | apply mt_dec | apply mt_eq | apply mt_ne | apply mt_not | apply mt_any) <;> (intro _; conv => whnf))) | ((first | refine hn.mono ?_ | refine hp.mono ?_ | refine hk.mono ?_); (rintro _ _ ⟨rfl, rfl⟩); (conv => whnf)) | (refine And.intro (show _ ≤ 140737488355328 from Nat.le_of_ble_eq_true rfl) ?_; (conv => whnf)) | fail)
  exact ⟨rfl, rfl⟩
theorem pwords_npb (k : Int) (u : W) (a : Sa) (m : Msg) (ha : Sa.fine a) : ACalls Tryd.prog 31 [formA (k, u, [110, 112, 98]), actA a m] [] (fun av L => av = .d (.sl 1 (wsD (u :: wordsOf [110, 112, 98] a))) ∧ L = []) := by
  have hn := itoa_ok a.node ha.fit.node
  have hp := itoa_ok a.peer ha.fit.peer
  have hb := hex_ok (bw a.bytes) (Nat.le_trans ha.bytes (by decide))
  (refine acalls_go ttOk zOk foOk Tryd.func31 rfl Tryd.ntmps31 rfl false rfl ?_); (conv => whnf)
  refine rdw ?_; repeat' ((with_reducible apply tw) <;> intro _)
  refine loop_some ttOk zOk foOk 4 ?_
  conv => whnf
  repeat' (first | (first | ((with_reducible first | apply rd_intro | apply gd_and); (focus ((conv => whnf) <;> first | rfl | (intro K hK; (conv => whnf); first | exact hK | exact z_wrap (by omega) hK))); conv => whnf) | ((with_reducible apply z_wrap); (focus omega); conv => whnf) | ((with_reducible first | apply mt_dec | apply mt_eq | apply mt_ne | apply mt_not | apply mt_any) <;> (intro _; conv => whnf))) | ((first | refine hn.mono ?_ | refine hp.mono ?_ | refine hb.mono ?_); (rintro _ _ ⟨rfl, rfl⟩); (conv => whnf)) | (refine And.intro (show _ ≤ 140737488355328 from Nat.le_of_ble_eq_true rfl) ?_; (conv => whnf)) | fail)
  refine ⟨a.bytes, rfl, ?_⟩
  conv => whnf
  refine hb.mono ?_
  rintro _ _ ⟨rfl, rfl⟩
  conv => whnf
  repeat' (first | (first | ((with_reducible first | apply rd_intro | apply gd_and); (focus ((conv => whnf) <;> first | rfl | (intro K hK; (conv => whnf); first | exact hK | exact z_wrap (by omega) hK))); conv => whnf) | ((with_reducible apply z_wrap); (focus omega); conv => whnf) | ((with_reducible first | apply mt_dec | apply mt_eq | apply mt_ne | apply mt_not | apply mt_any) <;> (intro _; conv => whnf))) | (refine And.intro (show _ ≤ 140737488355328 from Nat.le_of_ble_eq_true rfl) ?_; (conv => whnf)) | fail)
  exact ⟨rfl, rfl⟩
theorem pwords_nt (k : Int) (u : W) (a : Sa) (m : Msg) (ha : Sa.fine a) : ACalls Tryd.prog 31 [formA (k, u, [110, 116]), actA a m] [] (fun av L => av = .d (.sl 1 (wsD (u :: wordsOf [110, 116] a))) ∧ L = []) := by
  have hn := itoa_ok a.node ha.fit.node
  have hs := itoa_ok a.sender ha.fit.sender
  have hq := itoa_ok a.seq ha.fit.seq
  have he := hex_ok (bw a.key) (Nat.le_trans ha.key (by decide))
  have hv := hex_ok (bw a.val) (Nat.le_trans ha.val (by decide))
  (refine acalls_go ttOk zOk foOk Tryd.func31 rfl Tryd.ntmps31 rfl false rfl ?_); (conv => whnf)
  refine rdw ?_; repeat' ((with_reducible apply tw) <;> intro _)
  refine loop_some ttOk zOk foOk 3 ?_
  conv => whnf
  repeat' (first | (first | ((with_reducible first | apply rd_intro | apply gd_and); (focus ((conv => whnf) <;> first | rfl | (intro K hK; (conv => whnf); first | exact hK | exact z_wrap (by omega) hK))); conv => whnf) | ((with_reducible apply z_wrap); (focus omega); conv => whnf) | ((with_reducible first | apply mt_dec | apply mt_eq | apply mt_ne | apply mt_not | apply mt_any) <;> (intro _; conv => whnf))) | ((first | refine hn.mono ?_ | refine hs.mono ?_ | refine hq.mono ?_ | refine he.mono ?_ | refine hv.mono ?_); (rintro _ _ ⟨rfl, rfl⟩); (conv => whnf)) | (refine And.intro (show _ ≤ 140737488355328 from Nat.le_of_ble_eq_true rfl) ?_; (conv => whnf)) | fail)
  ((with_reducible refine draw_pl ttOk zOk foOk mixedOk pl31x18 ?_ ?_); (focus kernel_rfl); (conv => whnf))
  repeat' (first | (first | ((with_reducible first | apply rd_intro | apply gd_and); (focus ((conv => whnf) <;> first | rfl | (intro K hK; (conv => whnf); first | exact hK | exact z_wrap (by omega) hK))); conv => whnf) | ((with_reducible apply z_wrap); (focus omega); conv => whnf) | ((with_reducible first | apply mt_dec | apply mt_eq | apply mt_ne | apply mt_not | apply mt_any) <;> (intro _; conv => whnf))) | ((first | refine hs.mono ?_ | refine hq.mono ?_ | refine he.mono ?_ | refine hv.mono ?_); (rintro _ _ ⟨rfl, rfl⟩); (conv => whnf)) | (refine And.intro (show _ ≤ 140737488355328 from Nat.le_of_ble_eq_true rfl) ?_; (conv => whnf)) | fail)
  exact ⟨rfl, rfl⟩
theorem wordsOf_nl (a : Sa) : wordsOf [110, 108] a = Lib.itoa a.node :: a.picks.map Lib.itoa := by
  show Lib.itoa a.node :: (a.picks.map Lib.itoa ++ []) = _
  rw [List.append_nil]
theorem wordsOf_nkl (a : Sa) : wordsOf [110, 107, 108] a = Lib.itoa a.node :: Lib.itoa a.n :: a.picks.map Lib.itoa := by
  show Lib.itoa a.node :: Lib.itoa a.n :: (a.picks.map Lib.itoa ++ []) = _
  rw [List.append_nil]
def plSt (f : Int × W × W) (a : Sa) (m : Msg) (pre : List W) (p : Nat) (j : Nat) : AF × List AB :=
  ([(2, .ptr 0 0), (3, .ptr 1 0), (5, .arr 2), (15, .ptr 3 0), (21, .d (.sl 1 (nums a.picks))), (22, .d (.int .i64 ((nums a.picks).length : Nat))), (23, .d (.int .i64 (j : Int)))],
    [formC f, .cells ((actD a m).map AV.d), .row 9 1 (wsD (pre ++ (a.picks.take j).map Lib.itoa)) false, .obj (.stringIter (bw f.2.2) p)])
theorem pwords_nl (k : Int) (u : W) (a : Sa) (m : Msg) (ha : Sa.fine a) : ACalls Tryd.prog 31 [formA (k, u, [110, 108]), actA a m] [] (fun av L => av = .d (.sl 1 (wsD (u :: wordsOf [110, 108] a))) ∧ L = []) := by
  have hn := itoa_ok a.node ha.fit.node
  (refine acalls_go ttOk zOk foOk Tryd.func31 rfl Tryd.ntmps31 rfl false rfl ?_); (conv => whnf)
  refine rdw ?_; repeat' ((with_reducible apply tw) <;> intro _)
  refine loop_some ttOk zOk foOk 3 ?_
  conv => whnf
  repeat' (first | (first | ((with_reducible first | apply rd_intro | apply gd_and); (focus ((conv => whnf) <;> first | rfl | (intro K hK; (conv => whnf); first | exact hK | exact z_wrap (by omega) hK))); conv => whnf) | ((with_reducible apply z_wrap); (focus omega); conv => whnf) | ((with_reducible first | apply mt_dec | apply mt_eq | apply mt_ne | apply mt_not | apply mt_any) <;> (intro _; conv => whnf))) | ((first | refine hn.mono ?_); (rintro _ _ ⟨rfl, rfl⟩); (conv => whnf)) | (refine And.intro (show _ ≤ 140737488355328 from Nat.le_of_ble_eq_true rfl) ?_; (conv => whnf)) | fail)
  refine loop_go ttOk zOk foOk (σ := Nat) (plSt (k, u, [110, 108]) a m [u, Lib.itoa a.node] 2) (fun j => j ≤ a.picks.length) (fun j => a.picks.length - j) [2, 3, 5, 15, 21, 22, 23] ?_ ?_
  · conv => whnf
    exact ⟨0, rfl, rfl, Nat.zero_le _⟩
  · intro j hj
    have hpl := nums_length a.picks
    have hpm := ha.picks
    conv => whnf
    refine rdw ?_; repeat' ((with_reducible apply tw) <;> intro _)
    · rename_i hlt
      replace hlt : (j : Int) < ((nums a.picks).length : Nat) := hlt
      refine Exists.elim (⟨_, List.getElem?_eq_getElem (by omega)⟩ : ∃ n, a.picks[j]? = some n) fun n hn' => ?_
      have hit := itoa_ok n (ha.fit.picks n (List.mem_of_getElem? hn'))
      refine ⟨by omega, [.int .i64 n], nums_at hn', ?_⟩
      conv => whnf
      refine rdw ?_; repeat' ((with_reducible apply tw) <;> intro _)
      refine hit.mono ?_
      rintro _ _ ⟨rfl, rfl⟩
      conv => whnf
      refine ⟨by show ((wsD _).length + 1) * 16 ≤ 140737488355328; rw [wsD_length]; simp only [List.length_append, List.length_map, List.length_take, List.length_cons, List.length_nil]; omega, ?_⟩
      conv => whnf
      refine rdw ?_; repeat' ((with_reducible apply tw) <;> intro _)
      refine ⟨j + 1, rfl, ?_, by omega, by omega⟩
      show _ = [formC _, .cells ((actD a m).map AV.d), .row 9 1 (wsD ([u, Lib.itoa a.node] ++ (a.picks.take (j + 1)).map Lib.itoa)) false, .obj (.stringIter (bw [110, 108]) 2)]
      rw [take_snoc hn', List.map_append, ← List.append_assoc]
      show _ = [formC _, _, .row 9 1 (wsD (([u, Lib.itoa a.node] ++ (a.picks.take j).map Lib.itoa) ++ [Lib.itoa n])) false, _]
      rw [← wsD_snoc]
      rfl
    · rename_i hlt
      replace hlt : ¬ (j : Int) < ((nums a.picks).length : Nat) := hlt
      have hj2 : j = a.picks.length := by omega
      rw [hj2, List.take_length, wordsOf_nl]
      exact ⟨rfl, rfl⟩
theorem pwords_nkl (k : Int) (u : W) (a : Sa) (m : Msg) (ha : Sa.fine a) : ACalls Tryd.prog 31 [formA (k, u, [110, 107, 108]), actA a m] [] (fun av L => av = .d (.sl 1 (wsD (u :: wordsOf [110, 107, 108] a))) ∧ L = []) := by
  have hn := itoa_ok a.node ha.fit.node
  have hk := itoa_ok a.n ha.fit.n
  (refine acalls_go ttOk zOk foOk Tryd.func31 rfl Tryd.ntmps31 rfl false rfl ?_); (conv => whnf)
  refine rdw ?_; repeat' ((with_reducible apply tw) <;> intro _)
  refine loop_some ttOk zOk foOk 4 ?_
  conv => whnf
  repeat' (first | (first | ((with_reducible first | apply rd_intro | apply gd_and); (focus ((conv => whnf) <;> first | rfl | (intro K hK; (conv => whnf); first | exact hK | exact z_wrap (by omega) hK))); conv => whnf) | ((with_reducible apply z_wrap); (focus omega); conv => whnf) | ((with_reducible first | apply mt_dec | apply mt_eq | apply mt_ne | apply mt_not | apply mt_any) <;> (intro _; conv => whnf))) | ((first | refine hn.mono ?_ | refine hk.mono ?_); (rintro _ _ ⟨rfl, rfl⟩); (conv => whnf)) | (refine And.intro (show _ ≤ 140737488355328 from Nat.le_of_ble_eq_true rfl) ?_; (conv => whnf)) | fail)
  refine loop_go ttOk zOk foOk (σ := Nat) (plSt (k, u, [110, 107, 108]) a m [u, Lib.itoa a.node, Lib.itoa a.n] 3) (fun j => j ≤ a.picks.length) (fun j => a.picks.length - j) [2, 3, 5, 15, 21, 22, 23] ?_ ?_
  · conv => whnf
    exact ⟨0, rfl, rfl, Nat.zero_le _⟩
  · intro j hj
    have hpl := nums_length a.picks
    have hpm := ha.picks
    conv => whnf
    refine rdw ?_; repeat' ((with_reducible apply tw) <;> intro _)
    · rename_i hlt
      replace hlt : (j : Int) < ((nums a.picks).length : Nat) := hlt
      refine Exists.elim (⟨_, List.getElem?_eq_getElem (by omega)⟩ : ∃ n, a.picks[j]? = some n) fun n hn' => ?_
      have hit := itoa_ok n (ha.fit.picks n (List.mem_of_getElem? hn'))
      refine ⟨by omega, [.int .i64 n], nums_at hn', ?_⟩
      conv => whnf
      refine rdw ?_; repeat' ((with_reducible apply tw) <;> intro _)
      refine hit.mono ?_
      rintro _ _ ⟨rfl, rfl⟩
      conv => whnf
      refine ⟨by show ((wsD _).length + 1) * 16 ≤ 140737488355328; rw [wsD_length]; simp only [List.length_append, List.length_map, List.length_take, List.length_cons, List.length_nil]; omega, ?_⟩
      conv => whnf
      refine rdw ?_; repeat' ((with_reducible apply tw) <;> intro _)
      refine ⟨j + 1, rfl, ?_, by omega, by omega⟩
      show _ = [formC _, .cells ((actD a m).map AV.d), .row 9 1 (wsD ([u, Lib.itoa a.node, Lib.itoa a.n] ++ (a.picks.take (j + 1)).map Lib.itoa)) false, .obj (.stringIter (bw [110, 107, 108]) 3)]
      rw [take_snoc hn', List.map_append, ← List.append_assoc]
      show _ = [formC _, _, .row 9 1 (wsD (([u, Lib.itoa a.node, Lib.itoa a.n] ++ (a.picks.take j).map Lib.itoa) ++ [Lib.itoa n])) false, _]
      rw [← wsD_snoc]
      rfl
    · rename_i hlt
      replace hlt : ¬ (j : Int) < ((nums a.picks).length : Nat) := hlt
      have hj2 : j = a.picks.length := by omega
      rw [hj2, List.take_length, wordsOf_nkl]
      exact ⟨rfl, rfl⟩
theorem pwords_ok {f : Int × W × W} (hf : f ∈ formsL) (a : Sa) (m : Msg) (ha : Sa.fine a) : ACalls Tryd.prog 31 [formA f, actA a m] [] (fun av L => av = .d (.sl 1 (wsD (f.2.1 :: wordsOf f.2.2 a))) ∧ L = []) := by
  simp only [formsL, List.mem_cons, List.not_mem_nil, or_false] at hf
  rcases hf with rfl | rfl | rfl | rfl | rfl | rfl | rfl | rfl | rfl | rfl
  · exact pwords_n _ _ a m ha
  · exact pwords_nt _ _ a m ha
  · exact pwords_npk _ _ a m ha
  · exact pwords_npk _ _ a m ha
  · exact pwords_npk _ _ a m ha
  · exact pwords_nl _ _ a m ha
  · exact pwords_n _ _ a m ha
  · exact pwords_nkl _ _ a m ha
  · exact pwords_npb _ _ a m ha
  · exact pwords_k _ _ a m ha
theorem join_len (B : Nat) : ∀ l : List W, (∀ w ∈ l, w.length ≤ B) → (joinF l).length ≤ l.length * (B + 1)
  | [], _ => Nat.zero_le _
  | [w], h => by
    have := h w List.mem_cons_self
    show w.length ≤ 1 * (B + 1)
    omega
  | w :: x :: t, h => by
    have ih := join_len B (x :: t) fun y hy => h y (List.mem_cons_of_mem _ hy)
    have := h w List.mem_cons_self
    have e : (joinF (w :: x :: t)).length = w.length + (1 + (joinF (x :: t)).length) := by
      rw [joinF]; simp only [List.length_append, List.length_cons]; omega
    have e2 : (w :: x :: t).length * (B + 1) = (x :: t).length * (B + 1) + (B + 1) := by
      simp only [List.length_cons, Nat.add_mul, Nat.one_mul]
    rw [e, e2]
    omega
theorem hexW_len (b : W) : (hexW b).length ≤ 2 * b.length + 1 := by
  unfold hexW
  split
  · simp
  · rw [hexL_len]; omega
theorem wordC_len {c : UInt8} {a : Sa} (ha : Sa.fine a) : (wordC c a).length ≤ 1000004 ∧ ∀ w ∈ wordC c a, w.length ≤ 2000001 := by
  have it : ∀ {n : Int} (w : W), i64S n → w = Lib.itoa n → w.length ≤ 2000001 := fun w h e => by
    have := Lib.itoa_length_le _ h.1 h.2
    rw [e]; omega
  have hx : ∀ (b w : W), b.length ≤ 1000000 → w = hexW b → w.length ≤ 2000001 := fun b w h e => by
    have := hexW_len b
    rw [e]; omega
  have hp := ha.picks
  unfold wordC
  split
  · exact ⟨by simp, fun w hw => it w ha.fit.node (by simpa using hw)⟩
  · split
    · exact ⟨by simp, fun w hw => it w ha.fit.peer (by simpa using hw)⟩
    · split
      · exact ⟨by simp, fun w hw => it w ha.fit.n (by simpa using hw)⟩
      · split
        · refine ⟨by simp, fun w hw => ?_⟩
          simp only [List.mem_cons, List.not_mem_nil, or_false] at hw
          rcases hw with h | h | h | h
          · exact it w ha.fit.sender h
          · exact it w ha.fit.seq h
          · exact hx _ w ha.key h
          · exact hx _ w ha.val h
        · split
          · exact ⟨by simp, fun w hw => hx _ w ha.bytes (by simpa using hw)⟩
          · refine ⟨by rw [List.length_map]; omega, fun w hw => ?_⟩
            obtain ⟨n, hn, rfl⟩ := List.mem_map.1 hw
            exact it _ (ha.fit.picks n hn) rfl
theorem wordsOf_len {a : Sa} (ha : Sa.fine a) : ∀ has : W, (wordsOf has a).length ≤ has.length * 1000004 ∧ ∀ w ∈ wordsOf has a, w.length ≤ 2000001
  | [] => ⟨Nat.zero_le _, fun w hw => by cases hw⟩
  | c :: t => by
    obtain ⟨i1, i2⟩ := wordsOf_len ha t
    obtain ⟨j1, j2⟩ := wordC_len (c := c) ha
    have e : wordsOf (c :: t) a = wordC c a ++ wordsOf t a := rfl
    rw [e]
    refine ⟨?_, fun w hw => ?_⟩
    · rw [List.length_append, List.length_cons, Nat.add_mul, Nat.one_mul]
      omega
    · rcases List.mem_append.1 hw with h | h
      · exact j2 w h
      · exact i2 w h
theorem forms_short : ∀ f ∈ formsL, f.2.2.length ≤ 3 ∧ f.2.1.length ≤ 7 := by decide
theorem line_len {f : Int × W × W} (hf : f ∈ formsL) {a : Sa} (ha : Sa.fine a) : (f.2.1 :: wordsOf f.2.2 a).length ≤ 3000013 ∧ (lineOf f a).length ≤ 140737488355328 := by
  obtain ⟨h1, h2⟩ := wordsOf_len ha f.2.2
  obtain ⟨h3, h4⟩ := forms_short f hf
  have hc : (f.2.1 :: wordsOf f.2.2 a).length ≤ 3000013 := by
    have := Nat.mul_le_mul_right 1000004 h3
    rw [List.length_cons]
    omega
  refine ⟨hc, ?_⟩
  have := join_len 2000001 (f.2.1 :: wordsOf f.2.2 a) fun w hw => by
    rcases List.mem_cons.1 hw with rfl | hw
    · omega
    · exact h2 w hw
  have h5 := Nat.mul_le_mul_right (2000001 + 1) hc
  unfold lineOf
  omega
def prSt (a : Sa) (m : Msg) (i : Nat) : AF × List AB := ([(1, .ptr 0 0), (6, .d (.sl 3 formsD)), (7, .d (.int .i64 ((formsD.length : Nat) : Int))), (8, .d (.int .i64 (i : Int)))], [.cells ((actD a m).map AV.d)])
theorem print_rok (a : Sa) (m : Msg) (ha : Sa.fine a) (hm : m.few) (hq : a.quiet = m.zero) (Q : AV → List AB → Prop)
    (hA : ∀ f, formOf a = some f → f ∈ formsL → Q (.tup [.d (.str (bw (lineOf f a))), .d (.int .i64 0)]) [])
    (hC : formOf a = none → Q (.tup [.d (.str ⟨#[]⟩), .d (.int .i64 1)]) []) : ACalls Tryd.prog 16 [actA a m] [] Q := by
  (refine acalls_go ttOk zOk foOk Tryd.func16 rfl Tryd.ntmps16 rfl false rfl ?_); (conv => whnf)
  refine rdz ?_; repeat' ((with_reducible apply tw) <;> intro _)
  (refine (forms_rok).mono ?_; rintro _ _ ⟨rfl, rfl⟩; (conv => whnf))
  refine rdz ?_; repeat' ((with_reducible apply tw) <;> intro _)
  refine loop_go ttOk zOk foOk (σ := Nat) (prSt a m) (fun i => i ≤ 10 ∧ ∀ f ∈ formsL.take i, f.1 = a.kind → onlyS f.2.2 a = false) (fun i => 10 - i) [1, 6, 7, 8] ?_ ?_
  · conv => whnf
    exact ⟨0, rfl, rfl, Nat.zero_le _, fun f hf => by cases hf⟩
  · rintro i ⟨hi, hno⟩
    conv => whnf
    refine rdz ?_; repeat' ((with_reducible apply tw) <;> intro _)
    · rename_i hlt
      replace hlt : (i : Int) < ((10 : Nat) : Int) := hlt
      refine Exists.elim (⟨_, List.getElem?_eq_getElem (by have : formsL.length = 10 := rfl; omega)⟩ : ∃ f, formsL[i]? = some f) fun f hf => ?_
      have hfm := List.mem_of_getElem? hf
      have ho := only_ok hfm a m hm hq
      have hw := pwords_ok hfm a m ha
      have hj := join_ok (f.2.1 :: wordsOf f.2.2 a) (Nat.le_trans (line_len hfm ha).1 (by decide)) (line_len hfm ha).2
      ((with_reducible refine ix_map hf ?_ ?_); (focus (first | rfl | omega)); (conv => whnf))
      refine rdz ?_; repeat' ((with_reducible apply tw) <;> intro _)
      · rename_i hk
        cases hb : onlyS f.2.2 a with
        | true =>
          rw [hb] at ho
          (refine (ho).mono ?_; rintro _ _ ⟨rfl, rfl⟩; (conv => whnf))
          refine rdz ?_; repeat' ((with_reducible apply tw) <;> intro _)
          (refine (hw).mono ?_; rintro _ _ ⟨rfl, rfl⟩; (conv => whnf))
          refine rdz ?_; repeat' ((with_reducible apply tw) <;> intro _)
          (refine (hj).mono ?_; rintro _ _ ⟨rfl, rfl⟩; (conv => whnf))
          refine rdz ?_; repeat' ((with_reducible apply tw) <;> intro _)
          refine hA f ?_ hfm
          refine find_form hfm (by rw [hb, Bool.and_true]; exact decide_eq_true hk) fun g _ hp => .inl ?_
          simp only [Bool.and_eq_true, decide_eq_true_iff] at hp
          rw [hk, hp.1]
        | false =>
          rw [hb] at ho
          (refine (ho).mono ?_; rintro _ _ ⟨rfl, rfl⟩; (conv => whnf))
          refine rdz ?_; repeat' ((with_reducible apply tw) <;> intro _)
          refine ⟨i + 1, rfl, rfl, ⟨by omega, fun g hg hgk => ?_⟩, by omega⟩
          rw [take_snoc hf] at hg
          rcases List.mem_append.1 hg with hg | hg
          · exact hno g hg hgk
          · simp only [List.mem_cons, List.not_mem_nil, or_false] at hg
            rw [hg]
            exact hb
      · rename_i hk
        refine ⟨i + 1, rfl, rfl, ⟨by omega, fun g hg hgk => ?_⟩, by omega⟩
        rw [take_snoc hf] at hg
        rcases List.mem_append.1 hg with hg | hg
        · exact hno g hg hgk
        · simp only [List.mem_cons, List.not_mem_nil, or_false] at hg
          rw [hg] at hgk
          exact absurd hgk hk
    · rename_i hlt
      replace hlt : ¬ (i : Int) < ((10 : Nat) : Int) := hlt
      refine hC ?_
      unfold formOf
      rw [List.find?_eq_none]
      intro f hf
      have e : formsL.take i = formsL := List.take_of_length_le (by have : formsL.length = 10 := rfl; omega)
      rw [e] at hno
      simp only [Bool.and_eq_true, decide_eq_true_iff]
      rintro ⟨h1, h2⟩
      rw [hno f hf h1] at h2
      cases h2
theorem num_ok (n : Int) : ACalls Tryd.prog 11 [.d (.int .i64 n)] [] (fun av L => av = .d (.int .i64 n) ∧ L = []) := by
  (refine acalls_go ttOk zOk foOk Tryd.func11 rfl Tryd.ntmps11 rfl false rfl ?_); (conv => whnf)
  refine rdw ?_; repeat' ((with_reducible apply tw) <;> intro _)
  exact ⟨rfl, rfl⟩
theorem parse_plain {s : ByteArray} (hs : s.size ≤ 1000000) {a : Sa} (h : parseS s.data.toList = some a) (hp : a.picks = []) : ACalls Tryd.prog 9 [.d (.str s)] [] (fun av L => ∃ bs, bsOk bs a ∧ av = .tup [.agg (actC a (.d .nils) (.d bs)), .d (.int .i64 0)] ∧ L = []) :=
  parse_rok s hs _ (fun b bs k _ hb => by
    rw [h] at k
    cases k
    exact ⟨bs, hb, rfl, rfl⟩) (fun b k _ hn => by
    rw [h] at k
    cases k
    exact absurd hp hn) (fun k => by rw [h] at k; cases k)
theorem print_yes {a : Sa} {m : Msg} (ha : Sa.fine a) (hm : m.few) (hq : a.quiet = m.zero) {s : W} (h : printS a = some s) : ACalls Tryd.prog 16 [actA a m] [] (fun av L => av = .tup [.d (.str (bw s)), .d (.int .i64 0)] ∧ L = []) :=
  print_rok a m ha hm hq _ (fun f hf _ => by
    unfold printS at h
    rw [hf] at h
    cases h
    exact ⟨rfl, rfl⟩) (fun hf => by
    unfold printS at h
    rw [hf] at h
    cases h)
theorem print_no {a : Sa} {m : Msg} (ha : Sa.fine a) (hm : m.few) (hq : a.quiet = m.zero) (h : printS a = none) : ACalls Tryd.prog 16 [actA a m] [] (fun av L => av = .tup [.d (.str ⟨#[]⟩), .d (.int .i64 1)] ∧ L = []) :=
  print_rok a m ha hm hq _ (fun f hf _ => by
    unfold printS at h
    rw [hf] at h
    cases h) (fun _ => ⟨rfl, rfl⟩)
theorem wakes_ok : ACalls Tryd.prog 15 [] [] (fun av L => av = .d (.bool true) ∧ L = []) := by
  have h := parse_plain (s := bw [116, 105, 99, 107, 32, 51]) (by decide) tick3 rfl
  have hn := num_ok 0
  (refine acalls_go ttOk zOk foOk Tryd.func15 rfl Tryd.ntmps15 rfl false rfl ?_); (conv => whnf)
  refine rdw ?_; repeat' ((with_reducible apply tw) <;> intro _)
  refine h.mono ?_
  rintro _ _ ⟨bs, hb, rfl, rfl⟩
  conv => whnf
  refine rdw ?_; repeat' ((with_reducible apply tw) <;> intro _)
  refine hn.mono ?_
  rintro _ _ ⟨rfl, rfl⟩
  conv => whnf
  refine rdw ?_; repeat' ((with_reducible apply tw) <;> intro _)
  exact ⟨rfl, rfl⟩
theorem eqBytes_ok (xs ys : List UInt8) (hm : xs.length ≤ 140737488355328) : ACalls Tryd.prog 18 [.d (.sl 1 (u8s xs)), .d (.sl 1 (u8s ys))] [] (fun av L => av = .d (.bool (xs == ys)) ∧ L = []) := by
  (refine acalls_go ttOk zOk foOk Tryd.func18 rfl Tryd.ntmps18 rfl false rfl ?_); (conv => whnf)
  ((with_reducible refine mt_ne (fun _ => ?_) (fun _ => ?_)) <;> (conv => whnf))
  · rename_i h
    simp only [u8s_length] at h
    have : (xs == ys) = false := by rw [beq_eq_false_iff_ne]; intro e; exact h (by rw [e])
    rw [this]; exact ⟨rfl, rfl⟩
  · rename_i h
    simp only [u8s_length] at h
    have hl : xs.length = ys.length := by omega
    refine loop_go ttOk zOk foOk (σ := Nat) (fun k => ([(0, .d (.sl 1 (u8s xs))), (1, .d (.sl 1 (u8s ys))), (5, .d (.int .i64 k))], [])) (fun k => k ≤ xs.length ∧ xs.take k = ys.take k) (fun k => xs.length - k) [0, 1, 5] ?_ ?_
    · conv => whnf
      exact ⟨0, rfl, rfl, by simp⟩
    · rintro k ⟨hk, he⟩
      conv => whnf
      ((with_reducible refine mt_dec (fun _ => ?_) (fun _ => ?_)) <;> (conv => whnf))
      · rename_i h
        simp only [u8s_length] at h
        obtain ⟨a, ha⟩ : ∃ a, xs[k]? = some a := ⟨_, List.getElem?_eq_getElem (by omega)⟩
        obtain ⟨b, hb⟩ : ∃ b, ys[k]? = some b := ⟨_, List.getElem?_eq_getElem (by omega)⟩
        ((with_reducible refine draw_pl ttOk zOk foOk mixedOk pl18x6 ?_ ?_); (focus kernel_rfl); (conv => whnf))
        refine rdw ?_; repeat' ((with_reducible apply tw) <;> intro _)
        ((with_reducible apply rd_intro); (focus (intro K hK; (conv => whnf); exact ix_u8 ha (by first | rfl | omega) hK)); (conv => whnf))
        refine rdw ?_; repeat' ((with_reducible apply tw) <;> intro _)
        ((with_reducible apply rd_intro); (focus (intro K hK; (conv => whnf); exact ix_u8 hb (by first | rfl | omega) hK)); (conv => whnf))
        refine rdw ?_; repeat' ((with_reducible apply tw) <;> intro _)
        · rename_i h
          have h2 : a ≠ b := by intro e; rw [e] at h; exact h rfl
          have : (xs == ys) = false := by rw [beq_eq_false_iff_ne]; intro e; subst e; rw [ha] at hb; cases hb; exact h2 rfl
          rw [this]; exact ⟨rfl, rfl⟩
        · rename_i h
          have h2 : a = b := UInt8.toNat_inj.1 (by omega)
          exact ⟨k + 1, rfl, rfl, ⟨by omega, (take_succ_eq ha hb he).2 h2⟩, by omega⟩
      · rename_i h
        simp only [u8s_length] at h
        obtain rfl : k = xs.length := by omega
        have : (xs == ys) = true := by rw [List.take_length, hl, List.take_length] at he; simp [he]
        rw [this]; exact ⟨rfl, rfl⟩
theorem NWs_app : ∀ {ps bs cs ds : List AV}, NWs ps bs → NWs cs ds → NWs (ps ++ cs) (bs ++ ds)
  | _, _, _, _, .nil, k => k
  | _, _, _, _, .cons h1 h2, k => .cons h1 (NWs_app h2 k)
theorem nw_msgZ : NWs msgZ (msg0.cs.map AV.d) :=
  .cons (.refl _) (.cons (.refl _) (.cons (.refl _) (.cons (.refl _) (.cons (.refl _) (.cons (.refl _) (.cons (.nils 4 (by decide)) (.cons (.refl _) (.cons (.refl _) (.cons (.nils 1 (by decide)) (.cons (.nils 1 (by decide)) (.cons (.refl _) (.cons (.refl _) (.cons (.nils 1 (by decide)) (.cons (.nils 1 (by decide)) (.cons (.refl _) (.cons (.nils 1 (by decide)) (.cons (.nils 1 (by decide)) .nil)))))))))))))))))
theorem nw_actC (a : Sa) {pk bs : DV} (h1 : NW (.d pk) (.d (.sl 1 (nums a.picks)))) (h2 : NW (.d bs) (.d (.sl 1 (u8s a.bytes)))) : NW (.agg (actC a (.d pk) (.d bs))) (actA a msg0) := by
  refine .agg ?_
  have e : (actD a msg0).map AV.d = ([.d (.int .i64 a.kind), .d (.int .i64 a.node), .d (.int .i64 a.peer), .d (.int .i64 a.n), .d (.sl 1 (nums a.picks)), .d (.int .i64 a.sender), .d (.int .i64 a.seq), .d (.str (bw a.key)), .d (.str (bw a.val))] ++ msg0.cs.map AV.d) ++ [.d (.sl 1 (u8s a.bytes))] := by
    simp only [actD, List.map_append, List.map_cons, List.map_nil]
  rw [e]
  exact NWs_app (NWs_app (.cons (.refl _) (.cons (.refl _) (.cons (.refl _) (.cons (.refl _) (.cons h1 (.cons (.refl _) (.cons (.refl _) (.cons (.refl _) (.cons (.refl _) .nil))))))))) nw_msgZ) (.cons h2 .nil)
structure Ask where
  a : Sa
  m : Msg
  s : ByteArray
def Ask.cs (q : Ask) : List DV := actD q.a q.m ++ [.str q.s]
def asksD (l : List Ask) : List (List DV) := l.map Ask.cs
theorem asksD_length (l : List Ask) : (asksD l).length = l.length := List.length_map ..
structure Sa.sized (a : Sa) : Prop where
  fit : a.fit
  picks : few a.picks
  key : a.key.length ≤ 140737488355328
  val : a.val.length ≤ 140737488355328
  bytes : a.bytes.length ≤ 140737488355328
structure Ask.ok (q : Ask) : Prop where
  a : Sa.sized q.a
  m : q.m.few
  quiet : q.a.quiet = q.m.zero
  s : q.s.size ≤ 140737488355328
theorem bw_app (a b : W) : bw a ++ bw b = bw (a ++ b) := by
  have e : (bw a ++ bw b).data.toList = a ++ b := by
    rw [ByteArray.data_append, Array.toList_append]
    rfl
  generalize bw a ++ bw b = x at e
  obtain ⟨⟨m⟩⟩ := x
  subst e
  rfl
theorem nwP0 {a : Sa} (h : a.picks = []) : NW (.d .nils) (.d (.sl 1 (nums a.picks))) := by rw [h]; exact .nils 1 (by decide)
theorem nwB0 {a : Sa} (h : a.bytes = []) : NW (.d .nils) (.d (.sl 1 (u8s a.bytes))) := by rw [h]; exact .nils 1 (by decide)
end Go.Proofs.YtkaepgfmpljlmaaDoor
