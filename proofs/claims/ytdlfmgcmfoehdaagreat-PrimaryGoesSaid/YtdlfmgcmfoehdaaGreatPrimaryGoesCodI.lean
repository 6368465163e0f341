/- PrimaryGoes: contracts. -/
import Derived.Test.YtdlfmgcmfoehdaaGreatPrimaryGoesCodH
import Derived.Shelf.Spec.SlicesInsertGrow
set_option linter.unusedVariables false
set_option linter.unusedSimpArgs false
namespace Go.Proofs.YtdlfmgcmfoehdaaGreat
open Go.Ab Go.RowKit Go.MapKept
attribute [local irreducible] ACalls AW ADraw Into fltB fnear
set_option maxRecDepth 100000
def Tx.av (t : Tx) : AV := .agg (t.cs.map AV.d)
theorem txsD_len (l : List Tx) : (txsD l).length = l.length := List.length_map ..
theorem txsD_at {l : List Tx} {k : Nat} {c : Tx} (h : l[k]? = some c) : (txsD l)[k]? = some c.cs := by simp [txsD, h]
structure okTx (t : Tx) : Prop where
  sender : 1 ≤ t.sender ∧ t.sender ≤ 1099511627776
  seq : 1 ≤ t.seq ∧ t.seq ≤ 1099511627776
  key : 1 ≤ t.key.size ∧ t.key.size ≤ 16
  val : t.val.size ≤ 32
theorem noKey (k : ByteArray) : (k.toList == (⟨#[]⟩ : ByteArray).toList) = false ↔ 1 ≤ k.size := by
  rw [ByteArray.toList_eq, ByteArray.toList_eq]
  constructor
  · intro h
    rcases Nat.eq_zero_or_pos k.size with h0 | h0
    · have : k.data.toList = [] := List.eq_nil_of_length_eq_zero (by simpa using h0)
      rw [this] at h
      simp at h
    · exact h0
  · intro h
    have : k.data.toList ≠ [] := fun e => by
      have := congrArg List.length e
      simp at this
      simp [this] at h
    cases hk : k.data.toList with
    | nil => exact absurd hk this
    | cons a t => rfl
open Classical in
theorem mayTx_ok (t : Tx) : ACalls Tryz.prog 149 [t.av] [] (fun av L => av = .d (.bool (decide (okTx t))) ∧ L = []) := by
  refine acalls_go ttOk zOk foOk Tryz.func149 rfl Tryz.ntmps149 rfl false rfl ?_
  conv => whnf
  refine rdw ?_; repeat' ((with_reducible apply tw) <;> intro _)
  · rename_i h1 h2 h3 h4 h5 h6
    rw [noKey] at h5
    exact ⟨boolEq (by simp only [decide_eq_true_iff]; exact ⟨fun h => ⟨by omega, by omega, by omega, by omega⟩, fun h => by have := h.val; omega⟩), rfl⟩
  · rename_i h1 h2 h3 h4 h5 h6
    exact ⟨by rw [decide_eq_false (fun h : okTx t => by have := h.key; omega)]; rfl, rfl⟩
  · rename_i h1 h2 h3 h4 h5
    exact ⟨by rw [decide_eq_false (fun h : okTx t => by rw [(noKey t.key).2 h.key.1] at h5; cases h5)]; rfl, rfl⟩
  all_goals exact ⟨by rw [decide_eq_false (fun h : okTx t => by have := h.sender; have := h.seq; omega)]; rfl, rfl⟩
open Classical in
theorem batMay1_ok (t : Tx) : ACalls Tryz.prog 148 [t.av] [] (fun av L => av = .d (.bool (decide (¬ okTx t))) ∧ L = []) := by
  refine acalls_go ttOk zOk foOk Tryz.func148 rfl Tryz.ntmps148 rfl false rfl ?_
  conv => whnf
  refine rdw ?_; repeat' ((with_reducible apply tw) <;> intro _)
  refine (mayTx_ok t).mono ?_
  rintro _ _ ⟨rfl, rfl⟩
  conv => whnf
  exact ⟨boolEq (by simp), rfl⟩
open Classical in
theorem indexTx_ok (l : List Tx) (hl : few l) : ACalls Tryz.prog 186 [.d (.sl 4 (txsD l)), .fn 148 []] [] (fun av L => (∃ z : Int, av = .d (.int .i64 z) ∧ (0 ≤ z ↔ ¬ ∀ t ∈ l, okTx t)) ∧ L = []) := by
  have hcl := txsD_len l
  unfold few at hl
  refine acalls_go ttOk zOk foOk Tryz.func186 rfl Tryz.ntmps186 rfl false rfl ?_
  conv => whnf
  refine loop_go ttOk zOk foOk (σ := Nat) (fun j => ([(0, .d (.sl 4 (txsD l))), (1, .fn 148 []), (7, .d (.int .i64 l.length)), (8, .d (.int .i64 j))], [])) (fun j => j ≤ l.length ∧ ∀ t ∈ l.take j, okTx t) (fun j => l.length - j) [0, 1, 7, 8] ?_ ?_
  · conv => whnf
    exact ⟨0, by rw [hcl]; rfl, rfl, Nat.zero_le _, by simp⟩
  · rintro j ⟨hj, ho⟩
    conv => whnf
    refine rdw ?_; repeat' ((with_reducible apply tw) <;> intro _)
    · rename_i hjl
      refine Exists.elim (⟨_, List.getElem?_eq_getElem (by omega)⟩ : ∃ c, l[j]? = some c) fun t ht => ?_
      refine ⟨by omega, t.cs, txsD_at ht, ?_⟩
      conv => whnf
      refine (batMay1_ok t).mono ?_
      rintro _ _ ⟨rfl, rfl⟩
      by_cases h : okTx t
      · rw [decide_eq_false (fun hh => hh h)]
        conv => whnf
        refine rdw ?_; repeat' ((with_reducible apply tw) <;> intro _)
        refine ⟨j + 1, rfl, rfl, ⟨by omega, fun x hx => ?_⟩, by omega⟩
        rw [List.take_add_one, ht] at hx
        rcases List.mem_append.1 hx with hx | hx
        · exact ho x hx
        · simp at hx; subst hx; exact h
      · rw [decide_eq_true h]
        conv => whnf
        refine rdw ?_; repeat' ((with_reducible apply tw) <;> intro _)
        exact ⟨⟨j, rfl, by constructor; (intro _ hh; exact h (hh t (List.mem_of_getElem? ht))); (intro _; omega)⟩, rfl⟩
    · rename_i hjl
      rw [List.take_of_length_le (by omega)] at ho
      exact ⟨⟨-1, rfl, by constructor; (intro h; omega); (intro h; exact absurd ho h)⟩, rfl⟩
open Classical in
theorem containsTx_ok (l : List Tx) (hl : few l) : ACalls Tryz.prog 147 [.d (.sl 4 (txsD l)), .fn 148 []] [] (fun av L => av = .d (.bool (decide (¬ ∀ t ∈ l, okTx t))) ∧ L = []) := by
  refine acalls_go ttOk zOk foOk Tryz.func147 rfl Tryz.ntmps147 rfl false rfl ?_
  conv => whnf
  refine rdw ?_; repeat' ((with_reducible apply tw) <;> intro _)
  refine (indexTx_ok l hl).mono ?_
  rintro _ _ ⟨⟨z, rfl, hz⟩, rfl⟩
  conv => whnf
  exact ⟨boolEq (by simp only [decide_eq_true_iff]; exact hz), rfl⟩
structure okBatch (m : Msg) : Prop where
  author : 1 ≤ m.ba ∧ m.ba ≤ 16
  n : 1 ≤ m.bn ∧ m.bn ≤ 1099511627776
  len : 1 ≤ m.txs.length ∧ m.txs.length ≤ 8
  txs : ∀ t ∈ m.txs, okTx t
def Msg.bav (m : Msg) : AV := .agg [.d (.int .i64 m.ba), .d (.int .i64 m.bn), .d (.sl 4 (txsD m.txs))]
open Classical in
theorem batchMay_ok (m : Msg) (hl : few m.txs) : ACalls Tryz.prog 114 [m.bav] [] (fun av L => av = .d (.bool (decide (okBatch m))) ∧ L = []) := by
  have hcl := txsD_len m.txs
  refine acalls_go ttOk zOk foOk Tryz.func114 rfl Tryz.ntmps114 rfl false rfl ?_
  conv => whnf
  refine rdw ?_; repeat' ((with_reducible apply tw) <;> intro _)
  all_goals first
    | exact ⟨by rw [decide_eq_false (fun h : okBatch m => by have := h.author; have := h.n; have := h.len; omega)]; rfl, rfl⟩
    | skip
  (refine (containsTx_ok m.txs hl).mono ?_; rintro _ _ ⟨rfl, rfl⟩; (conv => whnf))
  exact ⟨boolEq (by simp only [Bool.not_eq_true', decide_eq_false_iff_not, decide_eq_true_iff, Classical.not_not]; exact ⟨fun h => ⟨by omega, by omega, by omega, h⟩, fun h => h.txs⟩), rfl⟩
structure okKind (n : Int) (m : Msg) : Prop where
  kind : 1 ≤ m.kind ∧ m.kind ≤ 8
  dig : m.kind ≤ 5 → 1 ≤ m.digest ∧ m.digest ≤ 65536
  bat : m.kind = 1 ∨ m.kind = 3 → okBatch m ∧ m.ba ≤ n
  head : m.kind = 4 → okHead n m.head ∧ m.head.author = m.src
  cert : m.kind = 6 → okCert n m.cert
  digs : 7 ≤ m.kind → (1 ≤ m.digs.length ∧ m.digs.length ≤ 16) ∧ riseB m.digs 1 65536
structure onlyKind (m : Msg) : Prop where
  dig : 6 ≤ m.kind → m.digest = 0
  bat : m.kind ≠ 1 ∧ m.kind ≠ 3 → m.ba = 0 ∧ m.bn = 0 ∧ m.txs = []
  head : m.kind ≠ 4 → m.head.author = 0 ∧ m.head.round = 0 ∧ m.head.bats = [] ∧ m.head.pars = []
  cert : m.kind ≠ 6 → m.cert.author = 0 ∧ m.cert.round = 0 ∧ m.cert.bats = [] ∧ m.cert.pars = [] ∧ m.cert.digest = 0 ∧ m.cert.sigs = []
  digs : m.kind ≤ 6 → m.digs = []
structure okMsg (n : Int) (m : Msg) : Prop where
  isn : isN n = true
  src : 1 ≤ m.src ∧ m.src ≤ n
  dst : 1 ≤ m.dst ∧ m.dst ≤ n
  ne : m.src ≠ m.dst
  ok : okKind n m
  only : onlyKind m
structure Msg.fine (m : Msg) : Prop where
  txs : few m.txs
  head : fewL m.head
  cert : fewL m.cert
  digs : few m.digs
def bavN (b : Bool) (m : Msg) : List AV := if b then [.d (.int .i64 m.ba), .d (.int .i64 m.bn), .d (.sl 4 (txsD m.txs))] else [.d (.int .i64 0), .d (.int .i64 0), .d .nils]
def havN (b : Bool) (c : Cert) : List AV := if b then [.d (.int .i64 c.author), .d (.int .i64 c.round), .d (.sl 1 (nums c.bats)), .d (.sl 1 (nums c.pars))] else [.d (.int .i64 0), .d (.int .i64 0), .d .nils, .d .nils]
def cavN (b : Bool) (c : Cert) : List AV := if b then [.d (.int .i64 c.author), .d (.int .i64 c.round), .d (.sl 1 (nums c.bats)), .d (.sl 1 (nums c.pars)), .d (.int .i64 c.digest), .d (.sl 1 (nums c.sigs))] else [.d (.int .i64 0), .d (.int .i64 0), .d .nils, .d .nils, .d (.int .i64 0), .d .nils]
def davN (b : Bool) (l : List Int) : AV := if b then .d (.sl 1 (nums l)) else .d .nils
def onlyAV (m : Msg) (g b h c d : Bool) : AV := .agg ([.d (.int .i64 m.kind), .d (.int .i64 m.src), .d (.int .i64 m.dst), .d (.int .i64 (if g then m.digest else 0))] ++ bavN b m ++ havN h m.head ++ cavN c m.cert ++ [davN d m.digs])
def flagsOk (g b h c d : Bool) : Prop := (g = true ∧ b = true ∧ h = false ∧ c = false ∧ d = false) ∨ (g = true ∧ b = false ∧ h = false ∧ c = false ∧ d = false) ∨ (g = true ∧ b = false ∧ h = true ∧ c = false ∧ d = false) ∨ (g = false ∧ b = false ∧ h = false ∧ c = true ∧ d = false) ∨ (g = false ∧ b = false ∧ h = false ∧ c = false ∧ d = true) ∨ (g = false ∧ b = false ∧ h = false ∧ c = false ∧ d = false)
open Classical in
theorem only_fin {n : Int} {m : Msg} {X Y : AV} (g b h c d : Bool) (B : Bool) (hX : X = onlyAV m g b h c d) (hY : Y = .d (.bool B)) (hB : B = true ↔ okKind n m)
    (hk : okKind n m → g = decide (m.kind ≤ 5) ∧ b = decide (m.kind = 1 ∨ m.kind = 3) ∧ h = decide (m.kind = 4) ∧ c = decide (m.kind = 6) ∧ d = decide (7 ≤ m.kind)) (hfl : flagsOk g b h c d := by simp [flagsOk]) :
    (∃ g b h c d, AV.tup [X, Y] = .tup [onlyAV m g b h c d, .d (.bool (decide (okKind n m)))] ∧ flagsOk g b h c d ∧ (okKind n m → g = decide (m.kind ≤ 5) ∧ b = decide (m.kind = 1 ∨ m.kind = 3) ∧ h = decide (m.kind = 4) ∧ c = decide (m.kind = 6) ∧ d = decide (7 ≤ m.kind))) ∧ ([] : List AB) = [] := by
  refine ⟨⟨g, b, h, c, d, ?_, hfl, hk⟩, rfl⟩
  have : B = decide (okKind n m) := by rw [Bool.eq_iff_iff, decide_eq_true_iff]; exact hB
  rw [hX, hY, this]
set_option maxHeartbeats 4000000 in
open Classical in
theorem only_ok (m : Msg) (hf : m.fine) (n : Int) : ACalls Tryz.prog 77 [m.av, .d (.int .i64 n)] [] (fun av L => (∃ g b h c d, av = .tup [onlyAV m g b h c d, .d (.bool (decide (okKind n m)))] ∧ flagsOk g b h c d ∧ (okKind n m → g = decide (m.kind ≤ 5) ∧ b = decide (m.kind = 1 ∨ m.kind = 3) ∧ h = decide (m.kind = 4) ∧ c = decide (m.kind = 6) ∧ d = decide (7 ≤ m.kind))) ∧ L = []) := by
  have hdl := nums_length m.digs
  refine acalls_go ttOk zOk foOk Tryz.func77 rfl Tryz.ntmps77 rfl false rfl ?_
  conv => whnf
  refine rdw ?_; repeat' ((with_reducible apply tw) <;> intro _)
  · · rename_i hk
      ((with_reducible refine draw_pl ttOk zOk foOk mixedOk pl77x5 ?_ ?_); (focus kernel_rfl); (conv => whnf))
      refine rdw ?_; repeat' ((with_reducible apply tw) <;> intro _)
      (refine (digest_ok m.digest).mono ?_; rintro _ _ ⟨rfl, rfl⟩; (conv => whnf))
      refine rdw ?_; repeat' ((with_reducible apply tw) <;> intro _)
      · rename_i h1
        (refine (batchMay_ok m hf.txs).mono ?_; rintro _ _ ⟨rfl, rfl⟩; (conv => whnf))
        refine rdw ?_; repeat' ((with_reducible apply tw) <;> intro _)
        · rename_i h2
          refine only_fin true true false false false _ rfl rfl ?_ (fun _ => ⟨by simp [hk], by simp [hk], by simp [hk], by simp [hk], by simp [hk]⟩)
          simp only [decide_eq_true_iff]
          exact ⟨fun h => ⟨by omega, fun _ => h1, fun _ => ⟨h2, h⟩, by omega, by omega, by omega⟩, fun h => (h.bat (by omega)).2⟩
        · rename_i h2
          refine only_fin true true false false false _ rfl rfl ?_ (fun h => absurd (h.bat (by omega)).1 h2)
          exact ⟨fun h => (by cases h), fun h => absurd (h.bat (by omega)).1 h2⟩
      · rename_i h1
        refine only_fin true true false false false _ rfl rfl ?_ (fun h => absurd (h.dig (by omega)) h1)
        exact ⟨fun h => (by cases h), fun h => absurd (h.dig (by omega)) h1⟩
  · · rename_i hk
      ((with_reducible refine draw_pl ttOk zOk foOk mixedOk pl77x5 ?_ ?_); (focus kernel_rfl); (conv => whnf))
      refine rdw ?_; repeat' ((with_reducible apply tw) <;> intro _)
      (refine (digest_ok m.digest).mono ?_; rintro _ _ ⟨rfl, rfl⟩; (conv => whnf))
      refine rdw ?_; repeat' ((with_reducible apply tw) <;> intro _)
      · rename_i h1
        (refine (batchMay_ok m hf.txs).mono ?_; rintro _ _ ⟨rfl, rfl⟩; (conv => whnf))
        refine rdw ?_; repeat' ((with_reducible apply tw) <;> intro _)
        · rename_i h2
          refine only_fin true true false false false _ rfl rfl ?_ (fun _ => ⟨by simp [hk], by simp [hk], by simp [hk], by simp [hk], by simp [hk]⟩)
          simp only [decide_eq_true_iff]
          exact ⟨fun h => ⟨by omega, fun _ => h1, fun _ => ⟨h2, h⟩, by omega, by omega, by omega⟩, fun h => (h.bat (by omega)).2⟩
        · rename_i h2
          refine only_fin true true false false false _ rfl rfl ?_ (fun h => absurd (h.bat (by omega)).1 h2)
          exact ⟨fun h => (by cases h), fun h => absurd (h.bat (by omega)).1 h2⟩
      · rename_i h1
        refine only_fin true true false false false _ rfl rfl ?_ (fun h => absurd (h.dig (by omega)) h1)
        exact ⟨fun h => (by cases h), fun h => absurd (h.dig (by omega)) h1⟩
  · · rename_i hk
      (refine (digest_ok m.digest).mono ?_; rintro _ _ ⟨rfl, rfl⟩; (conv => whnf))
      refine rdw ?_; repeat' ((with_reducible apply tw) <;> intro _)
      refine only_fin true false false false false _ rfl rfl ?_ (fun _ => ⟨by simp [hk], by simp [hk], by simp [hk], by simp [hk], by simp [hk]⟩)
      simp only [decide_eq_true_iff]
      exact ⟨fun h => ⟨by omega, fun _ => h, by omega, by omega, by omega, by omega⟩, fun h => h.dig (by omega)⟩
  · · rename_i hk
      (refine (digest_ok m.digest).mono ?_; rintro _ _ ⟨rfl, rfl⟩; (conv => whnf))
      refine rdw ?_; repeat' ((with_reducible apply tw) <;> intro _)
      refine only_fin true false false false false _ rfl rfl ?_ (fun _ => ⟨by simp [hk], by simp [hk], by simp [hk], by simp [hk], by simp [hk]⟩)
      simp only [decide_eq_true_iff]
      exact ⟨fun h => ⟨by omega, fun _ => h, by omega, by omega, by omega, by omega⟩, fun h => h.dig (by omega)⟩
  · rename_i hk
    ((with_reducible refine draw_pl ttOk zOk foOk mixedOk pl77x12 ?_ ?_); (focus kernel_rfl); (conv => whnf))
    refine rdw ?_; repeat' ((with_reducible apply tw) <;> intro _)
    (refine (digest_ok m.digest).mono ?_; rintro _ _ ⟨rfl, rfl⟩; (conv => whnf))
    refine rdw ?_; repeat' ((with_reducible apply tw) <;> intro _)
    · rename_i h1
      (refine (hMay_ok m.head hf.head n).mono ?_; rintro _ _ ⟨rfl, rfl⟩; (conv => whnf))
      refine rdw ?_; repeat' ((with_reducible apply tw) <;> intro _)
      · rename_i h2
        refine only_fin true false true false false _ rfl rfl ?_ (fun _ => ⟨by simp [hk], by simp [hk], by simp [hk], by simp [hk], by simp [hk]⟩)
        simp only [beq_iff_eq]
        exact ⟨fun h => ⟨by omega, fun _ => h1, by omega, fun _ => ⟨h2, h⟩, by omega, by omega⟩, fun h => (h.head hk).2⟩
      · rename_i h2
        have hno : ¬ okKind n m := fun h => h2 (h.head hk).1
        exact only_fin true false true false false _ rfl rfl ⟨fun h => (by cases h), fun h => absurd h hno⟩ (fun h => absurd h hno)
    · rename_i h1
      have hno : ¬ okKind n m := fun h => h1 (h.dig (by omega))
      exact only_fin true false true false false _ rfl rfl ⟨fun h => (by cases h), fun h => absurd h hno⟩ (fun h => absurd h hno)
  · rename_i hk
    (refine (mayCert_ok m.cert hf.cert n).mono ?_; rintro _ _ ⟨rfl, rfl⟩; (conv => whnf))
    refine only_fin false false false true false _ rfl rfl ?_ (fun _ => ⟨by simp [hk], by simp [hk], by simp [hk], by simp [hk], by simp [hk]⟩)
    simp only [decide_eq_true_iff]
    exact ⟨fun h => ⟨by omega, by omega, by omega, by omega, fun _ => h, by omega⟩, fun h => h.cert hk⟩
  · rename_i hk h1 h2
    replace h1 : ((nums m.digs).length : Int) ≥ 1 := h1
    replace h2 : ((nums m.digs).length : Int) ≤ 16 := h2
    (refine (digests_ok m.digs hf.digs).mono ?_; rintro _ _ ⟨rfl, rfl⟩; (conv => whnf))
    refine only_fin false false false false true _ rfl rfl ?_ (fun _ => ⟨by simp [hk], by simp [hk], by simp [hk], by simp [hk], by simp [hk]⟩)
    simp only [decide_eq_true_iff]
    exact ⟨fun h => ⟨by omega, by omega, by omega, by omega, by omega, fun _ => ⟨by omega, h⟩⟩, fun h => (h.digs (by omega)).2⟩
  · rename_i hk h1 h2
    replace h2 : ¬ ((nums m.digs).length : Int) ≤ 16 := h2
    have hno : ¬ okKind n m := fun h => by have := (h.digs (by omega)).1; omega
    exact only_fin false false false false true _ rfl rfl ⟨fun h => (by cases h), fun h => absurd h hno⟩ (fun h => absurd h hno)
  · rename_i hk h1
    replace h1 : ¬ ((nums m.digs).length : Int) ≥ 1 := h1
    have hno : ¬ okKind n m := fun h => by have := (h.digs (by omega)).1; omega
    exact only_fin false false false false true _ rfl rfl ⟨fun h => (by cases h), fun h => absurd h hno⟩ (fun h => absurd h hno)
  · rename_i hk h1 h2
    replace h1 : ((nums m.digs).length : Int) ≥ 1 := h1
    replace h2 : ((nums m.digs).length : Int) ≤ 16 := h2
    (refine (digests_ok m.digs hf.digs).mono ?_; rintro _ _ ⟨rfl, rfl⟩; (conv => whnf))
    refine only_fin false false false false true _ rfl rfl ?_ (fun _ => ⟨by simp [hk], by simp [hk], by simp [hk], by simp [hk], by simp [hk]⟩)
    simp only [decide_eq_true_iff]
    exact ⟨fun h => ⟨by omega, by omega, by omega, by omega, by omega, fun _ => ⟨by omega, h⟩⟩, fun h => (h.digs (by omega)).2⟩
  · rename_i hk h1 h2
    replace h2 : ¬ ((nums m.digs).length : Int) ≤ 16 := h2
    have hno : ¬ okKind n m := fun h => by have := (h.digs (by omega)).1; omega
    exact only_fin false false false false true _ rfl rfl ⟨fun h => (by cases h), fun h => absurd h hno⟩ (fun h => absurd h hno)
  · rename_i hk h1
    replace h1 : ¬ ((nums m.digs).length : Int) ≥ 1 := h1
    have hno : ¬ okKind n m := fun h => by have := (h.digs (by omega)).1; omega
    exact only_fin false false false false true _ rfl rfl ⟨fun h => (by cases h), fun h => absurd h hno⟩ (fun h => absurd h hno)
  · have hno : ¬ okKind n m := fun h => by have := h.kind; omega
    exact only_fin false false false false false _ rfl rfl ⟨fun h => (by cases h), fun h => absurd h hno⟩ (fun h => absurd h hno)
open Classical in
theorem head_cmp (a : Cert) : ACalls Tryz.prog 78 [a.hav, .agg (havN false a)] [] (fun av L => av = .d (.bool (decide (a.author = 0 ∧ a.round = 0 ∧ a.bats.length = 0 ∧ a.pars.length = 0))) ∧ L = []) := by
  have l2 := nums_length a.bats
  have l3 := nums_length a.pars
  refine acalls_go ttOk zOk foOk Tryz.func78 rfl Tryz.ntmps78 rfl false rfl ?_
  conv => whnf
  refine rdw ?_; repeat' ((with_reducible apply tw) <;> intro _)
  · rename_i h1 h2 h3
    replace h3 : ((nums a.bats).length : Int) = 0 := h3
    refine ⟨boolEq ?_, rfl⟩
    simp only [beq_iff_eq, decide_eq_true_iff]
    exact ⟨fun h => by have h : ((nums a.pars).length : Int) = 0 := h; exact ⟨h1, h2, by omega, by omega⟩, fun h => by show ((nums a.pars).length : Int) = 0; omega⟩
  · rename_i h1 h2 h3
    replace h3 : ¬ ((nums a.bats).length : Int) = 0 := h3
    exact ⟨by rw [decide_eq_false (fun h => by omega)]; rfl, rfl⟩
  · rename_i h1 h2
    exact ⟨by rw [decide_eq_false (fun h => h2 h.2.1)]; rfl, rfl⟩
  · rename_i h1
    exact ⟨by rw [decide_eq_false (fun h => h1 h.1)]; rfl, rfl⟩
theorem okMsg_iff {n : Int} {m : Msg} {g b h c d : Bool} (hn : isN n = true) (h1 : 1 ≤ m.src ∧ m.src ≤ n) (h2 : 1 ≤ m.dst ∧ m.dst ≤ n) (h3 : m.src ≠ m.dst) (hok : okKind n m)
    (hk : g = decide (m.kind ≤ 5) ∧ b = decide (m.kind = 1 ∨ m.kind = 3) ∧ h = decide (m.kind = 4) ∧ c = decide (m.kind = 6) ∧ d = decide (7 ≤ m.kind)) :
    okMsg n m ↔ (g = true ∨ m.digest = 0) ∧ (b = true ∨ m.ba = 0 ∧ m.bn = 0 ∧ m.txs.length = 0) ∧ (h = true ∨ m.head.author = 0 ∧ m.head.round = 0 ∧ m.head.bats.length = 0 ∧ m.head.pars.length = 0) ∧ (c = true ∨ (m.cert.author = 0 ∧ m.cert.round = 0 ∧ m.cert.bats.length = 0 ∧ m.cert.pars.length = 0) ∧ m.cert.digest = 0 ∧ m.cert.sigs.length = 0) ∧ (d = true ∨ m.digs.length = 0) := by
  obtain ⟨rfl, rfl, rfl, rfl, rfl⟩ := hk
  simp only [decide_eq_true_iff]
  constructor
  · intro hh
    have o := hh.only
    refine ⟨?_, ?_, ?_, ?_, ?_⟩
    · rcases Int.lt_or_le m.kind 6 with h | h
      · left; omega
      · right; exact o.dig h
    · by_cases h : m.kind = 1 ∨ m.kind = 3
      · left; exact h
      · right
        obtain ⟨a1, a2, a3⟩ := o.bat ⟨fun e => h (.inl e), fun e => h (.inr e)⟩
        exact ⟨a1, a2, by rw [a3]; rfl⟩
    · by_cases h : m.kind = 4
      · left; exact h
      · right
        obtain ⟨a1, a2, a3, a4⟩ := o.head h
        exact ⟨a1, a2, by rw [a3]; rfl, by rw [a4]; rfl⟩
    · by_cases h : m.kind = 6
      · left; exact h
      · right
        obtain ⟨a1, a2, a3, a4, a5, a6⟩ := o.cert h
        exact ⟨⟨a1, a2, by rw [a3]; rfl, by rw [a4]; rfl⟩, a5, by rw [a6]; rfl⟩
    · rcases Int.lt_or_le m.kind 7 with h | h
      · right; rw [o.digs (by omega)]; rfl
      · left; exact h
  · rintro ⟨a1, a2, a3, a4, a5⟩
    refine ⟨hn, h1, h2, h3, hok, ⟨fun h => ?_, fun h => ?_, fun h => ?_, fun h => ?_, fun h => ?_⟩⟩
    · rcases a1 with a1 | a1
      · omega
      · exact a1
    · rcases a2 with a2 | a2
      · omega
      · exact ⟨a2.1, a2.2.1, List.eq_nil_of_length_eq_zero a2.2.2⟩
    · rcases a3 with a3 | a3
      · omega
      · exact ⟨a3.1, a3.2.1, List.eq_nil_of_length_eq_zero a3.2.2.1, List.eq_nil_of_length_eq_zero a3.2.2.2⟩
    · rcases a4 with a4 | a4
      · omega
      · exact ⟨a4.1.1, a4.1.2.1, List.eq_nil_of_length_eq_zero a4.1.2.2.1, List.eq_nil_of_length_eq_zero a4.1.2.2.2, a4.2.1, List.eq_nil_of_length_eq_zero a4.2.2⟩
    · rcases a5 with a5 | a5
      · omega
      · exact List.eq_nil_of_length_eq_zero a5
set_option maxHeartbeats 8000000 in
open Classical in
theorem msgMay_full (m : Msg) (hf : m.fine) (n : Int) : ACalls Tryz.prog 37 [m.av, .d (.int .i64 n)] [] (fun av L => av = .d (.bool (decide (okMsg n m))) ∧ L = []) := by
  have hi := is_ok n
  have ho := only_ok m hf n
  have l1 := txsD_len m.txs
  have l2 := nums_length m.head.bats
  have l3 := nums_length m.head.pars
  have l4 := nums_length m.cert.bats
  have l5 := nums_length m.cert.pars
  have l6 := nums_length m.cert.sigs
  have l7 := nums_length m.digs
  refine acalls_go ttOk zOk foOk Tryz.func37 rfl Tryz.ntmps37 rfl false rfl ?_
  conv => whnf
  refine rdw ?_; repeat' ((with_reducible apply tw) <;> intro _)
  refine hi.mono ?_
  rintro _ _ ⟨rfl, rfl⟩
  cases hn : isN n with
  | false =>
    conv => whnf
    refine rdw ?_; repeat' ((with_reducible apply tw) <;> intro _)
    exact ⟨by rw [decide_eq_false (fun h : okMsg n m => by have := h.isn; rw [hn] at this; cases this)]; rfl, rfl⟩
  | true =>
    conv => whnf
    refine rdw ?_; repeat' ((with_reducible apply tw) <;> intro _)
    all_goals first
      | exact ⟨by rw [decide_eq_false (fun h : okMsg n m => by have := h.src; have := h.dst; have := h.ne; omega)]; rfl, rfl⟩
      | skip
    refine ho.mono ?_
    rintro _ _ ⟨⟨g, b, h, c, d, rfl, hfl, hk⟩, rfl⟩
    by_cases hok : okKind n m
    · have key := okMsg_iff hn (show 1 ≤ m.src ∧ m.src ≤ n by omega) (show 1 ≤ m.dst ∧ m.dst ≤ n by omega) ‹m.src ≠ m.dst› hok (hk hok)
      clear hk
      rw [decide_eq_true hok]
      rcases hfl with ⟨rfl, rfl, rfl, rfl, rfl⟩ | ⟨rfl, rfl, rfl, rfl, rfl⟩ | ⟨rfl, rfl, rfl, rfl, rfl⟩ | ⟨rfl, rfl, rfl, rfl, rfl⟩ | ⟨rfl, rfl, rfl, rfl, rfl⟩ | ⟨rfl, rfl, rfl, rfl, rfl⟩
      · simp only [Bool.false_eq_true, false_or, true_or, true_and, and_true] at key
        conv => whnf
        repeat' (first | (first | ((with_reducible first | apply rd_intro | apply gd_and); (focus ((conv => whnf) <;> first | rfl | (intro K hK; (conv => whnf); first | exact hK | exact z_wrap (by omega) hK))); conv => whnf) | ((with_reducible apply z_wrap); (focus omega); conv => whnf) | ((with_reducible first | apply mt_dec | apply mt_eq | apply mt_ne | apply mt_not | apply mt_any) <;> (intro _; conv => whnf))) | (refine ACalls.mono (head_cmp m.head) ?_; rintro _ _ ⟨rfl, rfl⟩; (conv => whnf)) | (refine ACalls.mono (head_cmp m.cert) ?_; rintro _ _ ⟨rfl, rfl⟩; (conv => whnf)))
        all_goals first
          | (rename_i e; exact absurd rfl e)
          | (rename_i e; replace e : m.digest ≠ 0 := e; exact ⟨by rw [decide_eq_false (fun hh => by have := key.1 hh; omega)]; rfl, rfl⟩)
          | exact ⟨by rw [decide_eq_false (fun hh => by have := key.1 hh; omega)]; rfl, rfl⟩
          | (refine ⟨boolEq ?_, rfl⟩; rw [decide_eq_true_iff, key]; simp only [beq_iff_eq]; constructor <;> intro hh <;> omega)
          | (have hz : m.digest = 0 := ‹m.digest = if false = true then m.digest else 0›; refine ⟨boolEq ?_, rfl⟩; rw [decide_eq_true_iff, key]; simp only [beq_iff_eq]; constructor <;> intro hh <;> omega)
          | (have hz : m.digest = 0 := ‹m.digest = if false = true then m.digest else 0›; refine ⟨boolEq ?_, rfl⟩; rw [decide_eq_true_iff, key, beq_iff_eq]; exact ⟨fun _ => by omega, fun _ => rfl⟩)
          | skip
      · simp only [Bool.false_eq_true, false_or, true_or, true_and, and_true] at key
        conv => whnf
        repeat' (first | (first | ((with_reducible first | apply rd_intro | apply gd_and); (focus ((conv => whnf) <;> first | rfl | (intro K hK; (conv => whnf); first | exact hK | exact z_wrap (by omega) hK))); conv => whnf) | ((with_reducible apply z_wrap); (focus omega); conv => whnf) | ((with_reducible first | apply mt_dec | apply mt_eq | apply mt_ne | apply mt_not | apply mt_any) <;> (intro _; conv => whnf))) | (refine ACalls.mono (head_cmp m.head) ?_; rintro _ _ ⟨rfl, rfl⟩; (conv => whnf)) | (refine ACalls.mono (head_cmp m.cert) ?_; rintro _ _ ⟨rfl, rfl⟩; (conv => whnf)))
        all_goals first
          | (rename_i e; exact absurd rfl e)
          | (rename_i e; replace e : m.digest ≠ 0 := e; exact ⟨by rw [decide_eq_false (fun hh => by have := key.1 hh; omega)]; rfl, rfl⟩)
          | exact ⟨by rw [decide_eq_false (fun hh => by have := key.1 hh; omega)]; rfl, rfl⟩
          | (refine ⟨boolEq ?_, rfl⟩; rw [decide_eq_true_iff, key]; simp only [beq_iff_eq]; constructor <;> intro hh <;> omega)
          | (have hz : m.digest = 0 := ‹m.digest = if false = true then m.digest else 0›; refine ⟨boolEq ?_, rfl⟩; rw [decide_eq_true_iff, key]; simp only [beq_iff_eq]; constructor <;> intro hh <;> omega)
          | (have hz : m.digest = 0 := ‹m.digest = if false = true then m.digest else 0›; refine ⟨boolEq ?_, rfl⟩; rw [decide_eq_true_iff, key, beq_iff_eq]; exact ⟨fun _ => by omega, fun _ => rfl⟩)
          | skip
      · simp only [Bool.false_eq_true, false_or, true_or, true_and, and_true] at key
        conv => whnf
        repeat' (first | (first | ((with_reducible first | apply rd_intro | apply gd_and); (focus ((conv => whnf) <;> first | rfl | (intro K hK; (conv => whnf); first | exact hK | exact z_wrap (by omega) hK))); conv => whnf) | ((with_reducible apply z_wrap); (focus omega); conv => whnf) | ((with_reducible first | apply mt_dec | apply mt_eq | apply mt_ne | apply mt_not | apply mt_any) <;> (intro _; conv => whnf))) | (refine ACalls.mono (headSame_ok m.head) ?_; rintro _ _ ⟨rfl, rfl⟩; (conv => whnf)) | (refine ACalls.mono (head_cmp m.cert) ?_; rintro _ _ ⟨rfl, rfl⟩; (conv => whnf)))
        all_goals first
          | (rename_i e; exact absurd rfl e)
          | (rename_i e; replace e : m.digest ≠ 0 := e; exact ⟨by rw [decide_eq_false (fun hh => by have := key.1 hh; omega)]; rfl, rfl⟩)
          | exact ⟨by rw [decide_eq_false (fun hh => by have := key.1 hh; omega)]; rfl, rfl⟩
          | (refine ⟨boolEq ?_, rfl⟩; rw [decide_eq_true_iff, key]; simp only [beq_iff_eq]; constructor <;> intro hh <;> omega)
          | (have hz : m.digest = 0 := ‹m.digest = if false = true then m.digest else 0›; refine ⟨boolEq ?_, rfl⟩; rw [decide_eq_true_iff, key]; simp only [beq_iff_eq]; constructor <;> intro hh <;> omega)
          | (have hz : m.digest = 0 := ‹m.digest = if false = true then m.digest else 0›; refine ⟨boolEq ?_, rfl⟩; rw [decide_eq_true_iff, key, beq_iff_eq]; exact ⟨fun _ => by omega, fun _ => rfl⟩)
          | skip
      · simp only [Bool.false_eq_true, false_or, true_or, true_and, and_true] at key
        conv => whnf
        repeat' (first | (first | ((with_reducible first | apply rd_intro | apply gd_and); (focus ((conv => whnf) <;> first | rfl | (intro K hK; (conv => whnf); first | exact hK | exact z_wrap (by omega) hK))); conv => whnf) | ((with_reducible apply z_wrap); (focus omega); conv => whnf) | ((with_reducible first | apply mt_dec | apply mt_eq | apply mt_ne | apply mt_not | apply mt_any) <;> (intro _; conv => whnf))) | (refine ACalls.mono (head_cmp m.head) ?_; rintro _ _ ⟨rfl, rfl⟩; (conv => whnf)) | (refine ACalls.mono (headSame_ok m.cert) ?_; rintro _ _ ⟨rfl, rfl⟩; (conv => whnf)))
        all_goals first
          | (rename_i e; exact absurd rfl e)
          | (rename_i e; replace e : m.digest ≠ 0 := e; exact ⟨by rw [decide_eq_false (fun hh => by have := key.1 hh; omega)]; rfl, rfl⟩)
          | exact ⟨by rw [decide_eq_false (fun hh => by have := key.1 hh; omega)]; rfl, rfl⟩
          | (refine ⟨boolEq ?_, rfl⟩; rw [decide_eq_true_iff, key]; simp only [beq_iff_eq]; constructor <;> intro hh <;> omega)
          | (have hz : m.digest = 0 := ‹m.digest = if false = true then m.digest else 0›; refine ⟨boolEq ?_, rfl⟩; rw [decide_eq_true_iff, key]; simp only [beq_iff_eq]; constructor <;> intro hh <;> omega)
          | (have hz : m.digest = 0 := ‹m.digest = if false = true then m.digest else 0›; refine ⟨boolEq ?_, rfl⟩; rw [decide_eq_true_iff, key, beq_iff_eq]; exact ⟨fun _ => by omega, fun _ => rfl⟩)
          | skip
      · simp only [Bool.false_eq_true, false_or, true_or, true_and, and_true] at key
        conv => whnf
        repeat' (first | (first | ((with_reducible first | apply rd_intro | apply gd_and); (focus ((conv => whnf) <;> first | rfl | (intro K hK; (conv => whnf); first | exact hK | exact z_wrap (by omega) hK))); conv => whnf) | ((with_reducible apply z_wrap); (focus omega); conv => whnf) | ((with_reducible first | apply mt_dec | apply mt_eq | apply mt_ne | apply mt_not | apply mt_any) <;> (intro _; conv => whnf))) | (refine ACalls.mono (head_cmp m.head) ?_; rintro _ _ ⟨rfl, rfl⟩; (conv => whnf)) | (refine ACalls.mono (head_cmp m.cert) ?_; rintro _ _ ⟨rfl, rfl⟩; (conv => whnf)))
        all_goals first
          | (rename_i e; exact absurd rfl e)
          | (rename_i e; replace e : m.digest ≠ 0 := e; exact ⟨by rw [decide_eq_false (fun hh => by have := key.1 hh; omega)]; rfl, rfl⟩)
          | exact ⟨by rw [decide_eq_false (fun hh => by have := key.1 hh; omega)]; rfl, rfl⟩
          | (refine ⟨boolEq ?_, rfl⟩; rw [decide_eq_true_iff, key]; simp only [beq_iff_eq]; constructor <;> intro hh <;> omega)
          | (have hz : m.digest = 0 := ‹m.digest = if false = true then m.digest else 0›; refine ⟨boolEq ?_, rfl⟩; rw [decide_eq_true_iff, key]; simp only [beq_iff_eq]; constructor <;> intro hh <;> omega)
          | (have hz : m.digest = 0 := ‹m.digest = if false = true then m.digest else 0›; refine ⟨boolEq ?_, rfl⟩; rw [decide_eq_true_iff, key, beq_iff_eq]; exact ⟨fun _ => by omega, fun _ => rfl⟩)
          | skip
      · simp only [Bool.false_eq_true, false_or, true_or, true_and, and_true] at key
        conv => whnf
        repeat' (first | (first | ((with_reducible first | apply rd_intro | apply gd_and); (focus ((conv => whnf) <;> first | rfl | (intro K hK; (conv => whnf); first | exact hK | exact z_wrap (by omega) hK))); conv => whnf) | ((with_reducible apply z_wrap); (focus omega); conv => whnf) | ((with_reducible first | apply mt_dec | apply mt_eq | apply mt_ne | apply mt_not | apply mt_any) <;> (intro _; conv => whnf))) | (refine ACalls.mono (head_cmp m.head) ?_; rintro _ _ ⟨rfl, rfl⟩; (conv => whnf)) | (refine ACalls.mono (head_cmp m.cert) ?_; rintro _ _ ⟨rfl, rfl⟩; (conv => whnf)))
        all_goals first
          | (rename_i e; exact absurd rfl e)
          | (rename_i e; replace e : m.digest ≠ 0 := e; exact ⟨by rw [decide_eq_false (fun hh => by have := key.1 hh; omega)]; rfl, rfl⟩)
          | exact ⟨by rw [decide_eq_false (fun hh => by have := key.1 hh; omega)]; rfl, rfl⟩
          | (refine ⟨boolEq ?_, rfl⟩; rw [decide_eq_true_iff, key]; simp only [beq_iff_eq]; constructor <;> intro hh <;> omega)
          | (have hz : m.digest = 0 := ‹m.digest = if false = true then m.digest else 0›; refine ⟨boolEq ?_, rfl⟩; rw [decide_eq_true_iff, key]; simp only [beq_iff_eq]; constructor <;> intro hh <;> omega)
          | (have hz : m.digest = 0 := ‹m.digest = if false = true then m.digest else 0›; refine ⟨boolEq ?_, rfl⟩; rw [decide_eq_true_iff, key, beq_iff_eq]; exact ⟨fun _ => by omega, fun _ => rfl⟩)
          | skip
    · rw [decide_eq_false hok]
      rcases hfl with ⟨rfl, rfl, rfl, rfl, rfl⟩ | ⟨rfl, rfl, rfl, rfl, rfl⟩ | ⟨rfl, rfl, rfl, rfl, rfl⟩ | ⟨rfl, rfl, rfl, rfl, rfl⟩ | ⟨rfl, rfl, rfl, rfl, rfl⟩ | ⟨rfl, rfl, rfl, rfl, rfl⟩
      all_goals
        conv => whnf
        refine rdw ?_; repeat' ((with_reducible apply tw) <;> intro _)
        exact ⟨by rw [decide_eq_false (fun h : okMsg n m => hok h.ok)]; rfl, rfl⟩
end Go.Proofs.YtdlfmgcmfoehdaaGreat
namespace Go.Proofs.YtdlfmgcmfoehdaaGreat
open Go Go.Ab Go.RowKit Go.Lib Go.Proofs Go.Shelf
set_option maxRecDepth 100000
theorem insInt_shift (b n c i vb vc : Nat) (cs vs : List Value) {cur curv : Array Value} (w : World) (hi : i < n) (hroom : n + 1 ≤ c) (hc63 : c ≤ 9223372036854775807) (hvb : vb ≠ b)
    (hcur : w.heap[b]? = some (.cells cur 3 (0, 0))) (hsz : cur.size = c * 1) (hcv : w.heap[vb]? = some (.cells curv 3 (0, 0))) (hvl : curv.toList.take 1 = vs) (hv6 : vs.length = 1)
    (hcs : cur.toList.take (n * 1) = cs) (h1c : ∀ v ∈ cs, v.oneCell' = true) (h1v : ∀ v ∈ vs, v.oneCell' = true) :
    Calls Tryz.prog 123 #[.slice (some ⟨b, 0, none⟩) n c, .int .i64 i, .slice (some ⟨vb, 0, none⟩) 1 vc] w fun e w' =>
      e = .returned (.slice (some ⟨b, 0, none⟩) (n + 1) c) ∧ ∃ (cur' : Array Value) (w1 : World), Keeps w w1 ∧ w' = w1.setRow b cur' ∧ cur'.size = cur.size ∧ cur'.toList.take ((n + 1) * 1) = cs.take (i * 1) ++ vs ++ cs.drop (i * 1) := by
  have t0 := Tryz.underlying0; have a0 := Tryz.isAgg0; have z0 := Tryz.sizeOf0; have v0 := Tryz.zeroValue0
  have t3 := Tryz.underlying3; have a3 := Tryz.isAgg3; have z3 := Tryz.sizeOf3; have v3 := Tryz.zeroValue3
  have t4 := Tryz.underlying4; have a4 := Tryz.isAgg4; have z4 := Tryz.sizeOf4; have v4 := Tryz.zeroValue4
  have t22 := Tryz.underlying22; have a22 := Tryz.isAgg22; have z22 := Tryz.sizeOf22; have v22 := Tryz.zeroValue22
  have t68 := Tryz.underlying3; have a68 := Tryz.isAgg3; have z68 := Tryz.sizeOf3; have v68 := Tryz.zeroValue3
  have u0 := run_underlying t0; have u3 := run_underlying t3; have u4 := run_underlying t4; have u22 := run_underlying t22; have u68 := run_underlying t68
  have mixed := mixedOk
  have hz2 : ¬ ((i : Int) = (n : Int)) := by omega
  have hin : i ≤ n := by omega
  have hw1 : IntKind.i64.wrap ((i : Int) + 1) = (i : Int) + 1 := by rw [IntKind.wrap_i64]; omega
  have hwn : IntKind.i64.wrap ((n : Int) + 1) = (n : Int) + 1 := by rw [IntKind.wrap_i64]; omega
  have hb1 : (0 : Int) ≤ (i : Int) + 1 := by omega
  have htn : ((i : Int) + 1).toNat = i + 1 := by omega
  have hnn : ((n : Int) + 1).toNat = n + 1 := by omega
  have hb2 : ¬ (c = i + 1) := by omega
  have hb3 : (i : Int) ≤ (n : Int) + 1 := by omega
  have hb4 : ¬ (c = i) := by omega
  have hb5 : ¬ ((n : Int) + 1 > (c : Int)) := by omega
  have hshv : w.shape? vb = some (3, curv.size) := by simp [World.shape?, hcv]
  have hshb : w.shape? b = some (3, cur.size) := by simp [World.shape?, hcur]
  have hfr : ∀ o, w.frozen? ⟨vb, o, none⟩ = false := fun o => by simp [World.frozen?, hcv]
  have hcs0 : cur.size ≠ 0 := by omega
  have hov : ∀ lb cb, (callFunc 155 #[.slice (some ⟨vb, 0, none⟩) 1 vc, .slice (some ⟨b, (i + 1) * 1, none⟩) lb cb]).run Tryz.prog w = .ok (.value (.bool false)) w := fun lb cb => by
    rw [run_callFunc_extern Tryz.func155 (by kernel_rfl) (by kernel_rfl) (by kernel_rfl) (e := Extern.SlicesOverlaps.overlaps #[22, 22] #[4]) (by kernel_rfl),
      Lib.run_overlaps_apart w 22 4 3 t22 1 z68 ⟨vb, 0, none⟩ ⟨b, (i + 1) * 1, none⟩ 1 vc lb cb hvb 3 3 curv.size cur.size hshv hshb hcs0 (hfr _) (hfr _)]
    rfl
  have hcl : cs.length = n * 1 := by rw [← hcs, List.length_take, Array.length_toList, hsz]; exact Nat.min_eq_left (Nat.mul_le_mul_right _ (by omega))
  have hul : (cs.drop (i * 1)).length = (n - i) * 1 := by rw [List.length_drop, hcl, Nat.sub_mul]
  obtain ⟨cur1, hc1⟩ : ∃ cur1 : Array Value, (cur.toList.take ((i + 1) * 1) ++ cs.drop (i * 1) ++ cur.toList.drop ((i + 1) * 1 + (cs.drop (i * 1)).length)).toArray = cur1 := ⟨_, rfl⟩
  have hil := ins_list cur.toList vs (i * 1) (n * 1) 1 (Nat.mul_le_mul_right _ hin) (by rw [Array.length_toList, hsz]; omega) hv6 cur1.toList (by rw [← hc1, hcs, Nat.add_mul, Nat.one_mul])
  obtain ⟨cur2, hc2⟩ : ∃ cur2 : Array Value, (cur1.toList.take (i * 1) ++ vs ++ cur1.toList.drop (i * 1 + vs.length)).toArray = cur2 := ⟨_, rfl⟩
  have hl1 : cur1.size = cur.size := by have := hil.2.2; simpa using this
  have hcp1 : ∀ ty dc sc, (Builtin.copy_ #[22, 22] ty #[.slice (some ⟨b, (i + 1) * 1, none⟩) (n - i) dc, .slice (some ⟨b, i * 1, none⟩) (n + 1 - i) sc]).run Tryz.prog w.drew = .ok (goInt (n - i : Nat)) (w.drew.setRow b cur1) := fun ty dc sc => by
    have := run_copy_cellsK (P := Tryz.prog) w.drew 22 22 ty 3 1 b ((i + 1) * 1) (n - i) dc ⟨b, i * 1, none⟩ (n + 1 - i) sc (n - i) (cs.drop (i * 1)) (cur := cur) t22 z68 (Nat.min_eq_right (by omega)) hul
      (fun j v hj => by
        rw [add_lit _ rfl, show w.drew.cell? ⟨b, i * 1 + j, none⟩ = w.cell? ⟨b, i * 1 + j, none⟩ from rfl, cell_of_row w b _ cur _ _ hcur]
        rw [List.getElem?_drop, ← hcs, List.getElem?_take] at hj
        split at hj
        · simpa using hj
        · cases hj) hcur (by rw [hul, hsz]; omega) (fun v hv => h1c v (List.mem_of_mem_drop hv))
    rw [hc1] at this
    exact this
  have hcp2 : ∀ (W : World), (∀ x : Nat, W.heap[x]? = (w.drew.setRow b cur1).heap[x]?) → ∀ ty dc, (Builtin.copy_ #[22, 22] ty #[.slice (some ⟨b, i * 1, none⟩) (n + 1 - i) dc, .slice (some ⟨vb, 0, none⟩) 1 vc]).run Tryz.prog W = .ok (goInt (1 : Nat)) (W.setRow b cur2) := fun W hW ty dc => by
    have := run_copy_cellsK (P := Tryz.prog) W 22 22 ty 3 1 b (i * 1) (n + 1 - i) dc ⟨vb, 0, none⟩ 1 vc 1 vs (cur := cur1) (e := 3) t22 z68 (Nat.min_eq_left (by omega)) (by rw [hv6])
      (fun j v hj => by
        rw [add_lit _ rfl, Nat.zero_add]
        have h1 : W.cell? ⟨vb, j, none⟩ = (w.drew.setRow b cur1).cell? ⟨vb, j, none⟩ := by simp only [World.cell?, hW]
        rw [h1, cell_setRow_other _ _ _ _ hvb, show w.drew.cell? ⟨vb, j, none⟩ = w.cell? ⟨vb, j, none⟩ from rfl, cell_of_row w vb _ curv _ _ hcv]
        rw [← hvl, List.getElem?_take] at hj
        split at hj
        · simpa using hj
        · cases hj) (by rw [hW]; exact setRow_heap _ _ _ _ _ _ hcur) (by rw [hv6, hl1, hsz]; omega) h1v
    rw [hc2] at this
    exact this
  clear hc1 hul hcl
  simp only [Nat.mul_one] at hov hcp1 hcp2
  go_enter Tryz.func123, Tryz.ntmps123
  go_wp2_with (simp only [hov])
  go_region_law_o (refine step_copy_runI rfl _ _ 22 22 rfl (.slice (some ⟨b, i + 1, none⟩) (n - i) (c - (i + 1))) (.slice (some ⟨b, i, none⟩) (n + 1 - i) (c - i)) (by simp [Act.eval, Act.put]) (by simp [Act.eval, Act.put]) (hcp1 _ _ _) ?_)
  go_wp2_with (at_builtin; refine wpList_copy_runI _ rfl _ _ 22 22 rfl _ _ rfl rfl (hcp2 _ (fun _ => rfl) _ _) ?_)
  go_ret
  refine ⟨rfl, cur2, w.drew, Keeps.drew w, setRow_setRow _ _ _ _, ?_, ?_⟩
  · have := hil.2.1
    rw [← hc2]
    simpa using this
  · rw [Nat.add_mul, Nat.one_mul, ← hc2]
    have := hil.1
    rw [hcs] at this
    exact this
set_option maxHeartbeats 4000000 in
theorem insInt_grow (b n c i vb vc : Nat) (cs vs : List Value) {cur curv : Array Value} (w : World) (hi : i < n) (hnc : n ≤ c) (hroom : c < n + 1) (hbig : (n + 1) * 8192 ≤ 140737488355328) (hvb : vb ≠ b)
    (hcur : w.heap[b]? = some (.cells cur 3 (0, 0))) (hsz : cur.size = c * 1) (hcv : w.heap[vb]? = some (.cells curv 3 (0, 0))) (hvl : curv.toList.take 1 = vs) (hv6 : vs.length = 1)
    (hcs : cur.toList.take (n * 1) = cs) (h1c : ∀ v ∈ cs, v.oneCell' = true) (h1v : ∀ v ∈ vs, v.oneCell' = true) :
    Calls Tryz.prog 123 #[.slice (some ⟨b, 0, none⟩) n c, .int .i64 i, .slice (some ⟨vb, 0, none⟩) 1 vc] w fun e w' =>
      ∃ (cur' : Array Value) (G : Nat), e = .returned (.slice (some ⟨w.heap.size, 0, none⟩) (n + 1) G) ∧ Keeps w w' ∧ w'.heap[w.heap.size]? = some (.cells cur' 3 (0, 0)) ∧ cur'.size = G * 1 ∧ n + 1 ≤ G ∧ G ≤ maxLen ∧ cur'.toList.take ((n + 1) * 1) = cs.take (i * 1) ++ vs ++ cs.drop (i * 1) := by
  have t0 := Tryz.underlying0; have a0 := Tryz.isAgg0; have z0 := Tryz.sizeOf0; have v0 := Tryz.zeroValue0
  have t3 := Tryz.underlying3; have a3 := Tryz.isAgg3; have z3 := Tryz.sizeOf3; have v3 := Tryz.zeroValue3
  have t4 := Tryz.underlying4; have a4 := Tryz.isAgg4; have z4 := Tryz.sizeOf4; have v4 := Tryz.zeroValue4
  have t22 := Tryz.underlying22; have a22 := Tryz.isAgg22; have z22 := Tryz.sizeOf22; have v22 := Tryz.zeroValue22
  have t68 := Tryz.underlying3; have a68 := Tryz.isAgg3; have z68 := Tryz.sizeOf3; have v68 := Tryz.zeroValue3
  have u0 := run_underlying t0; have u3 := run_underlying t3; have u4 := run_underlying t4; have u22 := run_underlying t22; have u68 := run_underlying t68
  have mixed := mixedOk
  obtain ⟨ti, htt⟩ : ∃ ti, tt 3 = some ti := ⟨_, rfl⟩
  have htb : ti.bytes ≤ 8192 := by cases htt; decide
  have hti : ti.size = 1 := by cases htt; rfl
  obtain ⟨_, info, k1, k2, k3, k4⟩ := ttOk 3 ti htt
  have hzc := zOk 3 ti htt
  rw [hti] at hzc k3
  clear htt
  have hcl : cs.length = n * 1 := by rw [← hcs, List.length_take, Array.length_toList, hsz]; exact Nat.min_eq_left (Nat.mul_le_mul_right _ (by omega))
  have hul : (cs.drop (i * 1)).length = (n - i) * 1 := by rw [List.length_drop, hcl, Nat.sub_mul]
  have hbw : b < w.heap.size := (Array.getElem?_eq_some_iff.1 hcur).1
  have hvw : vb < w.heap.size := (Array.getElem?_eq_some_iff.1 hcv).1
  have hold : (Builtin.firstCells info.size i (.slice (some ⟨b, 0, none⟩) i c)).run Tryz.prog w.drew = .ok (cs.take (i * 1)).toArray w.drew :=
    run_firstCells_some w.drew info.size i ⟨b, 0, none⟩ i c (cs.take (i * 1)) (by rw [List.length_take, hcl, k3]; exact Nat.min_eq_left (Nat.mul_le_mul_right _ (by omega))) (fun j v hj => by
      rw [add_lit _ rfl, Nat.zero_add, show w.drew.cell? ⟨b, j, none⟩ = w.cell? ⟨b, j, none⟩ from rfl, cell_of_row w b _ cur _ _ hcur]
      rw [← hcs, List.getElem?_take] at hj
      split at hj
      · rw [List.getElem?_take] at hj
        split at hj
        · simpa using hj
        · cases hj
      · cases hj)
  have hby : (n + 1) * info.bytes ≤ 140737488355328 := Nat.le_trans (Nat.mul_le_mul_left _ (by rw [k4]; exact htb)) hbig
  have hkk : (n : Int) + 1 - (i : Int) = ((n + 1 - i : Nat) : Int) := by omega
  have hik : i + (n + 1 - i) = n + 1 := by omega
  obtain ⟨G, hG⟩ : ∃ G, G = grownCap w (n + 1) c 3 := ⟨_, rfl⟩
  obtain ⟨ROW, hROW⟩ : ∃ ROW : Array Value, ROW = (cs.take (i * 1)).toArray ++ Builtin.zeroCells ti.zero.cells (n + 1 - i) ++ Builtin.zeroCells ti.zero.cells (G - (n + 1)) := ⟨_, rfl⟩
  have hrz : ∀ ty, (Builtin.append_ #[22, 3] ty #[.slice (some ⟨b, 0, none⟩) i c, .int .i64 ((n : Int) + 1 - (i : Int))]).run Tryz.prog w =
      .ok (.slice (some ⟨w.heap.size, 0, none⟩) (n + 1) G) (w.drew.alloc (.cells ROW 3)) := fun ty => by
    have h := Lib.run_append_grow_zeros w 22 3 ty 3 info _ .i64 .i64 t22 t3 k1 k2 (some ⟨b, 0, none⟩) i c (cs.take (i * 1)) hold (n + 1 - i) (by omega) (by omega) (by omega) (by omega) (Nat.le_trans (Nat.mul_le_mul_right _ (by omega)) (Nat.le_trans hby (by decide))) (by rw [hik]; exact growslice_fits hroom hby)
    rw [hik, ← hG, ← hROW] at h
    rw [hkk]
    exact h
  have hGn : n + 1 ≤ G := by rw [hG]; exact grownCap_ge w _ _ _
  have hGm : G ≤ maxLen := by
    rw [hG]
    exact grownCap_le_maxLen w (n + 1) c 3 (by unfold maxLen; omega)
  have hG63 : G ≤ 9223372036854775807 := by unfold maxLen at hGm; omega
  have hRs : ROW.size = G * 1 := by
    rw [hROW]
    simp only [Array.size_append, size_zeroCells, List.size_toArray, List.length_take, hcl, hzc]
    rw [Nat.min_eq_left (Nat.mul_le_mul_right _ (by omega : i ≤ n)), ← Nat.add_mul, ← Nat.add_mul]
    congr 1
    omega
  have hRt : ROW.toList.take (i * 1) = cs.take (i * 1) := by
    rw [hROW, Array.toList_append, Array.toList_append, List.append_assoc, List.take_append_of_le_length (by simp [hcl]; omega), List.take_of_length_le (by simp; omega)]
  obtain ⟨R1, hR1⟩ : ∃ R1 : Array Value, (ROW.toList.take (i * 1) ++ vs ++ ROW.toList.drop (i * 1 + vs.length)).toArray = R1 := ⟨_, rfl⟩
  obtain ⟨R2, hR2⟩ : ∃ R2 : Array Value, (R1.toList.take ((i + 1) * 1) ++ cs.drop (i * 1) ++ R1.toList.drop ((i + 1) * 1 + (cs.drop (i * 1)).length)).toArray = R2 := ⟨_, rfl⟩
  have hil := ins_list2 ROW.toList vs (cs.drop (i * 1)) _ (i * 1) (n * 1) 1 (Nat.mul_le_mul_right _ (by omega)) (by rw [Array.length_toList, hRs]; omega) hv6 (by rw [hul, Nat.sub_mul]) hRt
  have hl1 : R1.size = G * 1 := by rw [← hRs, ← hR1]; simpa using hil.2.2
  have e1 : R1.toList = ROW.toList.take (i * 1) ++ vs ++ ROW.toList.drop (i * 1 + vs.length) := by rw [← hR1]
  rw [← e1, show i * 1 + 1 = (i + 1) * 1 by omega] at hil
  have hl2 : R2.size = G * 1 := by rw [← hRs, ← hR2]; simpa using hil.2.1
  have hr2 : R2.toList.take ((n + 1) * 1) = cs.take (i * 1) ++ vs ++ cs.drop (i * 1) := by
    rw [← hR2, show (n + 1) * 1 = n * 1 + 1 by omega]
    exact hil.1
  have hnew : (w.drew.alloc (.cells ROW 3)).heap[w.heap.size]? = some (.cells ROW 3 (0, 0)) := heap_alloc_new w.drew _
  have hvbN : vb ≠ w.heap.size := by omega
  have hbN : b ≠ w.heap.size := by omega
  have hcpA : ∀ (W : World), (∀ x : Nat, W.heap[x]? = (w.drew.alloc (.cells ROW 3)).heap[x]?) → ∀ ty dc, (Builtin.copy_ #[22, 22] ty #[.slice (some ⟨w.heap.size, i * 1, none⟩) (n + 1 - i) dc, .slice (some ⟨vb, 0, none⟩) 1 vc]).run Tryz.prog W = .ok (goInt (1 : Nat)) (W.setRow w.heap.size R1) := fun W hW ty dc => by
    have := run_copy_cellsK (P := Tryz.prog) W 22 22 ty 3 1 w.heap.size (i * 1) (n + 1 - i) dc ⟨vb, 0, none⟩ 1 vc 1 vs (cur := ROW) (e := 3) t22 z68 (Nat.min_eq_left (by omega)) (by rw [hv6])
      (fun j v hj => by
        rw [add_lit _ rfl, Nat.zero_add]
        have h1 : W.cell? ⟨vb, j, none⟩ = (w.drew.alloc (.cells ROW 3)).cell? ⟨vb, j, none⟩ := by simp only [World.cell?, hW]
        rw [h1]
        refine (Keeps.alloc w.drew _).cell ?_
        rw [show w.drew.cell? ⟨vb, j, none⟩ = w.cell? ⟨vb, j, none⟩ from rfl, cell_of_row w vb _ curv _ _ hcv]
        rw [← hvl, List.getElem?_take] at hj
        split at hj
        · simpa using hj
        · cases hj) (by rw [hW]; exact hnew) (by rw [hv6, hRs]; omega) h1v
    rw [hR1] at this
    exact this
  have hcpB : ∀ (W : World), (∀ x : Nat, W.heap[x]? = ((w.drew.alloc (.cells ROW 3)).setRow w.heap.size R1).heap[x]?) → ∀ ty dc sc, (Builtin.copy_ #[22, 22] ty #[.slice (some ⟨w.heap.size, (i + 1) * 1, none⟩) (n - i) dc, .slice (some ⟨b, i * 1, none⟩) (n - i) sc]).run Tryz.prog W = .ok (goInt (n - i : Nat)) (W.setRow w.heap.size R2) := fun W hW ty dc sc => by
    have := run_copy_cellsK (P := Tryz.prog) W 22 22 ty 3 1 w.heap.size ((i + 1) * 1) (n - i) dc ⟨b, i * 1, none⟩ (n - i) sc (n - i) (cs.drop (i * 1)) (cur := R1) (e := 3) t22 z68 (Nat.min_self _) hul
      (fun j v hj => by
        rw [add_lit _ rfl]
        have h1 : W.cell? ⟨b, i * 1 + j, none⟩ = ((w.drew.alloc (.cells ROW 3)).setRow w.heap.size R1).cell? ⟨b, i * 1 + j, none⟩ := by simp only [World.cell?, hW]
        rw [h1, cell_setRow_other _ _ _ _ hbN]
        refine (Keeps.alloc w.drew _).cell ?_
        rw [show w.drew.cell? ⟨b, i * 1 + j, none⟩ = w.cell? ⟨b, i * 1 + j, none⟩ from rfl, cell_of_row w b _ cur _ _ hcur]
        rw [List.getElem?_drop, ← hcs, List.getElem?_take] at hj
        split at hj
        · simpa using hj
        · cases hj) (by rw [hW]; exact setRow_heap _ _ _ _ _ _ hnew) (by rw [hul, hl1]; omega) (fun v hv => h1c v (List.mem_of_mem_drop hv))
    rw [hR2] at this
    exact this
  have hw1 : IntKind.i64.wrap ((i : Int) + 1) = (i : Int) + 1 := by rw [IntKind.wrap_i64]; omega
  have hwn : IntKind.i64.wrap ((n : Int) + 1) = (n : Int) + 1 := by rw [IntKind.wrap_i64]; omega
  have hws : IntKind.i64.wrap ((n : Int) + 1 - i) = (n : Int) + 1 - i := by rw [IntKind.wrap_i64]; omega
  have hb1 : (0 : Int) ≤ (i : Int) + 1 := by omega
  have htn : ((i : Int) + 1).toNat = i + 1 := by omega
  have hz2 : ¬ ((i : Int) = (n : Int)) := by omega
  have hin : i ≤ n := by omega
  have hb3 : (i : Int) ≤ (n : Int) := by omega
  have hb5 : (c : Int) < (n : Int) + 1 := by omega
  have hGi : ¬ (G = i) := by omega
  have hGim : ¬ (G = i + 1) := by omega
  have hci : ¬ (c = i) := by omega
  clear hkk hik hold hROW hG hRt hRs hR1 hR2 hil hl1 e1
  have hcpA' : ∀ dc, (Builtin.copy_ #[22, 22] 3 #[.slice (some ⟨w.heap.size, i * 1, none⟩) (n + 1 - i) dc, .slice (some ⟨vb, 0, none⟩) 1 vc]).run Tryz.prog (w.alloc (.cells ROW 3)).drew = .ok (goInt (1 : Nat)) ((w.alloc (.cells ROW 3)).drew.setRow w.heap.size R1) := fun dc => hcpA _ (fun _ => rfl) _ _
  have hcpB' := hcpB ((w.alloc (.cells ROW 3)).drew.setRow w.heap.size R1).drew (fun _ => rfl) 3 (G - (i + 1)) (c - i)
  simp only [Nat.mul_one] at hcpA' hcpB'
  go_enter Tryz.func123, Tryz.ntmps123
  go_wp2_with (first
    | (at_builtin; refine Lib.wpList_append_run _ rfl _ _ _ _ rfl _ _ rfl rfl _ _ (hrz _) ?_)
    | simp only [hcpA'])
  go_region_law_o (refine step_copy_runI rfl _ _ 22 22 rfl (.slice (some ⟨w.heap.size, i + 1, none⟩) (n - i) (G - (i + 1))) (.slice (some ⟨b, i, none⟩) (n - i) (c - i)) (by simp [Act.eval, Act.put]) (by simp [Act.eval, Act.put]) hcpB' ?_)
  go_wp2
  go_ret
  exact ⟨R2, G, rfl, (((Keeps.alloc w _).trans (Keeps.drew _)).setNew _ (Nat.le_refl _) _).trans (Keeps.drew _) |>.setNew _ (Nat.le_refl _) _, setRow_heap _ _ _ _ _ _ (setRow_heap _ _ _ _ _ _ hnew), hl2, hGn, hGm, hr2⟩
theorem insertInt_in (l : List (List DV)) (x : List DV) (i : Nat) (hi : i < l.length) (hl : l.length ≤ 4294967296) : ACalls Tryz.prog 123 [.arr 0, .d (.int .i64 i), .arr 1] [.row 3 1 l false, .row 3 1 [x] false] (fun av L => av = .arr 2 ∧ L = [.dead, .row 3 1 [x] false, .row 3 1 (l.take i ++ x :: l.drop i) false]) := by
  intro c vs hc hL0 hs hv
  simp only [VRt, VR, VD] at hv
  obtain ⟨u0, r0, hvs, ⟨ab0, hab0, har0⟩, u1, r1, rfl, hu1, u2, r2, rfl, ⟨ab2, hab2, har2⟩, rfl⟩ := hv
  simp only [List.getElem?_cons_zero, List.getElem?_cons_succ, Option.some.injEq] at hab0 hab2
  subst hab0; subst hab2; subst hu1
  have hvs' : vs = #[u0, .int .i64 i, u2] := by rw [← Array.toArray_toList (xs := vs), hvs]
  rw [hvs']
  have hb0 := hs.blk 0 _ rfl
  have hb1 := hs.blk 1 _ rfl
  obtain ⟨_, hxl, hb1⟩ := hb1
  obtain ⟨_, hll, hb0⟩ := hb0
  have hx6 : x.length = 1 := hxl x (by simp)
  cases hE1 : c.E0 1 with
  | none => rw [hE1] at hb1; cases hb1
  | some vb =>
  cases hE : c.E0 0 with
  | none =>
    rw [hE] at hb0
    have hb0 : l = [] := hb0
    subst hb0
    simp at hi
  | some b =>
  rw [hE] at hb0
  rw [hE1] at hb1
  simp only [arRel, hE, hE1] at har0 har2
  obtain ⟨cap, cur, rfl, hh, hsz⟩ := har0
  obtain ⟨vc, curv, rfl, hhv, hszv⟩ := har2
  obtain ⟨cap', cur', hh', hsz', hcap, hmax, hvd⟩ := hb0
  rw [hh] at hh'; cases hh'
  obtain rfl : cap = cap' := by omega
  obtain ⟨vc', curv', hhv', hszv', hvcap, _, hvdv⟩ := hb1
  rw [hhv] at hhv'; cases hhv'
  have hne : vb ≠ b := by
    rintro rfl
    have := hs.inj 1 0 _ _ _ rfl rfl rfl rfl hE1 hE
    cases this
  simp only [List.length_cons, List.length_nil, Nat.zero_add, Nat.one_mul, List.flatten_cons, List.flatten_nil, List.append_nil] at hvdv hvcap ⊢
  have h1c := Cs_one hvd
  have h1v := Cs_one hvdv
  have hv6 : (curv.toList.take 1).length = 1 := by rw [Cs_length hvdv, hx6]
  have hzl : (l.take i ++ x :: l.drop i).length = l.length + 1 := by simp; omega
  have hzn : ∀ cs ∈ l.take i ++ x :: l.drop i, cs.length = 1 := by
    intro cs hcs
    rcases List.mem_append.1 hcs with h | h
    · exact hll cs (List.mem_of_mem_take h)
    · rcases List.mem_cons.1 h with rfl | h
      · exact hx6
      · exact hll cs (List.mem_of_mem_drop h)
  have hnew : VDs (rcOf c.M0 c.E0 [AB.row 3 1 l false, AB.row 3 1 [x] false] c.w0).rd (l.take i ++ x :: l.drop i).flatten ((cur.toList.take (l.length * 1)).take (i * 1) ++ curv.toList.take 1 ++ (cur.toList.take (l.length * 1)).drop (i * 1)) := by
    rw [List.flatten_append, List.flatten_cons, flatten_takeN l hll, flatten_dropN l hll, ← List.append_assoc]
    exact Cs_append (Cs_append (Cs_take _ hvd) hvdv) (Cs_drop _ hvd)
  by_cases hroom : l.length + 1 ≤ cap
  · refine (insInt_shift b l.length cap i vb vc _ _ c.w0 hi hroom (by unfold maxLen at hmax; omega) hne hh hsz hhv rfl hv6 rfl h1c h1v).mono ?_
    rintro e w' ⟨rfl, cur2, w1, kk, rfl, hs2, ht2⟩
    have hblt := hs.lt (i := 0) rfl rfl hE
    obtain ⟨hs3, hle3⟩ := (hs.keeps hc kk).turn (i := 0) (zs := l.take i ++ x :: l.drop i) rfl hE (cur' := cur2) (by rw [kk.block b hblt]; exact hh) hs2 (by rw [hzl, hsz]; exact Nat.mul_le_mul_right _ hroom) hzn (by
      rw [hzl, ht2]
      exact VDs.mono (le_keeps kk).rd hnew)
    refine ⟨_, .arr 2, _, _, rfl, ⟨rfl, rfl⟩, hs3, ?_⟩
    simp only [VR]
    refine ⟨_, rfl, ?_⟩
    simp only [arRel, Eupd]
    exact ⟨cap, cur2, by rw [hzl], setRow_heap _ _ _ _ _ _ (by rw [kk.block b hblt]; exact hh), by rw [hs2]; exact hsz⟩
  · refine (insInt_grow b l.length cap i vb vc _ _ c.w0 hi hcap (by omega) (by omega) hne hh hsz hhv rfl hv6 rfl h1c h1v).mono ?_
    rintro e w' ⟨cur2, G, rfl, kk, hh2, hs2, hG1, hG2, ht2⟩
    obtain ⟨hk, hkle⟩ := hs.kill (i := 0) rfl
    obtain ⟨hs3, hle3⟩ := hk.newRow hc kk (e := 3) (xs := l.take i ++ x :: l.drop i) false (by omega) hzn hh2 hs2 (by rw [hzl]; exact hG1) hG2 (by
      rw [hzl, ht2]
      exact VDs.mono hkle.rd hnew)
    refine ⟨_, .arr 2, _, _, rfl, ⟨rfl, rfl⟩, hs3, ?_⟩
    simp only [VR]
    refine ⟨_, rfl, ?_⟩
    simp only [arRel, Eupd]
    exact ⟨G, cur2, by rw [hzl], hh2, hs2⟩
theorem insertInt_end (l : List (List DV)) (hll : ∀ cs ∈ l, cs.length = 1) (x : List DV) (hx : x.length = 1) (hl : l.length ≤ 4294967296) : ACalls Tryz.prog 123 [.arr 0, .d (.int .i64 l.length), .arr 1] [.row 3 1 l false, .row 3 1 [x] false] (fun av L => av = .arr 2 ∧ L = [.dead, .row 3 1 [x] false, .row 3 1 (l ++ [x]) false]) := by
  intro c vs hc hL0 hs hv
  have hv0 := hv
  simp only [VRt, VR, VD] at hv
  obtain ⟨u0, r0, hvs, ⟨ab0, hab0, har0⟩, u1, r1, rfl, hu1, u2, r2, rfl, ⟨ab2, hab2, har2⟩, rfl⟩ := hv
  have hq : appendK tt 22 [AB.row 3 1 l false, AB.row 3 1 [x] false] (.arr 0) (.arr 1) (fun av L => av = .arr 2 ∧ L = [.dead, .row 3 1 [x] false, .row 3 1 (l ++ [x]) false]) := by
    conv => whnf
    refine ⟨by simp; omega, ?_⟩
    conv => whnf
    exact ⟨rfl, rfl⟩
  have hv1 : VR (rcOf c.M0 c.E0 [AB.row 3 1 l false, AB.row 3 1 [x] false] c.w0) (.arr 0) u0 := ⟨ab0, hab0, har0⟩
  have hv2 : VR (rcOf c.M0 c.E0 [AB.row 3 1 l false, AB.row 3 1 [x] false] c.w0) (.arr 1) u2 := ⟨ab2, hab2, har2⟩
  have hr := fun ty => appendK_run ttOk zOk hc hs hq ty hv1 hv2
  simp only [List.getElem?_cons_zero, List.getElem?_cons_succ, Option.some.injEq] at hab0 hab2
  subst hab0; subst hab2; subst hu1
  have hvs' : vs = #[u0, .int .i64 l.length, u2] := by rw [← Array.toArray_toList (xs := vs), hvs]
  rw [hvs']
  have hb0 := hs.blk 0 _ rfl
  have hb1 := hs.blk 1 _ rfl
  obtain ⟨_, hxl, hb1⟩ := hb1
  obtain ⟨_, hll, hb0⟩ := hb0
  cases hE1 : c.E0 1 with
  | none => rw [hE1] at hb1; cases hb1
  | some vb =>
  simp only [arRel, hE1] at har2
  obtain ⟨vc, curv, rfl, hhv, hszv⟩ := har2
  obtain ⟨r, w', E', av, L', hrun, ⟨rfl, rfl⟩, hsim, hle, hvr⟩ := hr 22
  simp only [List.length_cons, List.length_nil, Nat.zero_add] at hrun ⊢
  have t0 := Tryz.underlying0; have a0 := Tryz.isAgg0; have z0 := Tryz.sizeOf0; have v0 := Tryz.zeroValue0
  have t3 := Tryz.underlying3; have a3 := Tryz.isAgg3; have z3 := Tryz.sizeOf3; have v3 := Tryz.zeroValue3
  have t4 := Tryz.underlying4; have a4 := Tryz.isAgg4; have z4 := Tryz.sizeOf4; have v4 := Tryz.zeroValue4
  have t22 := Tryz.underlying22; have a22 := Tryz.isAgg22; have z22 := Tryz.sizeOf22; have v22 := Tryz.zeroValue22
  have t68 := Tryz.underlying3; have a68 := Tryz.isAgg3; have z68 := Tryz.sizeOf3; have v68 := Tryz.zeroValue3
  have u0 := run_underlying t0; have u3 := run_underlying t3; have u4 := run_underlying t4; have u22 := run_underlying t22; have u68 := run_underlying t68
  have mixed := mixedOk
  cases hE : c.E0 0 with
  | none =>
    rw [hE] at hb0
    have hb0 : l = [] := hb0
    subst hb0
    simp only [arRel, hE] at har0
    subst har0
    refine Calls.mono (R := fun e w2 => e = .returned r ∧ w2 = w') ?_ (by rintro _ _ ⟨rfl, rfl⟩; exact ⟨_, .arr 2, _, _, rfl, ⟨rfl, rfl⟩, hsim, hvr⟩)
    go_enter Tryz.func123, Tryz.ntmps123
    go_wp2_with (at_builtin; refine Lib.wpList_append_run _ rfl _ _ _ _ rfl _ _ rfl rfl _ _ hrun ?_)
    go_ret
    exact ⟨rfl, rfl⟩
  | some b =>
    rw [hE] at hb0
    simp only [arRel, hE] at har0
    obtain ⟨cap, cur, rfl, hh, hsz⟩ := har0
    obtain ⟨cap', cur', hh', hsz', hcap, hmax, hvd⟩ := hb0
    rw [hh] at hh'; cases hh'
    obtain rfl : cap = cap' := by omega
    have hc63 : cap ≤ 9223372036854775807 := by unfold maxLen at hmax; omega
    refine Calls.mono (R := fun e w2 => e = .returned r ∧ w2 = w') ?_ (by rintro _ _ ⟨rfl, rfl⟩; exact ⟨_, .arr 2, _, _, rfl, ⟨rfl, rfl⟩, hsim, hvr⟩)
    clear hsz hsz' hvr hsim hle
    obtain ⟨n, hn⟩ : ∃ n, l.length = n := ⟨_, rfl⟩
    rw [hn] at hrun hcap ⊢
    go_enter Tryz.func123, Tryz.ntmps123
    go_wp2_with (at_builtin; refine Lib.wpList_append_run _ rfl _ _ _ _ rfl _ _ rfl rfl _ _ hrun ?_)
    all_goals (go_ret; exact ⟨rfl, rfl⟩)
end Go.Proofs.YtdlfmgcmfoehdaaGreat
namespace Go.Proofs.YtdlfmgcmfoehdaaGreat
open Go.Ab Go.RowKit Go.MapKept
attribute [local irreducible] ACalls AW ADraw Into fltB fnear
set_option maxRecDepth 100000
def ackI (l : List Int) (x : Int) : Nat := (l.filter fun y => decide (y < x)).length
def ackP (l : List Int) (x : Int) : List Int := if x ∈ l then l else l.take (ackI l x) ++ x :: l.drop (ackI l x)
theorem ackI_eq {l : List Int} {x : Int} {i : Nat} (h2 : i ≤ l.length) (h3 : ∀ m a, m < i → l[m]? = some a → a < x) (h4 : ∀ m a, i ≤ m → l[m]? = some a → x ≤ a) : ackI l x = i := by
  have e : l = l.take i ++ l.drop i := (List.take_append_drop i l).symm
  have e1 : (l.take i).filter (fun y => decide (y < x)) = l.take i := by
    rw [List.filter_eq_self]
    intro y hy
    obtain ⟨m, hm⟩ := List.getElem?_of_mem hy
    rw [List.getElem?_take] at hm
    split at hm
    · rename_i hlt
      exact decide_eq_true (h3 m y hlt hm)
    · cases hm
  have e2 : (l.drop i).filter (fun y => decide (y < x)) = [] := by
    rw [List.filter_eq_nil_iff]
    intro y hy
    obtain ⟨m, hm⟩ := List.getElem?_of_mem hy
    rw [List.getElem?_drop] at hm
    have := h4 (i + m) y (by omega) hm
    simp; omega
  unfold ackI
  rw [e, List.filter_append, e1, e2, List.append_nil, List.length_take]
  omega
theorem ackI_le (l : List Int) (x : Int) : ackI l x ≤ l.length := List.length_filter_le ..
theorem bsearchI_pos (l : List Int) (hl : few l) (hs : risingI l) (x : Int) : ACalls Tryz.prog 121 [.d (.sl 1 (nums l)), .d (.int .i64 x)] [] (fun av L => av = .tup [.d (.int .i64 (ackI l x)), .d (.bool (decide (x ∈ l)))] ∧ L = []) := by
  have hll := nums_length l
  unfold few at hl
  have hmono : ∀ (i j : Nat) (a b : Int), i < j → l[i]? = some a → l[j]? = some b → a < b := by
    intro i j a b hij ha hb
    have hj : j < l.length := by
      rcases Nat.lt_or_ge j l.length with h | h
      · exact h
      · rw [List.getElem?_eq_none h] at hb; cases hb
    rw [List.getElem?_eq_getElem (by omega)] at ha hb
    cases ha; cases hb
    exact List.pairwise_iff_getElem.1 hs i j (by omega) hj hij
  refine acalls_go ttOk zOk foOk Tryz.func121 rfl Tryz.ntmps121 rfl false rfl ?_
  conv => whnf
  refine loop_go ttOk zOk foOk (σ := Nat × Nat) (fun | (i, j) => ([(0, .d (.sl 1 (nums l))), (1, .d (.int .i64 x)), (6, .d (.int .i64 l.length)), (7, .d (.int .i64 i)), (8, .d (.int .i64 j))], [])) (fun s => s.1 ≤ s.2 ∧ s.2 ≤ l.length ∧ (∀ m a, m < s.1 → l[m]? = some a → a < x) ∧ (∀ m a, s.2 ≤ m → l[m]? = some a → x ≤ a)) (fun s => s.2 - s.1) [0, 1, 6, 7, 8] ?_ ?_
  · conv => whnf
    refine ⟨(0, l.length), by rw [hll]; rfl, rfl, Nat.zero_le _, Nat.le_refl _, by omega, ?_⟩
    intro m a hm ha
    rw [List.getElem?_eq_none hm] at ha; cases ha
  · rintro ⟨i, j⟩ ⟨h1, h2, h3, h4⟩
    simp only at h1 h2 h3 h4
    conv => whnf
    refine rdw ?_; repeat' ((with_reducible apply tw) <;> intro _)
    · rename_i hij
      intro z hz
      conv => whnf
      refine ⟨by decide, ?_⟩
      intro z1 hz1
      conv => whnf
      intro z2 hz2
      have hh := half (by omega) (by omega) hz hz1 hz2
      subst hh
      clear hz hz1 hz2
      obtain ⟨h, hh⟩ : ∃ h, (i + j) / 2 = h := ⟨_, rfl⟩
      rw [hh]
      obtain ⟨a, ha⟩ : ∃ a, l[h]? = some a := ⟨_, List.getElem?_eq_getElem (by omega)⟩
      conv => whnf
      refine ⟨by omega, [.int .i64 a], nums_at ha, ?_⟩
      conv => whnf
      refine rdw ?_; repeat' ((with_reducible apply tw) <;> intro _)
      refine (lessi_ok a x).mono ?_
      rintro _ _ ⟨rfl, rfl⟩
      conv => whnf
      refine rdw ?_; repeat' ((with_reducible apply tw) <;> intro _)
      · rename_i hn
        exact ⟨(h + 1, j), rfl, rfl, ⟨by show h + 1 ≤ j; omega, h2, fun m b hm hb => by
          rcases Nat.lt_or_ge m h with h5 | h5
          · have := hmono m h b a h5 hb ha; omega
          · have : m = h := by have : m < h + 1 := hm; omega
            subst this; rw [ha] at hb; cases hb; exact hn, h4⟩, by show j - (h + 1) < j - i; omega⟩
      · rename_i hn
        exact ⟨(i, h), rfl, rfl, ⟨by show i ≤ h; omega, by show h ≤ _; omega, h3, fun m b hm hb => by
          rcases Nat.lt_or_ge h m with h5 | h5
          · have := hmono h m a b h5 ha hb; omega
          · have : m = h := by have : h ≤ m := hm; omega
            subst this; rw [ha] at hb; cases hb; omega⟩, by show h - i < j - i; omega⟩
    · rename_i hij hlt
      obtain rfl : i = j := by omega
      have hI : ackI l x = i := ackI_eq h2 h3 h4
      rw [hI]
      obtain ⟨a, ha⟩ : ∃ a, l[i]? = some a := ⟨_, List.getElem?_eq_getElem (by omega)⟩
      have hmem : x ∈ l ↔ a = x := by
        constructor
        · intro hx
          obtain ⟨m, hm⟩ := List.getElem?_of_mem hx
          rcases Nat.lt_trichotomy m i with h5 | h5 | h5
          · have := h3 m x h5 hm; omega
          · subst h5; rw [ha] at hm; cases hm; rfl
          · have h6 := hmono i m a x h5 ha hm
            have h7 := h4 i a (Nat.le_refl _) ha
            omega
        · intro e; rw [← e]; exact List.mem_of_getElem? ha
      refine ⟨by omega, [.int .i64 a], nums_at ha, ?_⟩
      conv => whnf
      refine rdw ?_; repeat' ((with_reducible apply tw) <;> intro _)
      · rename_i he
        exact ⟨by rw [decide_eq_true (hmem.2 he)]; rfl, rfl⟩
      · rename_i he
        refine ⟨by omega, [.int .i64 a], nums_at ha, ?_⟩
        conv => whnf
        refine (isNaNs_ok a).mono ?_
        rintro _ _ ⟨rfl, rfl⟩
        conv => whnf
        exact ⟨by rw [decide_eq_false (fun h => he (hmem.1 h))]; rfl, rfl⟩
    · rename_i hij hlt
      obtain rfl : i = j := by omega
      have hI : ackI l x = i := ackI_eq h2 h3 h4
      rw [hI]
      have hmem : ¬ x ∈ l := by
        intro hx
        obtain ⟨m, hm⟩ := List.getElem?_of_mem hx
        rcases Nat.lt_or_ge m l.length with h5 | h5
        · have := h3 m x (by omega) hm; omega
        · rw [List.getElem?_eq_none h5] at hm; cases hm
      exact ⟨by rw [decide_eq_false hmem]; rfl, rfl⟩
theorem insI_cs (l : List Int) (c : Int) (i : Nat) : (nums l).take i ++ [DV.int .i64 c] :: (nums l).drop i = nums (l.take i ++ c :: l.drop i) := by simp [nums]
theorem insertI_row (l : List Int) (c : Int) (i : Nat) (hi : i ≤ l.length) (hl : l.length ≤ 4294967296) : ACalls Tryz.prog 123 [.arr 0, .d (.int .i64 i), .arr 1] [.row 3 1 (nums l) false, .row 3 1 [[.int .i64 c]] false] (fun av L => av = .arr 2 ∧ L = [.dead, .row 3 1 [[.int .i64 c]] false, .row 3 1 (nums (l.take i ++ c :: l.drop i)) false]) := by
  have hcl := nums_length l
  rcases Nat.lt_or_eq_of_le hi with h | h
  · have := insertInt_in (nums l) [.int .i64 c] i (by omega) (by omega)
    rw [insI_cs] at this
    exact this
  · subst h
    have := insertInt_end (nums l) (fun cs hcs => by obtain ⟨c, _, rfl⟩ := List.mem_map.1 hcs; rfl) [.int .i64 c] rfl (by omega)
    rw [hcl] at this
    rw [List.take_length, List.drop_length]
    simpa [nums] using this
theorem insertI_ok (l : List Int) (c : Int) (i : Nat) (hi : i ≤ l.length) (hl : l.length ≤ 4294967296) : ACalls Tryz.prog 123 [.arr 0, .d (.int .i64 i), .arr 1] [.row 3 1 (nums l) false, .row 3 1 [[.int .i64 c]] false] (fun av L => av = .d (.sl 1 (nums (l.take i ++ c :: l.drop i))) ∧ L = [.dead, .row 3 1 [[.int .i64 c]] false]) := by
  refine acalls_data (insertI_row l c i hi hl) ?_
  rintro _ _ ⟨rfl, rfl⟩
  conv => whnf
  exact ⟨rfl, rfl⟩
def votedP (p : Prim) (m : Msg) : Prim := if p.dig = 0 ∨ m.digest ≠ p.dig then p else certdP { p with acks := ackP p.acks m.src }
def votedO (p : Prim) (m : Msg) : List Msg := if p.dig = 0 ∨ m.digest ≠ p.dig then [] else if doneP { p with acks := ackP p.acks m.src } then tellO (clearP p) (certMsg (certP { p with acks := ackP p.acks m.src })) [] p.nodes.toNat else []
structure CertdOk (p : Prim) : Prop where
  cert : okCert p.dag.nodes (certP p)
  tiny : (certP p).tiny
  fine : Fine p.dag p.late
  room : p.dag.certs.length + p.late.length < 60000
  ris : risingC p.late
def plVoted4 : Plan := ⟨[[],[],[1],[1,2],[2,1,3],[3,1,2,4],[4,2,1,3,5],[],[],[8],[8,9],[9,8,10,7,5,3,1,2,4,6],[11,10,9,8,7,6,5,4,3,2,1,0],[0,1,2,3,4,5,6,7,8,9,10,11,12],[12,11,10,9,8,7,6,5,4,3,2,1,0,13],[13,0,1,2,3,4,5,6,7,8,9,10,11,12,14]],[0,1,2,3,4,5,7,8,9],[(6,[]),(10,[]),(11,[12,13,14]),(15,[])]⟩
def plVoted4b : Plan := ⟨[[],[],[1],[1,2],[2,1,3],[3,1,2,4],[4,2,1,3,5],[],[],[8],[8,9],[9,8,10,7,5,3,1,2,4,6],[11,10,9,8,7,6,5,4,3,2,1,0],[0,1,2,3,4,5,6,7,8,9,10,11,12],[12,11,10,9,8,7,6,5,4,3,2,1,0,13],[13,0,1,2,3,4,5,6,7,8,9,10,11,12,14]],[0,1,2,3,4,5,7,8,9],[(10,[]),(6,[]),(11,[12,13,14]),(15,[])]⟩
set_option maxHeartbeats 4000000 in
theorem voted_ok (p : Prim) (out : List Msg) (ho : out.length ≤ 100000) (hn : isN p.nodes = true) (m : Msg) (hr : risingI p.acks) (hal : p.acks.length ≤ 65536)
    (hd : ¬ (p.dig = 0 ∨ m.digest ≠ p.dig) → doneP { p with acks := ackP p.acks m.src } = true → CertdOk { p with acks := ackP p.acks m.src }) :
    ACalls Tryz.prog 82 [.ptr 0 0, m.av] (p.st out) (fun av L => av = .tup [] ∧ ∃ j, L = (votedP p m).sj j (out ++ votedO p m)) := by
  refine acalls_go ttOk zOk foOk Tryz.func82 rfl Tryz.ntmps82 rfl false rfl ?_
  conv => whnf
  refine rdw ?_; repeat' ((with_reducible apply tw) <;> intro _)
  ((with_reducible refine draw_pl ttOk zOk foOk mixedOk pl82x1 ?_ ?_); (focus kernel_rfl); (conv => whnf))
  refine rdw ?_; repeat' ((with_reducible apply tw) <;> intro _)
  all_goals first
    | (have hno : p.dig = 0 ∨ m.digest ≠ p.dig := by first | exact .inl ‹_› | exact .inr ‹_›
       refine ⟨rfl, false, ?_⟩
       rw [votedP, if_pos hno, votedO, if_pos hno, List.append_nil]
       rfl)
    | skip
  all_goals
    have hyes : ¬ (p.dig = 0 ∨ m.digest ≠ p.dig) := fun h => h.elim (fun h => absurd h ‹p.dig ≠ 0›) (fun h => absurd ‹m.digest = p.dig› h)
    have hcd := hd hyes
    rw [votedP, if_neg hyes, votedO, if_neg hyes]
    ((with_reducible refine draw_pl ttOk zOk foOk mixedOk pl82x2 ?_ ?_); (focus kernel_rfl); (conv => whnf))
    refine rdw ?_; repeat' ((with_reducible apply tw) <;> intro _)
    refine (bsearchI_pos p.acks (by unfold few; omega) hr m.src).mono ?_
    rintro _ _ ⟨rfl, rfl⟩
    by_cases hin : m.src ∈ p.acks
    · rw [decide_eq_true hin]
      have e : ({ p with acks := ackP p.acks m.src } : Prim) = p := by rw [ackP, if_pos hin]
      rw [e] at hcd ⊢
      have hc := certified_ok p out ho hn (fun h => ⟨(hcd h).cert, (hcd h).tiny, (hcd h).fine, (hcd h).room, (hcd h).ris⟩)
      conv => whnf
      refine rdw ?_; repeat' ((with_reducible apply tw) <;> intro _)
      refine hc.mono ?_
      rintro _ _ ⟨rfl, j, rfl⟩
      cases j
      all_goals
        conv => whnf
        refine rdw ?_; repeat' ((with_reducible apply tw) <;> intro _)
        first
          | exact ⟨rfl, false, rfl⟩
          | exact ⟨rfl, true, rfl⟩
    · rw [decide_eq_false hin]
      have e : ackP p.acks m.src = p.acks.take (ackI p.acks m.src) ++ m.src :: p.acks.drop (ackI p.acks m.src) := by rw [ackP, if_neg hin]
      have hc := certified_ok { p with acks := ackP p.acks m.src } out ho hn (fun h => ⟨(hcd h).cert, (hcd h).tiny, (hcd h).fine, (hcd h).room, (hcd h).ris⟩)
      have hinsert := insertI_ok p.acks m.src (ackI p.acks m.src) (ackI_le ..) (by omega)
      rw [← e] at hinsert
      conv => whnf
      refine rdw ?_; repeat' ((with_reducible apply tw) <;> intro _)
      (with_reducible refine draw_pl2 ttOk zOk foOk mixedOk plVoted4 plVoted4b ?_ ?_)
      focus kernel_rfl
      conv => whnf
      refine rdw ?_; repeat' ((with_reducible apply tw) <;> intro _)
      constructor
      all_goals
        conv => whnf
        refine rdw ?_; repeat' ((with_reducible apply tw) <;> intro _)
        refine (clone_ok p.acks (by omega)).mono ?_
        rintro _ _ ⟨rfl, rfl⟩
        conv => whnf
        refine rdw ?_; repeat' ((with_reducible apply tw) <;> intro _)
        (refine Or.inr ?_; (conv => whnf))
        refine hinsert.mono ?_
        rintro _ _ ⟨rfl, rfl⟩
        conv => whnf
        refine rdw ?_; repeat' ((with_reducible apply tw) <;> intro _)
        refine hc.mono ?_
        rintro _ _ ⟨rfl, j, rfl⟩
        cases j
        all_goals
          conv => whnf
          refine rdw ?_; repeat' ((with_reducible apply tw) <;> intro _)
          first
            | exact ⟨rfl, false, rfl⟩
            | exact ⟨rfl, true, rfl⟩
def wantedL (d : Dag) (l : List Int) : List Cert := l.flatMap fun x => ((getC d.certs x).bind fun i => d.certs[i]?).toList
def wantedO (p : Prim) (m : Msg) (k : Nat) : List Msg := (wantedL p.dag (m.digs.take k)).map fun c => (certMsg c).told p m.src
theorem wantedO_succ (p : Prim) (m : Msg) {k : Nat} {x : Int} (hx : m.digs[k]? = some x) : wantedO p m (k + 1) = wantedO p m k ++ (((getC p.dag.certs x).bind fun i => p.dag.certs[i]?).toList.map fun c => (certMsg c).told p m.src) := by
  unfold wantedO wantedL
  rw [List.take_add_one, hx]
  simp [List.flatMap_append]
theorem wantedO_len (p : Prim) (m : Msg) : ∀ k, (wantedO p m k).length ≤ k
  | 0 => by simp [wantedO, wantedL]
  | k + 1 => by
    have ih := wantedO_len p m k
    cases hx : m.digs[k]? with
    | none =>
      have : m.digs.length ≤ k := by simpa using hx
      unfold wantedO at ih ⊢
      rw [List.take_of_length_le (by omega)] at ih ⊢
      omega
    | some x =>
      rw [wantedO_succ p m hx, List.length_append, List.length_map]
      have : ((getC p.dag.certs x).bind fun i => p.dag.certs[i]?).toList.length ≤ 1 := by cases ((getC p.dag.certs x).bind fun i => p.dag.certs[i]?) <;> simp
      omega
def wdSt (p : Prim) (out : List Msg) (m : Msg) (j : Bool) (k : Nat) : AF × List AB := ([(0, .ptr 0 0), (3, .ptr 2 0), (8, .d (.sl 1 (nums m.digs))), (9, .d (.int .i64 m.digs.length)), (10, .d (.int .i64 k))], teB p (out ++ wantedO p m k) m j)
set_option maxHeartbeats 4000000 in
theorem wanted_ok (p : Prim) (hv : Valid p.dag) (out : List Msg) (ho : out.length ≤ 100000) (m : Msg) (hl : m.digs.length ≤ 100000) : ACalls Tryz.prog 84 [.ptr 0 0, m.av] (p.st out) (fun av L => av = .tup [] ∧ ∃ j, L = p.sj j (out ++ wantedO p m m.digs.length)) := by
  have hll := nums_length m.digs
  have hdl := hv.len
  refine acalls_go ttOk zOk foOk Tryz.func84 rfl Tryz.ntmps84 rfl false rfl ?_
  conv => whnf
  refine rdw ?_; repeat' ((with_reducible apply tw) <;> intro _)
  refine loop_go2 ttOk zOk foOk (σ := Bool) (ρ := Nat) (wdSt p out m) (fun j k => k ≤ m.digs.length) (fun j k => m.digs.length - k) [0, 3, 8, 9, 10] ?_ ?_
  · conv => whnf
    exact ⟨false, 0, by rw [hll]; rfl, by simp only [wdSt, wantedO, wantedL, List.take_zero, List.flatMap_nil, List.map_nil, List.append_nil]; rfl, Nat.zero_le _⟩
  · rintro j k hk
    have hwl := wantedO_len p m k
    cases j
    all_goals
      conv => whnf
      refine rdw ?_; repeat' ((with_reducible apply tw) <;> intro _)
      · rename_i hkl
        replace hkl : (k : Int) < m.digs.length := hkl
        refine Exists.elim (⟨_, List.getElem?_eq_getElem (by omega)⟩ : ∃ x, m.digs[k]? = some x) fun x hx => ?_
        have hsn := wantedO_succ p m hx
        refine ⟨by omega, [.int .i64 x], nums_at hx, ?_⟩
        conv => whnf
        refine rdw ?_; repeat' ((with_reducible apply tw) <;> intro _)
        refine (get_ok p.dag (by unfold few; omega) x).mono ?_
        rintro _ _ ⟨rfl, rfl⟩
        unfold getI
        cases hg : getC p.dag.certs x with
        | none =>
          rw [hg] at hsn
          replace hsn : wantedO p m (k + 1) = wantedO p m k := hsn.trans (List.append_nil _)
          conv => whnf
          refine rdw ?_; repeat' ((with_reducible apply tw) <;> intro _)
          first
            | exact ⟨false, k + 1, rfl, by simp only [wdSt]; rw [hsn]; rfl, by omega, by omega⟩
            | exact ⟨true, k + 1, rfl, by simp only [wdSt]; rw [hsn]; rfl, by omega, by omega⟩
        | some i =>
          have hi : i < p.dag.certs.length := by
            rw [getC, List.findIdx?_eq_some_iff_getElem] at hg
            exact hg.1
          refine Exists.elim (⟨_, List.getElem?_eq_getElem hi⟩ : ∃ c, p.dag.certs[i]? = some c) fun c hc => ?_
          rw [hg] at hsn
          replace hsn : wantedO p m (k + 1) = wantedO p m k ++ [(certMsg c).told p m.src] := by rw [hsn, show (some i).bind (fun i => p.dag.certs[i]?) = some c from hc]; rfl
          have hct := certTiny_of hv.nodes (hv.certs c (List.mem_of_getElem? hc))
          have hsay := say_ok p (out ++ wantedO p m k) (by rw [List.length_append]; omega) m.src (certMsg c) cz0_tiny hct
          rw [List.append_assoc, ← hsn] at hsay
          conv => whnf
          refine rdw ?_; repeat' ((with_reducible apply tw) <;> intro _)
          ((with_reducible refine draw_pl ttOk zOk foOk mixedOk pl84x6 ?_ ?_); (focus kernel_rfl); (conv => whnf))
          refine rdw ?_; repeat' ((with_reducible apply tw) <;> intro _)
          ((with_reducible apply rd_intro); (focus (intro K hK; (conv => whnf); exact ix_map hc (by first | rfl | omega) hK)); (conv => whnf))
          refine rdw ?_; repeat' ((with_reducible apply tw) <;> intro _)
          refine (acalls_nw hsay (.cons (.refl _) (.cons (.refl _) (.cons (.agg ?_) .nil)))).mono ?_
          · repeat (first | exact .nil | refine .cons (.refl _) ?_ | refine .cons (.nils _ (by decide)) ?_)
          · rintro _ _ ⟨rfl, rfl⟩
            conv => whnf
            refine rdw ?_; repeat' ((with_reducible apply tw) <;> intro _)
            exact ⟨true, k + 1, rfl, rfl, by omega, by omega⟩
      · rename_i hkl
        replace hkl : ¬ (k : Int) < m.digs.length := hkl
        obtain rfl : k = m.digs.length := by omega
        first
          | exact ⟨rfl, false, rfl⟩
          | exact ⟨rfl, true, rfl⟩
end Go.Proofs.YtdlfmgcmfoehdaaGreat
