/- PrimaryGoes: for every argument the law returns true, and its argument reads behind the call as it read before. No condition of ours. -/
import Derived.Test.YtdlfmgcmfoehdaaGreatPrimaryGoesCodO
import Derived.Test.YtdlfmgcmfoehdaaGreatRows
set_option linter.unusedVariables false
set_option linter.unusedSimpArgs false
namespace Go.Proofs.YtdlfmgcmfoehdaaGreat
open Go.Ab Go.RowKit Go.MapKept
attribute [local irreducible] ACalls AW ADraw Into fltB fnear
set_option maxRecDepth 100000
structure Fate where
  act : Int
  node : Int
  k : Int
def Fate.cs (f : Fate) : List DV := [.int .i64 f.act, .int .i64 f.node, .int .i64 f.k]
def fatesD (l : List Fate) : List (List DV) := l.map Fate.cs
def i64B (x : Int) : Prop := -9223372036854775808 ≤ x ∧ x < 9223372036854775808
end Go.Proofs.YtdlfmgcmfoehdaaGreat
namespace Go.Proofs.YtdlfmgcmfoehdaaGreat
open Go.Ab Go.RowKit
theorem askV_i64 {n : Int} (h2 : (Lit.int .i64 n).wf = true) : i64B n := by
  have hb : -9223372036854775808 ≤ n ∧ n ≤ 9223372036854775807 := by simpa [Lit.wf, IntKind.min, IntKind.max, IntKind.signed, IntKind.bits] using h2
  exact ⟨hb.1, by omega⟩
theorem askV_fates {a : List DV} (h : DTy tt 3 66 a) : ∃ l : List Fate, a = [.sl 3 (fatesD l)] ∧ ∀ f ∈ l, i64B f.act ∧ i64B f.node ∧ i64B f.k := by
  replace h : ∃ xs, a = [.sl 3 xs] ∧ xs.length * 24 ≤ 140737488355328 ∧ ∀ x ∈ xs, DTy tt 2 77 x := h
  obtain ⟨x3, rfl, -, e3⟩ := h
  obtain ⟨l, rfl, hl⟩ := map_of (f := Fate.cs) (ok := fun f : Fate => i64B f.act ∧ i64B f.node ∧ i64B f.k) (xs := x3) fun x hx => by
    have h := e3 x hx
    replace h : DTyF (DTy tt 1) [3, 3, 3] x := h
    obtain ⟨a1, b1, rfl, h1, a2, b2, rfl, h2, a3, b3, rfl, h3, rfl⟩ := h
    replace h1 : ∃ x, a1 = [.int .i64 x] ∧ (Lit.int .i64 x).wf = true := h1
    replace h2 : ∃ x, a2 = [.int .i64 x] ∧ (Lit.int .i64 x).wf = true := h2
    replace h3 : ∃ x, a3 = [.int .i64 x] ∧ (Lit.int .i64 x).wf = true := h3
    obtain ⟨x1, rfl, w1⟩ := h1
    obtain ⟨x2, rfl, w2⟩ := h2
    obtain ⟨x3, rfl, w3⟩ := h3
    exact ⟨⟨x1, x2, x3⟩, rfl, askV_i64 w1, askV_i64 w2, askV_i64 w3⟩
  exact ⟨l, rfl, hl⟩
theorem askV_of {ds : List DV} (h : DTy tt 4 68 ds) : ∃ (x : Int) (l : List Fate), ds = [.int .i64 x, .sl 3 (fatesD l)] ∧ i64B x ∧ ∀ f ∈ l, i64B f.act ∧ i64B f.node ∧ i64B f.k := by
  replace h : DTyF (DTy tt 3) [3, 66] ds := h
  obtain ⟨a1, b1, rfl, h1, a2, b2, rfl, h2, rfl⟩ := h
  replace h1 : ∃ x, a1 = [.int .i64 x] ∧ (Lit.int .i64 x).wf = true := h1
  obtain ⟨x1, rfl, w1⟩ := h1
  obtain ⟨l, rfl, hl⟩ := askV_fates h2
  exact ⟨x1, l, rfl, askV_i64 w1, hl⟩
end Go.Proofs.YtdlfmgcmfoehdaaGreat
namespace Go.Proofs.YtdlfmgcmfoehdaaGreat
open Go.Ab Go.RowKit Go.MapKept
attribute [local irreducible] ACalls AW ADraw Into fltB fnear
set_option maxRecDepth 100000
def insE (x : Int) : List Int → List Int
  | [] => [x]
  | y :: t => if x ≤ y then x :: y :: t else y :: insE x t
def sortE (l : List Int) : List Int := l.foldr insE []
theorem insE_perm (x : Int) : ∀ l, (insE x l).Perm (x :: l)
  | [] => .refl _
  | y :: t => by
    unfold insE
    split
    · exact .refl _
    · exact ((insE_perm x t).cons y).trans (.swap ..)
theorem insE_sorted (x : Int) : ∀ {l : List Int}, l.Pairwise (· ≤ ·) → (insE x l).Pairwise (· ≤ ·)
  | [], _ => List.pairwise_singleton ..
  | y :: t, h => by
    obtain ⟨h1, h2⟩ := List.pairwise_cons.1 h
    unfold insE
    split
    · refine List.pairwise_cons.2 ⟨fun z hz => ?_, h⟩
      rcases List.mem_cons.1 hz with rfl | hz
      · assumption
      · have := h1 z hz
        omega
    · refine List.pairwise_cons.2 ⟨fun z hz => ?_, insE_sorted x h2⟩
      rcases List.mem_cons.1 ((insE_perm x t).mem_iff.1 hz) with rfl | hz
      · omega
      · exact h1 z hz
theorem sortE_perm : ∀ l, (sortE l).Perm l
  | [] => .refl _
  | x :: t => (insE_perm x _).trans ((sortE_perm t).cons x)
theorem sortE_sorted : ∀ l, (sortE l).Pairwise (· ≤ ·)
  | [] => .nil
  | x :: t => insE_sorted x (sortE_sorted t)
theorem sortI_sortE (l : List Int) : sortI l = sortE l := by
  have h1 : (sortI l).Pairwise (· ≤ ·) := by
    have := List.pairwise_mergeSort (le := fun x y : Int => decide (x ≤ y)) (fun a b c h1 h2 => by simp at *; omega) (fun a b => by simp; omega) l
    exact this.imp fun h => of_decide_eq_true h
  exact (((List.mergeSort_perm l _).trans (sortE_perm l).symm)).eq_of_pairwise (fun x y _ _ h1 h2 => by omega) h1 (sortE_sorted l)
def headE (p : Prim) : Cert := ⟨p.id, p.round, [], sortE (parsF p), 0, []⟩
theorem headC_E (p : Prim) : headC p [] = headE p := by
  unfold headC headE
  rw [sortI_sortE, sortI_sortE]
  rfl
def proE (N : Net) (k : Nat) (p : Prim) : Net := ⟨N.ps.set k (sayP p (headE p) ((N.book.length : Int) + 1)), N.way ++ sayO p (headE p) ((N.book.length : Int) + 1), N.book ++ [headE p]⟩
theorem propN_E (N : Net) (k : Nat) (p : Prim) : propN N k p = proE N k p := by
  unfold propN proE
  rw [headC_E]
def propE (N : Net) (k : Nat) : Net := match N.ps[k]? with
  | some p => if readyB p then proE N k p else N
  | none => N
def tickE (N : Net) (k : Nat) : Net := match N.ps[k]? with
  | some p => propE ⟨N.ps.set k (beatP p), N.way ++ beatS (beatP p), N.book⟩ k
  | none => N
def takeE (N : Net) (m : Msg) : Net := match N.ps[(m.dst - 1).toNat]? with
  | some p => propE ⟨N.ps.set (m.dst - 1).toNat (gotP p m []), N.way ++ gotO p m [], N.book⟩ (m.dst - 1).toNat
  | none => N
def newsE (m : Nat) : Net := ⟨newsP m m, [], []⟩
def propsE (m k : Nat) : Net := (List.range k).foldl propE (newsE m)
def ticksE (N : Net) (k : Nat) : Net := (List.range k).foldl tickE N
def quiet (N : Net) : Net := ⟨N.ps, [], N.book⟩
def takesE (N : Net) (k : Nat) : Net := (N.way.take k).foldl takeE (quiet N)
def roundE (m : Nat) (N : Net) : Net := let N1 := ticksE N m; N1.way.foldl takeE (quiet N1)
theorem propsE_succ (m k : Nat) : propsE m (k + 1) = propE (propsE m k) k := by simp [propsE, List.range_succ]
theorem ticksE_succ (N : Net) (k : Nat) : ticksE N (k + 1) = tickE (ticksE N k) k := by simp [ticksE, List.range_succ]
theorem takesE_succ {N : Net} {k : Nat} {m : Msg} (h : N.way[k]? = some m) : takesE N (k + 1) = takeE (takesE N k) m := by simp [takesE, List.take_add_one, h]
theorem takesE_all (N : Net) {k : Nat} (h : N.way.length ≤ k) : takesE N k = N.way.foldl takeE (quiet N) := by
  unfold takesE
  rw [List.take_of_length_le h]
def Net.pre (a : List Msg) (N : Net) : Net := ⟨N.ps, a ++ N.way, N.book⟩
theorem propE_pre (a : List Msg) (N : Net) (k : Nat) : propE (N.pre a) k = (propE N k).pre a := by
  unfold propE Net.pre
  simp only
  split
  · split
    · unfold proE
      simp only [List.append_assoc]
    · rfl
  · rfl
structure Near (N N' : Net) (w : Nat) : Prop where
  ps : N'.ps.length = N.ps.length
  book : N'.book.length ≤ N.book.length + 1
  way : N'.way.length ≤ N.way.length + w
theorem propE_inv {n : Int} {N : Net} (hI : Inv n N) (hb : N.book.length ≤ 20000) (k : Nat) : Inv n (propE N k) ∧ Near N (propE N k) 32 := by
  unfold propE
  split
  · rename_i p hp
    split
    · rename_i hr
      have hi := inv_prop hI hb hp hr
      have hs := sayO_len (hI.ps k p hp).good.may.isn (headE p) ((N.book.length : Int) + 1)
      rw [propN_E] at hi
      refine ⟨hi, List.length_set, ?_, ?_⟩
      · show (N.book ++ [headE p]).length ≤ _
        rw [List.length_append, List.length_singleton]
        exact Nat.le_refl _
      · show (N.way ++ sayO p (headE p) ((N.book.length : Int) + 1)).length ≤ _
        rw [List.length_append]
        omega
    · exact ⟨hI, rfl, Nat.le_succ _, Nat.le_add_right _ _⟩
  · exact ⟨hI, rfl, Nat.le_succ _, Nat.le_add_right _ _⟩
theorem tickE_inv {n : Int} {N : Net} (hI : Inv n N) (hb : N.book.length ≤ 20000) (k : Nat) : Inv n (tickE N k) ∧ Near N (tickE N k) 128 := by
  unfold tickE
  split
  · rename_i p hp
    have h1 := inv_tick hI hp
    have h2 := beatS_len (q := beatP p) (hI.ps k p hp).good.may.isn
    obtain ⟨h3, h4, h5, h6⟩ := propE_inv h1 hb k
    refine ⟨h3, by rw [h4]; exact List.length_set, h5, ?_⟩
    simp only [List.length_append] at h6
    omega
  · exact ⟨hI, rfl, Nat.le_succ _, Nat.le_add_right _ _⟩
theorem takeE_inv {n : Int} {N : Net} {now : List Msg} (hI : Inv n (N.pre now)) (hb : N.book.length ≤ 20000) {m : Msg} (hm : m ∈ now) : Inv n ((takeE N m).pre now) ∧ Near N (takeE N m) 128 := by
  unfold takeE
  split
  · rename_i p hp
    have hgm := hI.way m (List.mem_append_left _ hm)
    have hdst := hgm.ok.dst
    have hid := (hI.ps _ p hp).id
    have hg := (hI.ps _ p hp).good
    have h1 := inv_take hI hb hp hgm (by omega) (way := now ++ N.way) (fun _ h => h)
    have h2 := gotO_len (p := p) (m := m) hg.may.isn (by rw [hg.nodes]; exact hgm.ok)
    obtain ⟨h3, h4, h5, h6⟩ := propE_inv h1 hb (m.dst - 1).toNat
    have e : (⟨(N.pre now).ps.set (m.dst - 1).toNat (gotP p m []), now ++ N.way ++ gotO p m [], (N.pre now).book⟩ : Net) = Net.pre now ⟨N.ps.set (m.dst - 1).toNat (gotP p m []), N.way ++ gotO p m [], N.book⟩ := by
      unfold Net.pre
      simp only [List.append_assoc]
    rw [e, propE_pre] at h3 h4 h5 h6
    refine ⟨h3, by exact h4.trans List.length_set, h5, ?_⟩
    simp only [Net.pre, List.length_append] at h6
    omega
  · exact ⟨hI, rfl, Nat.le_succ _, Nat.le_add_right _ _⟩
def certT (c : Cert) : Int × Int × List Int × List Int × Int × List Int := (c.author, c.round, c.bats, c.pars, c.digest, c.sigs)
theorem certT_inj {a b : Cert} (h : certT a = certT b) : a = b := by
  cases a
  cases b
  simp only [certT, Prod.mk.injEq] at h
  simp only [Cert.mk.injEq]
  exact h
def sameB (a b : List Cert) : Bool := decide (a.map certT = b.map certT)
theorem sameB_eq {a b : List Cert} (h : sameB a b = true) : a = b := List.map_inj_right (fun _ _ h => certT_inj h) |>.1 (of_decide_eq_true h)
def firstR (N : Net) (r : Int) : List Cert := match N.ps[0]? with
  | some p => ofR p.dag.certs r
  | none => []
def endE (N : Net) : Bool := N.ps.all fun p => decide (4 ≤ p.round) && (sameB (ofR p.dag.certs 1) (firstR N 1) && sameB (ofR p.dag.certs 2) (firstR N 2))
def okE (m : Nat) (N : Net) : Bool := decide (N.way.length ≤ 100) && (decide (N.book.length ≤ 100) && decide ((ticksE N m).way.length ≤ 100))
def checkE (m : Nat) : Nat → Net → Bool
  | 0, N => endE N
  | t + 1, N => okE m N && checkE m t (roundE m N)
theorem check1 : checkE 1 12 (propsE 1 1) = true := by decide +kernel
theorem check4 : checkE 4 12 (propsE 4 4) = true := by decide +kernel
theorem check7 : checkE 7 12 (propsE 7 7) = true := by decide +kernel
theorem check_all {m : Nat} (h : m = 1 ∨ m = 4 ∨ m = 7) : checkE m 12 (propsE m m) = true := by
  rcases h with rfl | rfl | rfl
  · exact check1
  · exact check4
  · exact check7
theorem end_of {N : Net} (h : endE N = true) {i : Nat} {p : Prim} (hp : N.ps[i]? = some p) : 4 ≤ p.round ∧ ofR p.dag.certs 1 = firstR N 1 ∧ ofR p.dag.certs 2 = firstR N 2 := by
  have := List.all_eq_true.1 h p (List.mem_of_getElem? hp)
  simp only [Bool.and_eq_true, decide_eq_true_iff] at this
  exact ⟨this.1, sameB_eq this.2.1, sameB_eq this.2.2⟩
theorem ok_of {m : Nat} {N : Net} (h : okE m N = true) : N.way.length ≤ 100 ∧ N.book.length ≤ 100 ∧ (ticksE N m).way.length ≤ 100 := by
  simp only [okE, Bool.and_eq_true, decide_eq_true_iff] at h
  exact h
theorem check_succ {m t : Nat} {N : Net} (h : checkE m (t + 1) N = true) : okE m N = true ∧ checkE m t (roundE m N) = true := by
  simpa only [checkE, Bool.and_eq_true] using h
theorem props_inv {m : Nat} {n : Int} (hn : isN n = true) (hm : n = (m : Int)) : ∀ k, k ≤ 16 → Inv n (propsE m k) ∧ (propsE m k).book.length ≤ k ∧ (propsE m k).way.length ≤ 32 * k
  | 0, _ => by
    refine ⟨?_, Nat.le_refl _, Nat.le_refl _⟩
    subst hm
    exact inv_new hn
  | k + 1, h => by
    obtain ⟨h1, h2, h3⟩ := props_inv hn hm k (by omega)
    obtain ⟨h4, h5, h6, h7⟩ := propE_inv h1 (by omega) k
    rw [propsE_succ]
    exact ⟨h4, by omega, by omega⟩
theorem ticks_inv {n : Int} {N : Net} (hI : Inv n N) (hb : N.book.length ≤ 100) (hw : N.way.length ≤ 100) : ∀ k, k ≤ 16 → Inv n (ticksE N k) ∧ (ticksE N k).ps.length = N.ps.length ∧ (ticksE N k).book.length ≤ 100 + k ∧ (ticksE N k).way.length ≤ 100 + 128 * k
  | 0, _ => ⟨hI, rfl, hb, hw⟩
  | k + 1, h => by
    obtain ⟨h1, h0, h2, h3⟩ := ticks_inv hI hb hw k (by omega)
    obtain ⟨h4, h5, h6, h7⟩ := tickE_inv h1 (by omega) k
    rw [ticksE_succ]
    exact ⟨h4, by omega, by omega, by omega⟩
theorem takes_inv {n : Int} {N : Net} (hI : Inv n N) (hb : N.book.length ≤ 116) (hw : N.way.length ≤ 100) : ∀ k, k ≤ N.way.length → Inv n ((takesE N k).pre N.way) ∧ (takesE N k).ps.length = N.ps.length ∧ (takesE N k).book.length ≤ 116 + k ∧ (takesE N k).way.length ≤ 128 * k
  | 0, _ => by
    refine ⟨?_, rfl, hb, Nat.le_refl _⟩
    show Inv n ⟨N.ps, N.way ++ [], N.book⟩
    rw [List.append_nil]
    exact hI
  | k + 1, h => by
    obtain ⟨h1, h0, h2, h3⟩ := takes_inv hI hb hw k (by omega)
    obtain ⟨m, hm⟩ : ∃ m, N.way[k]? = some m := ⟨_, List.getElem?_eq_getElem (by omega)⟩
    obtain ⟨h4, h5, h6, h7⟩ := takeE_inv h1 (by omega) (List.mem_of_getElem? hm)
    rw [takesE_succ hm]
    exact ⟨h4, by omega, by omega, by omega⟩
theorem inv_unpre {n : Int} {N : Net} {a : List Msg} (h : Inv n (N.pre a)) : Inv n N := ⟨h.isn, h.len, h.ps, fun m hm => h.way m (List.mem_append_right _ hm), h.book⟩
theorem round_of {m : Nat} (N : Net) : roundE m N = takesE (ticksE N m) (ticksE N m).way.length := (takesE_all _ (Nat.le_refl _)).symm
theorem prop_net2 {n : Int} {N : Net} {k : Nat} {x : Prim} {way out : List Msg} (hI : Inv n ⟨N.ps.set k x, way ++ out, N.book⟩) (hb : N.book.length ≤ 20000) (hw : (way ++ out).length ≤ 100000) (hk : k < N.ps.length) :
    ACalls Tryz.prog 23 [.ptr 0 0, .d (.int .i64 k)] [.cells [.arr 1, .arr 2, .arr 3], .row 30 16 ((primsD N.ps).set k x.cs) false, .row 49 18 (msgsD way ++ msgsD out) false, .row 24 4 (headsD N.book) false]
      (fun av L => av = .d (.bool true) ∧ ∃ N' : Net, N' = propE ⟨N.ps.set k x, way ++ out, N.book⟩ k ∧ (L = N'.L ∨ L = N'.L1)) := by
  have hkx : (N.ps.set k x)[k]? = some x := List.getElem?_set_self hk
  have h := proposes_ok hI hb hw hkx
  rw [← primsD_set, ← msgsD_app]
  refine h.mono ?_
  rintro av L ⟨rfl, ⟨hr, rfl⟩ | ⟨hr, rfl⟩⟩
  · refine ⟨rfl, _, rfl, .inl ?_⟩
    unfold propE
    simp only [hkx, hr]
    rfl
  · refine ⟨rfl, _, rfl, .inr ?_⟩
    unfold propE
    simp only [hkx, hr, if_true, propN_E]
def gSt (n : Int) (s : Nat) (N : Net) (i : Int) : AF × List AB := ([(3, .d (.int .i64 n)), (4, .ptr 0 0), (s, .d (.int .i64 i))], N.L)
def g2St (n : Int) (t : Nat) (s : Nat) (N : Net) (i : Int) : AF × List AB := ([(3, .d (.int .i64 n)), (4, .ptr 0 0), (9, .d (.int .i64 t)), (s, .d (.int .i64 i))], N.L)
def tSt (n : Int) (t : Nat) (N : Net) (k : Nat) : AF × List AB := ([(3, .d (.int .i64 n)), (4, .ptr 0 0), (9, .d (.int .i64 t)), (14, .arr 1), (15, .d (.int .i64 k))], [.cells [.arr 2, .arr 3, .arr 4], .row 49 18 (msgsD N.way) false, .row 30 16 (primsD (takesE N k).ps) false, .row 49 18 (msgsD (takesE N k).way) false, .row 24 4 (headsD (takesE N k).book) false])
def fSt (n : Int) (N : Net) (i : Nat) : AF × List AB := ([(3, .d (.int .i64 n)), (4, .ptr 0 0), (20, .d (.int .i64 i))], N.L)
def fkSt (n : Int) (N : Net) (i k : Nat) : AF × List AB := ([(3, .d (.int .i64 n)), (4, .ptr 0 0), (20, .d (.int .i64 i)), (21, .d (.int .i64 k))], N.L)
def frSt (n : Int) (N : Net) (i k j : Nat) : AF × List AB := ([(3, .d (.int .i64 n)), (4, .ptr 0 0), (20, .d (.int .i64 i)), (21, .d (.int .i64 k)), (22, .d (.int .i64 ((j : Int) + 1)))], N.L)
set_option maxHeartbeats 16000000 in
open Classical in
theorem primaryGoes_ok (x : Int) (hx : -9223372036854775808 ≤ x ∧ x < 9223372036854775808) (l : List (List DV)) :
    ACalls Tryz.prog 6 [.agg [.d (.int .i64 x), .d (.sl 3 l)]] [] (fun av L => av = .d (.bool true) ∧ L = []) := by
  have w1 := within_ok x 3 (by decide) (by decide) hx
  refine acalls_go ttOk zOk foOk Tryz.func6 rfl Tryz.ntmps6 rfl false rfl ?_
  conv => whnf
  refine rdw ?_; repeat' ((with_reducible apply tw) <;> intro _)
  (refine (w1).mono ?_; rintro _ _ ⟨rfl, rfl⟩; (conv => whnf))
  obtain ⟨i, hi⟩ : ∃ i : Nat, x % 18446744073709551616 % 3 = (i : Int) := ⟨(x % 18446744073709551616 % 3).toNat, by omega⟩
  have hi3 : i < 3 := by omega
  rw [hi]
  obtain ⟨n, m, hn, hnm, hm, hin⟩ : ∃ (n : Int) (m : Nat), ([[DV.int .i64 1], [DV.int .i64 4], [DV.int .i64 7]] : List (List DV))[(i : Int).toNat]? = some [.int .i64 n] ∧ n = (m : Int) ∧ (m = 1 ∨ m = 4 ∨ m = 7) ∧ isN n = true := by
    rw [Int.toNat_natCast]
    rcases (show i = 0 ∨ i = 1 ∨ i = 2 by omega) with h | h | h
    · subst h
      exact ⟨1, 1, rfl, rfl, .inl rfl, by decide⟩
    · subst h
      exact ⟨4, 4, rfl, rfl, .inr (.inl rfl), by decide⟩
    · subst h
      exact ⟨7, 7, rfl, rfl, .inr (.inr rfl), by decide⟩
  have hck := check_all hm
  have hmm : m ≤ 7 := by omega
  refine rdw ?_; repeat' ((with_reducible apply tw) <;> intro _)
  refine ⟨by omega, by show (i : Int).toNat < 3; omega, ?_⟩
  conv => whnf
  refine rdw ?_; repeat' ((with_reducible apply tw) <;> intro _)
  refine ⟨[.int .i64 n], hn, ?_⟩
  conv => whnf
  refine rdw ?_; repeat' ((with_reducible apply tw) <;> intro _)
  refine loop_go ttOk zOk foOk (σ := Nat) (fun i => gSt n 5 ⟨newsP n i, [], []⟩ ((i : Int) + 1)) (fun i => i ≤ m) (fun i => m - i) [3, 4, 5] ?_ ?_
  · conv => whnf
    exact ⟨0, rfl, rfl, Nat.zero_le _⟩
  · intro i him
    have hpl := primsD_length (newsP n i)
    have hnl := newsP_len n i
    conv => whnf
    refine rdw ?_; repeat' ((with_reducible apply tw) <;> intro _)
    · rename_i hle
      replace hle : (i : Int) + 1 ≤ n := hle
      have hnew := new_ok ((i : Int) + 1) n hin ⟨by omega, hle⟩
      (refine (hnew).mono ?_; rintro _ _ ⟨rfl, rfl⟩; (conv => whnf))
      refine rdw ?_; repeat' ((with_reducible apply tw) <;> intro _)
      (refine (num20_ok 0).mono ?_; rintro _ _ ⟨rfl, rfl⟩; (conv => whnf))
      refine rdw ?_; repeat' ((with_reducible apply tw) <;> intro _)
      ((with_reducible refine draw_pl ttOk zOk foOk mixedOk pl6x9 ?_ ?_); (focus kernel_rfl); (conv => whnf))
      refine rdw ?_; repeat' ((with_reducible apply tw) <;> intro _)
      refine ⟨by show ((primsD (newsP n i)).length + 1) * 224 ≤ _; omega, ?_⟩
      conv => whnf
      refine rdw ?_; repeat' ((with_reducible apply tw) <;> intro _)
      exact ⟨i + 1, rfl, by unfold gSt Net.L; rw [newsP_succ]; unfold primsD; rw [List.map_append]; rfl, (show i + 1 ≤ m by omega), (show m - (i + 1) < m - i by omega)⟩
    · rename_i hle
      replace hle : ¬ (i : Int) + 1 ≤ n := hle
      have hie : i = m := by omega
      refine loop_go ttOk zOk foOk (σ := Nat) (fun i => gSt n 8 (propsE m i) i) (fun i => i ≤ m) (fun i => m - i) [3, 4, 8] ?_ ?_
      · conv => whnf
        exact ⟨0, rfl, by rw [hie, hnm]; rfl, Nat.zero_le _⟩
      · clear hle him hie hpl hnl
        clear i
        intro j hj
        obtain ⟨hI, hb, hw⟩ := props_inv hin hnm j (by omega)
        have hil := hI.len
        conv => whnf
        refine rdw ?_; repeat' ((with_reducible apply tw) <;> intro _)
        · rename_i hlt
          replace hlt : (j : Int) < n := hlt
          refine Exists.elim (⟨_, List.getElem?_eq_getElem (by omega)⟩ : ∃ p, (propsE m j).ps[j]? = some p) fun p hp => ?_
          refine (proposes_ok hI (by omega) (by omega) hp).mono ?_
          rintro _ _ ⟨rfl, ⟨hr, rfl⟩ | ⟨hr, rfl⟩⟩
          · have e : propsE m (j + 1) = propsE m j := by rw [propsE_succ]; unfold propE; simp only [hp, hr]; rfl
            conv => whnf
            refine rdw ?_; repeat' ((with_reducible apply tw) <;> intro _)
            exact ⟨j + 1, rfl, by rw [e]; rfl, (show j + 1 ≤ m by omega), (show m - (j + 1) < m - j by omega)⟩
          · have e : propsE m (j + 1) = propN (propsE m j) j p := by rw [propsE_succ]; unfold propE; simp only [hp, hr, propN_E]; rfl
            conv => whnf
            refine rdw ?_; repeat' ((with_reducible apply tw) <;> intro _)
            exact ⟨j + 1, rfl, by rw [e]; rfl, (show j + 1 ≤ m by omega), (show m - (j + 1) < m - j by omega)⟩
        · rename_i hge
          replace hge : ¬ (j : Int) < n := hge
          have hjm : j = m := by omega
          refine loop_go2 ttOk zOk foOk (σ := Net) (ρ := Nat) (fun N t => gSt n 9 N t) (fun N t => t ≤ 12 ∧ Inv n N ∧ checkE m (12 - t) N = true) (fun _ t => 12 - t) [3, 4, 9] ?_ ?_
          · conv => whnf
            exact ⟨propsE m j, 0, rfl, rfl, ⟨by omega, hI, by rw [hjm]; exact hck⟩⟩
          · clear hjm hge hil hI hb hw hj
            clear j
            rintro N t ⟨ht, hI, hc⟩
            have hil := hI.len
            conv => whnf
            refine rdw ?_; repeat' ((with_reducible apply tw) <;> intro _)
            · rename_i htl
              replace htl : (t : Int) < 12 := htl
              rw [show 12 - t = (11 - t) + 1 by omega] at hc
              have hc2 := check_succ hc
              have hc3 := hc2.2
              have hok := ok_of hc2.1
              have hb := hok.2.1
              have hw := hok.1
              have hw2 := hok.2.2
              clear hc hc2 hok
              refine loop_go ttOk zOk foOk (σ := Nat) (fun i => g2St n t 10 (ticksE N i) i) (fun i => i ≤ m) (fun i => m - i) [3, 4, 9, 10] ?_ ?_
              · conv => whnf
                exact ⟨0, rfl, rfl, Nat.zero_le _⟩
              · intro i hi
                obtain ⟨hJ, hjl, jb, jw⟩ := ticks_inv hI hb hw i (by omega)
                conv => whnf
                refine rdw ?_; repeat' ((with_reducible apply tw) <;> intro _)
                · rename_i hlt
                  replace hlt : (i : Int) < n := hlt
                  refine Exists.elim (⟨_, List.getElem?_eq_getElem (by omega)⟩ : ∃ p, (ticksE N i).ps[i]? = some p) fun p hp => ?_
                  have htk := tick_net hJ hp
                  have hbs := beatS_len (q := beatP p) (hJ.ps i p hp).good.may.isn
                  have hbs2 := msgsD_length (beatS (beatP p))
                  have hpl := primsD_length (ticksE N i).ps
                  have hwl := msgsD_length (ticksE N i).way
                  refine ⟨by omega, by omega, ?_⟩
                  conv => whnf
                  refine rdw ?_; repeat' ((with_reducible apply tw) <;> intro _)
                  refine ⟨p.cs, primsD_at hp, ?_⟩
                  conv => whnf
                  refine rdw ?_; repeat' ((with_reducible apply tw) <;> intro _)
                  (refine (htk).mono ?_; rintro _ _ ⟨rfl, rfl⟩; (conv => whnf))
                  refine rdw ?_; repeat' ((with_reducible apply tw) <;> intro _)
                  (refine (num20_ok 0).mono ?_; rintro _ _ ⟨rfl, rfl⟩; (conv => whnf))
                  refine rdw ?_; repeat' ((with_reducible apply tw) <;> intro _)
                  ((with_reducible refine draw_pl ttOk zOk foOk mixedOk pl6x24 ?_ ?_); (focus kernel_rfl); (conv => whnf))
                  repeat' (first | (first | ((with_reducible first | apply rd_intro | apply gd_and); (focus ((conv => whnf) <;> first | rfl | (intro K hK; (conv => whnf); first | exact hK | exact z_wrap (by omega) hK))); conv => whnf) | ((with_reducible apply z_wrap); (focus omega); conv => whnf) | ((with_reducible first | apply mt_dec | apply mt_eq | apply mt_ne | apply mt_not | apply mt_any) <;> (intro _; conv => whnf))) | ((with_reducible apply rd_intro); (focus (intro K hK; (conv => whnf); exact ⟨by omega, by omega, hK⟩)); (conv => whnf)))
                  refine ⟨p.cs, primsD_at hp, ?_⟩
                  conv => whnf
                  refine rdw ?_; repeat' ((with_reducible apply tw) <;> intro _)
                  refine ⟨by show ((msgsD (ticksE N i).way).length + (msgsD (beatS (beatP p))).length) * 256 ≤ _; omega, ?_⟩
                  conv => whnf
                  refine rdw ?_; repeat' ((with_reducible apply tw) <;> intro _)
                  refine (prop_net2 (n := n) (N := ticksE N i) (k := i) (x := beatP p) (way := (ticksE N i).way) (out := beatS (beatP p)) (inv_tick hJ hp) (by omega) (by rw [List.length_append]; omega) (by omega)).mono ?_
                  rintro _ _ ⟨rfl, N', hN', rfl | rfl⟩
                  all_goals
                    have e : ticksE N (i + 1) = N' := by rw [ticksE_succ, hN']; unfold tickE; simp only [hp]
                    conv => whnf
                    refine rdw ?_; repeat' ((with_reducible apply tw) <;> intro _)
                    exact ⟨i + 1, rfl, by rw [e]; rfl, (show i + 1 ≤ m by omega), (show m - (i + 1) < m - i by omega)⟩
                · rename_i hge
                  replace hge : ¬ (i : Int) < n := hge
                  have him : i = m := by omega
                  refine aw_nilrowC [(0, 1, 49, 18)] rfl ?_
                  rw [← him] at hw2
                  refine loop_go ttOk zOk foOk (σ := Nat) (tSt n t (ticksE N i)) (fun k => k ≤ (ticksE N i).way.length) (fun k => (ticksE N i).way.length - k) [3, 4, 9, 14, 15] ?_ ?_
                  · conv => whnf
                    exact ⟨0, rfl, rfl, Nat.zero_le _⟩
                  · intro k hk
                    obtain ⟨hT, hTl, hTb, hTw⟩ := takes_inv hJ (by omega) hw2 k hk
                    have hTu := inv_unpre hT
                    have hnl := msgsD_length (ticksE N i).way
                    have hpl := primsD_length (takesE (ticksE N i) k).ps
                    have hwl := msgsD_length (takesE (ticksE N i) k).way
                    conv => whnf
                    refine rdw ?_; repeat' ((with_reducible apply tw) <;> intro _)
                    · rename_i hkl
                      replace hkl : (k : Int) < ((msgsD (ticksE N i).way).length : Int) := hkl
                      refine Exists.elim (⟨_, List.getElem?_eq_getElem (by omega)⟩ : ∃ y, (ticksE N i).way[k]? = some y) fun y hy => ?_
                      have hgm := hT.way y (List.mem_append_left _ (List.mem_of_getElem? hy))
                      have hdst := hgm.ok.dst
                      refine ⟨by omega, by omega, ?_⟩
                      conv => whnf
                      refine rdw ?_; repeat' ((with_reducible apply tw) <;> intro _)
                      refine ⟨y.cs, msgsD_at hy, ?_⟩
                      conv => whnf
                      refine rdw ?_; repeat' ((with_reducible apply tw) <;> intro _)
                      · exfalso; omega
                      · exfalso; omega
                      · have hkk : (((y.dst - 1).toNat : Nat) : Int) = y.dst - 1 := by omega
                        refine Exists.elim (⟨_, List.getElem?_eq_getElem (by omega)⟩ : ∃ p, (takesE (ticksE N i) k).ps[(y.dst - 1).toNat]? = some p) fun p2 hp2 => ?_
                        have hps : (primsD (takesE (ticksE N i) k).ps)[(y.dst - 1).toNat]? = some p2.cs := by rw [primsD, List.getElem?_map, hp2]; rfl
                        have hid := (hTu.ps _ p2 hp2).id
                        have hg2 := (hTu.ps _ p2 hp2).good
                        have htn := take_net hTu (by omega) hp2 hgm (by omega)
                        have hgl := gotO_len (p := p2) (m := y) hg2.may.isn (by rw [hg2.nodes]; exact hgm.ok)
                        have hgl2 := msgsD_length (gotO p2 y [])
                        have hpn := prop_net2 (n := n) (N := takesE (ticksE N i) k) (k := (y.dst - 1).toNat) (x := gotP p2 y []) (way := (takesE (ticksE N i) k).way) (out := gotO p2 y []) (inv_take hTu (by omega) hp2 hgm (by omega) (fun _ h => h)) (by omega) (by rw [List.length_append]; omega) (by omega)
                        rw [hkk] at hpn
                        ((with_reducible refine draw_pl ttOk zOk foOk mixedOk pl6x36 ?_ ?_); (focus kernel_rfl); (conv => whnf))
                        repeat' (first | (first | ((with_reducible first | apply rd_intro | apply gd_and); (focus ((conv => whnf) <;> first | rfl | (intro K hK; (conv => whnf); first | exact hK | exact z_wrap (by omega) hK))); conv => whnf) | ((with_reducible apply z_wrap); (focus omega); conv => whnf) | ((with_reducible first | apply mt_dec | apply mt_eq | apply mt_ne | apply mt_not | apply mt_any) <;> (intro _; conv => whnf))) | ((with_reducible apply rd_intro); (focus (intro K hK; (conv => whnf); exact ⟨by omega, by omega, hK⟩)); (conv => whnf)) | ((with_reducible apply rd_intro); (focus (intro K hK; (conv => whnf); exact ⟨p2.cs, hps, hK⟩)); (conv => whnf)) | ((with_reducible apply rd_intro); (focus (intro K hK; (conv => whnf); exact ⟨y.cs, msgsD_at hy, hK⟩)); (conv => whnf)) | ((with_reducible apply rd_intro); (focus (intro K hK; (conv => whnf); refine htn.mono ?_; rintro _ _ ⟨rfl, rfl⟩; (conv => whnf); exact hK)); (conv => whnf)) | ((with_reducible apply gd_and); (focus ((conv => whnf); intro K hK; (conv => whnf); exact ⟨by omega, by omega, hK⟩)); (conv => whnf)) | ((with_reducible apply gd_and); (focus ((conv => whnf); intro K hK; (conv => whnf); exact ⟨p2.cs, hps, hK⟩)); (conv => whnf)) | ((with_reducible apply gd_and); (focus ((conv => whnf); intro K hK; (conv => whnf); exact ⟨y.cs, msgsD_at hy, hK⟩)); (conv => whnf)) | ((with_reducible apply gd_and); (focus ((conv => whnf); intro K hK; (conv => whnf); refine htn.mono ?_; rintro _ _ ⟨rfl, rfl⟩; (conv => whnf); exact hK)); (conv => whnf)))
                        (refine (num20_ok 0).mono ?_; rintro _ _ ⟨rfl, rfl⟩; (conv => whnf))
                        refine rdw ?_; repeat' ((with_reducible apply tw) <;> intro _)
                        ((with_reducible refine draw_pl ttOk zOk foOk mixedOk pl6x39 ?_ ?_); (focus kernel_rfl); (conv => whnf))
                        repeat' (first | (first | ((with_reducible first | apply rd_intro | apply gd_and); (focus ((conv => whnf) <;> first | rfl | (intro K hK; (conv => whnf); first | exact hK | exact z_wrap (by omega) hK))); conv => whnf) | ((with_reducible apply z_wrap); (focus omega); conv => whnf) | ((with_reducible first | apply mt_dec | apply mt_eq | apply mt_ne | apply mt_not | apply mt_any) <;> (intro _; conv => whnf))) | ((with_reducible apply rd_intro); (focus (intro K hK; (conv => whnf); exact ⟨by omega, by omega, hK⟩)); (conv => whnf)))
                        refine ⟨p2.cs, hps, ?_⟩
                        conv => whnf
                        refine rdw ?_; repeat' ((with_reducible apply tw) <;> intro _)
                        refine ⟨by show ((msgsD (takesE (ticksE N i) k).way).length + (msgsD (gotO p2 y [])).length) * 256 ≤ _; omega, ?_⟩
                        conv => whnf
                        refine rdw ?_; repeat' ((with_reducible apply tw) <;> intro _)
                        refine hpn.mono ?_
                        rintro _ _ ⟨rfl, N', hN', rfl | rfl⟩
                        all_goals
                          have e : takesE (ticksE N i) (k + 1) = N' := by rw [takesE_succ hy, hN']; unfold takeE; simp only [hp2]
                          conv => whnf
                          refine rdw ?_; repeat' ((with_reducible apply tw) <;> intro _)
                          exact ⟨k + 1, rfl, by unfold tSt; rw [e], (show k + 1 ≤ (ticksE N i).way.length by omega), (show (ticksE N i).way.length - (k + 1) < (ticksE N i).way.length - k by omega)⟩
                    · rename_i hkl
                      replace hkl : ¬ (k : Int) < ((msgsD (ticksE N i).way).length : Int) := hkl
                      have hke : k = (ticksE N i).way.length := by omega
                      refine ⟨takesE (ticksE N i) k, t + 1, rfl, rfl, ⟨(show t + 1 ≤ 12 by omega), hTu, ?_⟩, (show 12 - (t + 1) < 12 - t by omega)⟩
                      show checkE m (12 - (t + 1)) (takesE (ticksE N i) k) = true
                      rw [round_of] at hc3
                      rw [hke, him, show 12 - (t + 1) = 11 - t by omega]
                      exact hc3
            · rename_i htl
              replace htl : ¬ (t : Int) < 12 := htl
              have he : endE N = true := by
                rw [show 12 - t = 0 by omega] at hc
                exact hc
              have hpl := primsD_length N.ps
              refine loop_go ttOk zOk foOk (σ := Nat) (fSt n N) (fun i => i ≤ m) (fun i => m - i) [3, 4, 20] ?_ ?_
              · conv => whnf
                exact ⟨0, rfl, rfl, Nat.zero_le _⟩
              · intro i hi
                conv => whnf
                refine rdw ?_; repeat' ((with_reducible apply tw) <;> intro _)
                · rename_i hlt
                  replace hlt : (i : Int) < n := hlt
                  refine Exists.elim (⟨_, List.getElem?_eq_getElem (by omega)⟩ : ∃ p, N.ps[i]? = some p) fun p hp => ?_
                  have hg := (hI.ps i p hp).good
                  have hpe := end_of he hp
                  have hpr := hpe.1
                  have hpt := hg.may.tiny (by rw [hg.gh.2]; exact Nat.zero_le _)
                  have hpd := hg.may.dag.len
                  refine ⟨by omega, by omega, ?_⟩
                  conv => whnf
                  refine rdw ?_; repeat' ((with_reducible apply tw) <;> intro _)
                  refine ⟨p.cs, primsD_at hp, ?_⟩
                  conv => whnf
                  refine rdw ?_; repeat' ((with_reducible apply tw) <;> intro _)
                  · exfalso
                    omega
                  · refine loop_go ttOk zOk foOk (σ := Nat) (fkSt n N i) (fun k => k ≤ m) (fun k => m - k) [3, 4, 20, 21] ?_ ?_
                    · conv => whnf
                      exact ⟨0, rfl, rfl, Nat.zero_le _⟩
                    · intro k hk
                      conv => whnf
                      refine rdw ?_; repeat' ((with_reducible apply tw) <;> intro _)
                      · rename_i hlt
                        replace hlt : (k : Int) < n := hlt
                        refine Exists.elim (⟨_, List.getElem?_eq_getElem (by omega)⟩ : ∃ q, N.ps[k]? = some q) fun q hq => ?_
                        have kg := (hI.ps k q hq).good
                        have kpe := end_of he hq
                        have kpt := kg.may.tiny (by rw [kg.gh.2]; exact Nat.zero_le _)
                        have kpd := kg.may.dag.len
                        refine loop_go ttOk zOk foOk (σ := Nat) (frSt n N i k) (fun j => j ≤ 2) (fun j => 2 - j) [3, 4, 20, 21, 22] ?_ ?_
                        · conv => whnf
                          exact ⟨0, rfl, rfl, Nat.zero_le _⟩
                        · intro j hj
                          conv => whnf
                          refine rdw ?_; repeat' ((with_reducible apply tw) <;> intro _)
                          · rename_i hj2
                            replace hj2 : (j : Int) + 1 ≤ 2 := hj2
                            have e1 : ofR p.dag.certs ((j : Int) + 1) = firstR N ((j : Int) + 1) := by
                              rcases (show j = 0 ∨ j = 1 by omega) with rfl | rfl
                              · exact hpe.2.1
                              · exact hpe.2.2
                            have e2 : ofR q.dag.certs ((j : Int) + 1) = firstR N ((j : Int) + 1) := by
                              rcases (show j = 0 ∨ j = 1 by omega) with rfl | rfl
                              · exact kpe.2.1
                              · exact kpe.2.2
                            have r1 := rRound_ok p.dag (by unfold few; omega) (by omega) hpt.dag.2 ((j : Int) + 1)
                            have r2 := rRound_ok q.dag (by unfold few; omega) (by omega) kpt.dag.2 ((j : Int) + 1)
                            rw [e1] at r1
                            rw [e2] at r2
                            have r3 := eqCerts_same (firstR N ((j : Int) + 1)) (by rw [← e1]; unfold few ofR; have := List.length_filter_le (fun c : Cert => decide (c.round = (j : Int) + 1)) p.dag.certs; omega) (fun c hc => by
                              rw [← e1] at hc
                              exact certFew_of (hg.may.dag.nodes) (hg.may.dag.certs c (List.mem_filter.1 hc).1))
                            ((with_reducible refine draw_pl ttOk zOk foOk mixedOk pl6x54 ?_ ?_); (focus kernel_rfl); (conv => whnf))
                            repeat' (first | (first | ((with_reducible first | apply rd_intro | apply gd_and); (focus ((conv => whnf) <;> first | rfl | (intro K hK; (conv => whnf); first | exact hK | exact z_wrap (by omega) hK))); conv => whnf) | ((with_reducible apply z_wrap); (focus omega); conv => whnf) | ((with_reducible first | apply mt_dec | apply mt_eq | apply mt_ne | apply mt_not | apply mt_any) <;> (intro _; conv => whnf))) | ((with_reducible apply rd_intro); (focus (intro K hK; (conv => whnf); exact ⟨by omega, by omega, hK⟩)); (conv => whnf)) | ((with_reducible apply gd_and); (focus ((conv => whnf); intro K hK; (conv => whnf); exact ⟨by omega, by omega, hK⟩)); (conv => whnf)) | ((with_reducible apply rd_intro); (focus (intro K hK; (conv => whnf); exact ⟨p.cs, primsD_at hp, hK⟩)); (conv => whnf)) | ((with_reducible apply gd_and); (focus ((conv => whnf); intro K hK; (conv => whnf); exact ⟨p.cs, primsD_at hp, hK⟩)); (conv => whnf)) | ((with_reducible apply rd_intro); (focus (intro K hK; (conv => whnf); exact ⟨q.cs, primsD_at hq, hK⟩)); (conv => whnf)) | ((with_reducible apply gd_and); (focus ((conv => whnf); intro K hK; (conv => whnf); exact ⟨q.cs, primsD_at hq, hK⟩)); (conv => whnf)) | ((with_reducible apply rd_intro); (focus (intro K hK; (conv => whnf); refine r1.mono ?_; rintro _ _ ⟨rfl, rfl⟩; (conv => whnf); exact hK)); (conv => whnf)) | ((with_reducible apply gd_and); (focus ((conv => whnf); intro K hK; (conv => whnf); refine r1.mono ?_; rintro _ _ ⟨rfl, rfl⟩; (conv => whnf); exact hK)); (conv => whnf)) | ((with_reducible apply rd_intro); (focus (intro K hK; (conv => whnf); refine r2.mono ?_; rintro _ _ ⟨rfl, rfl⟩; (conv => whnf); exact hK)); (conv => whnf)) | ((with_reducible apply gd_and); (focus ((conv => whnf); intro K hK; (conv => whnf); refine r2.mono ?_; rintro _ _ ⟨rfl, rfl⟩; (conv => whnf); exact hK)); (conv => whnf)) | ((with_reducible apply rd_intro); (focus (intro K hK; (conv => whnf); refine r3.mono ?_; rintro _ _ ⟨rfl, rfl⟩; (conv => whnf); exact hK)); (conv => whnf)) | ((with_reducible apply gd_and); (focus ((conv => whnf); intro K hK; (conv => whnf); refine r3.mono ?_; rintro _ _ ⟨rfl, rfl⟩; (conv => whnf); exact hK)); (conv => whnf)) | (refine (r1).mono ?_; rintro _ _ ⟨rfl, rfl⟩; (conv => whnf)) | (refine (r2).mono ?_; rintro _ _ ⟨rfl, rfl⟩; (conv => whnf)) | (refine (r3).mono ?_; rintro _ _ ⟨rfl, rfl⟩; (conv => whnf)) | fail)
                            exact ⟨j + 1, rfl, rfl, (show j + 1 ≤ 2 by omega), (show 2 - (j + 1) < 2 - j by omega)⟩
                          · exact ⟨k + 1, rfl, rfl, (show k + 1 ≤ m by omega), (show m - (k + 1) < m - k by omega)⟩
                      · exact ⟨i + 1, rfl, rfl, (show i + 1 ≤ m by omega), (show m - (i + 1) < m - i by omega)⟩
                · refine wakes_ok.mono ?_
                  rintro _ _ ⟨rfl, rfl⟩
                  conv => whnf
                  refine rdw ?_; repeat' ((with_reducible apply tw) <;> intro _)
                  exact ⟨rfl, rfl⟩
end Go.Proofs.YtdlfmgcmfoehdaaGreat
/- PrimaryGoes: for every argument the law returns true, and its argument reads behind the call as it read before. No condition of ours. -/
namespace Go.Proofs.YtdlfmgcmfoehdaaGreat
open Go.Ab Go.RowKit Go.ChangeShapes Go.WideShapes Go.ChangeAt
theorem own : ownKnob Tryz.prog.godebug = none := by kernel_rfl
theorem laidOut : laidOutB Tryz.prog = true := by kernel_rfl
set_option maxRecDepth 100000 in
theorem primaryGoes_lifted (os : Os) (started : os.Started) (H : Type) (enc : TypeId × Value → H) :
    ReturnsInHanded {} Tryz.checked os 6 .any (Rows.primaryGoesSpec.pre6 enc Tryz.prog Tryz.f6 Rows.primaryGoesRow.domain false) (Rows.primaryGoesSpec.post enc Tryz.prog Tryz.f6 false true false false) := by
  refine returnsInHanded_of_change_sized (C := Tryz.checked) own started (by kernel_rfl) Tryz.func6
    (ChangeSpec.witness6 (enc := enc) (C := Tryz.checked) false ⟨#[], #[.agg #[.int .i64 0, .slice none 0 0]], []⟩ 8 (by kernel_rfl) (by kernel_rfl) (by kernel_rfl) (by kernel_rfl)) ?_
  intro W base args ds gs before hval hW _ hsz _
  exact law_contract ttOk (f := Tryz.f6) (tb := 4) (t := 68) rfl rfl Tryz.underlying4 rfl (fun _ _ => rfl) laidOut (by kernel_rfl) (of_decide_eq_true (by kernel_rfl)) 4 (by kernel_rfl) argS
    (fun W base v ds h1 h2 => argS_ok Tryz.underlying68 h1 h2)
    (fun ds hd => by
      obtain ⟨x, l, rfl, hx, hl⟩ := askV_of hd
      exact primaryGoes_ok x hx (fatesD l)) hval hW hsz
theorem primaryGoes_holds : Rows.PrimaryGoesSaid :=
  OpenClaim.holds_of_wide 6 Tryz.f6 rfl rfl rfl rfl rfl rfl rfl ⟨rfl, rfl, rfl, rfl, rfl⟩ rfl rfl rfl rfl rfl (by kernel_rfl) Tryz.func6 (by kernel_rfl)
    (of_decide_eq_true (by kernel_rfl)) (by unfold Func.isWrapper; first | (rw [if_pos (by decide +kernel)]; kernel_rfl) | (rw [if_neg (by decide +kernel)]; exact ⟨rfl, rfl⟩))
    (fun os started H enc _ => primaryGoes_lifted os started H enc)
#print axioms primaryGoes_holds
end Go.Proofs.YtdlfmgcmfoehdaaGreat
