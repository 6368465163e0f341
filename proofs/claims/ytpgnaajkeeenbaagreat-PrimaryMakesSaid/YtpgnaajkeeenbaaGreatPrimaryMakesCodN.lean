/- PrimaryMakes: contracts. -/
import Derived.Test.YtpgnaajkeeenbaaGreatPrimaryMakesCodM
set_option linter.unusedVariables false
set_option linter.unusedSimpArgs false
namespace Go.Proofs.YtpgnaajkeeenbaaGreat
open Go.Ab Go.RowKit Go.MapKept
attribute [local irreducible] ACalls AW ADraw Into fltB fnear
set_option maxRecDepth 100000
theorem rRound_ok (d : Dag) (hd : few d.certs) (hl : d.certs.length ≤ 1099511627776) (hc : ∀ c ∈ d.certs, c.tiny) (r : Int) : ACalls Tryz.prog 88 [d.av, .d (.int .i64 r)] [] (fun av L => av = .d (.sl 6 (certsD (ofR d.certs r))) ∧ L = []) := by
  have hcl := certsD_length d.certs
  refine acalls_go ttOk zOk foOk Tryz.func88 rfl Tryz.ntmps88 rfl false rfl ?_
  conv => whnf
  refine loop_go ttOk zOk foOk (σ := Nat) (fun j => ([(1, .d (.int .i64 r)), (2, .ptr 0 0), (5, .arr 1), (6, .d (.int .i64 j))], [.cells d.cells, .row 40 6 (certsD (ofR (d.certs.take j) r)) false])) (fun j => j ≤ d.certs.length) (fun j => d.certs.length - j) [1, 2, 5, 6] ?_ ?_
  · conv => whnf
    exact ⟨0, rfl, rfl, Nat.zero_le _⟩
  · intro j hj
    have hlt : (ofR (d.certs.take j) r).length ≤ d.certs.length := Nat.le_trans (List.length_filter_le ..) (List.length_take_le' ..)
    have hxl := certsD_length (ofR (d.certs.take j) r)
    conv => whnf
    refine rdz ?_; repeat' ((with_reducible apply tw) <;> intro _)
    · rename_i h
      replace h : (j : Int) < ((certsD d.certs).length : Int) := h
      refine Exists.elim (⟨_, List.getElem?_eq_getElem (by omega)⟩ : ∃ c, d.certs[j]? = some c) fun a ha => ?_
      have hsn : ofR (d.certs.take (j + 1)) r = ofR (d.certs.take j) r ++ (if a.round = r then [a] else []) := by
        unfold ofR
        rw [List.take_add_one, ha, List.filter_append]
        by_cases h : a.round = r <;> simp [h]
      refine ⟨by omega, a.cs, certsD_at ha, ?_⟩
      conv => whnf
      refine rdz ?_; repeat' ((with_reducible apply tw) <;> intro _)
      · rename_i h1
        replace h1 : a.round = r := h1
        rw [if_pos h1] at hsn
        refine ⟨by omega, a.cs, certsD_at ha, ?_⟩
        conv => whnf
        refine rdz ?_; repeat' ((with_reducible apply tw) <;> intro _)
        (refine (copyCert_ok a (hc a (List.mem_of_getElem? ha))).mono ?_; rintro _ _ ⟨rfl, rfl⟩; (conv => whnf))
        refine rdz ?_; repeat' ((with_reducible apply tw) <;> intro _)
        refine ⟨by show ((certsD (ofR (d.certs.take j) r)).length + 1) * 96 ≤ _; omega, ?_⟩
        conv => whnf
        refine rdz ?_; repeat' ((with_reducible apply tw) <;> intro _)
        refine ⟨j + 1, rfl, ?_, by omega, by omega⟩
        rw [hsn, show certsD (ofR (d.certs.take j) r ++ [a]) = certsD (ofR (d.certs.take j) r) ++ [a.cs] by simp [certsD]]
        rfl
      · rename_i h1
        replace h1 : ¬ a.round = r := h1
        rw [if_neg h1, List.append_nil] at hsn
        exact ⟨j + 1, rfl, by rw [hsn]; rfl, by omega, by omega⟩
    · rename_i h
      replace h : ¬ (j : Int) < ((certsD d.certs).length : Int) := h
      rw [List.take_of_length_le (by omega)]
      exact ⟨rfl, rfl⟩
def Prim.gh (p : Prim) : Prop := p.mine.digest = 0 ∧ p.mine.sigs = []
structure Script.okk (s : Script) : Prop where
  oks : s.oks
  ints : ∀ a ∈ s.acts, i64 a.d ∧ i64 a.doo
  gh : s.p.gh
  hg : ∀ a ∈ s.acts, a.m.head.sigs = []
theorem eqVote_ok : eqOkB Tryz.prog 115 [true, true, true] = true := by kernel_rfl
end Go.Proofs.YtpgnaajkeeenbaaGreat
namespace Go.Proofs.YtpgnaajkeeenbaaGreat
open Go.Ab Go.RowKit
theorem askR_head (k : Nat) {ds : List DV} (h : DTy tt (k + 3) 24 ds) : ∃ c : Cert, ds = [.int .i64 c.author, .int .i64 c.round, .sl 1 (nums c.bats), .sl 1 (nums c.pars)] ∧ c.ok ∧ c.digest = 0 ∧ c.sigs = [] := by
  obtain ⟨c, h1, h2⟩ := askP_head k h
  exact ⟨⟨c.author, c.round, c.bats, c.pars, 0, []⟩, h1, ⟨h2.author, h2.round, h2.bats, h2.pars, ⟨by show (-9223372036854775808 : Int) ≤ 0; decide, by show (0 : Int) < 9223372036854775808; decide⟩, ⟨Nat.zero_le _, fun n h => (by cases h)⟩⟩, rfl, rfl⟩
theorem askR_txs {a : List DV} (h : DTy tt 3 36 a) : ∃ l : List Tx, a = [.sl 4 (txsD l)] ∧ few l ∧ ∀ t ∈ l, t.ok := by
  replace h : ∃ xs, a = [.sl 4 xs] ∧ xs.length * 48 ≤ 140737488355328 ∧ ∀ x ∈ xs, DTy tt 2 175 x := h
  obtain ⟨x3, rfl, w3, e3⟩ := h
  obtain ⟨l, rfl, hl⟩ := map_of (f := Tx.cs) (ok := Tx.ok) (xs := x3) fun x hx => by
    have h := e3 x hx
    replace h : DTyF (DTy tt 1) [3, 3, 9, 9] x := h
    obtain ⟨a1, b1, rfl, h1, a2, b2, rfl, h2, a3, b3, rfl, h3, a4, b4, rfl, h4, rfl⟩ := h
    replace h1 : ∃ x, a1 = [.int .i64 x] ∧ (Lit.int .i64 x).wf = true := h1
    replace h2 : ∃ x, a2 = [.int .i64 x] ∧ (Lit.int .i64 x).wf = true := h2
    replace h3 : ∃ s, a3 = [.str s] ∧ s.size ≤ 140737488355328 := h3
    replace h4 : ∃ s, a4 = [.str s] ∧ s.size ≤ 140737488355328 := h4
    obtain ⟨x1, rfl, w1⟩ := h1
    obtain ⟨x2, rfl, w2⟩ := h2
    obtain ⟨x3, rfl, w3⟩ := h3
    obtain ⟨x4, rfl, w4⟩ := h4
    exact ⟨⟨x1, x2, x3, x4⟩, rfl, ⟨w3, w4⟩⟩
  simp only [List.length_map] at w3
  exact ⟨l, rfl, by unfold few; omega, hl⟩
theorem askR_msg {ds : List DV} (h : DTy tt 5 42 ds) : ∃ m : Msg, ds = m.cs ∧ m.ok ∧ (∀ t ∈ m.txs, t.ok) ∧ m.head.sigs = [] := by
  replace h : DTyF (DTy tt 4) [3, 3, 3, 3, 38, 24, 40, 22] ds := h
  obtain ⟨a1, b1, rfl, h1, a2, b2, rfl, h2, a3, b3, rfl, h3, a4, b4, rfl, h4, a5, b5, rfl, h5, a6, b6, rfl, h6, a7, b7, rfl, h7, a8, b8, rfl, h8, rfl⟩ := h
  replace h1 : ∃ x, a1 = [.int .i64 x] ∧ (Lit.int .i64 x).wf = true := h1
  replace h2 : ∃ x, a2 = [.int .i64 x] ∧ (Lit.int .i64 x).wf = true := h2
  replace h3 : ∃ x, a3 = [.int .i64 x] ∧ (Lit.int .i64 x).wf = true := h3
  replace h4 : ∃ x, a4 = [.int .i64 x] ∧ (Lit.int .i64 x).wf = true := h4
  replace h5 : DTyF (DTy tt 3) [3, 3, 36] a5 := h5
  obtain ⟨c1, d1, rfl, k1, c2, d2, rfl, k2, c3, d3, rfl, k3, rfl⟩ := h5
  replace k1 : ∃ x, c1 = [.int .i64 x] ∧ (Lit.int .i64 x).wf = true := k1
  replace k2 : ∃ x, c2 = [.int .i64 x] ∧ (Lit.int .i64 x).wf = true := k2
  obtain ⟨x1, rfl, w1⟩ := h1
  obtain ⟨x2, rfl, w2⟩ := h2
  obtain ⟨x3, rfl, w3⟩ := h3
  obtain ⟨x4, rfl, w4⟩ := h4
  obtain ⟨y1, rfl, v1⟩ := k1
  obtain ⟨y2, rfl, v2⟩ := k2
  obtain ⟨txs, rfl, htx, htk⟩ := askR_txs k3
  obtain ⟨hd, rfl, hh, hd0, hs0⟩ := askR_head 1 h6
  obtain ⟨c, rfl, hc⟩ := askP_cert 0 h7
  obtain ⟨l8, rfl, f8, e8⟩ := askP_row h8
  exact ⟨⟨x1, x2, x3, x4, y1, y2, txs, hd, c, l8⟩, rfl, ⟨htx, hh, hc, f8⟩, htk, hs0⟩
theorem askR_act {ds : List DV} (h : DTy tt 6 44 ds) : ∃ a : Act, ds = a.cs ∧ a.ok ∧ (∀ t ∈ a.m.txs, t.ok) ∧ a.m.head.sigs = [] ∧ few a.l ∧ i64 a.d ∧ i64 a.doo := by
  replace h : DTyF (DTy tt 5) [3, 3, 24, 42, 4, 22] ds := h
  obtain ⟨a1, b1, rfl, h1, a2, b2, rfl, h2, a3, b3, rfl, h3, a4, b4, rfl, h4, a5, b5, rfl, h5, a6, b6, rfl, h6, rfl⟩ := h
  replace h1 : ∃ x, a1 = [.int .i64 x] ∧ (Lit.int .i64 x).wf = true := h1
  replace h2 : ∃ x, a2 = [.int .i64 x] ∧ (Lit.int .i64 x).wf = true := h2
  replace h5 : ∃ b, a5 = [.bool b] := h5
  obtain ⟨x1, rfl, w1⟩ := h1
  obtain ⟨x2, rfl, w2⟩ := h2
  obtain ⟨hd, rfl, hh, -, -⟩ := askR_head 2 h3
  obtain ⟨m, rfl, hm, htx, hsg⟩ := askR_msg h4
  obtain ⟨b, rfl⟩ := h5
  obtain ⟨l6, rfl, f6, e6⟩ := askP_row h6
  exact ⟨⟨x1, x2, hd, m, b, l6⟩, rfl, ⟨hh, hm⟩, htx, hsg, f6, askP_i64 w2, askP_i64 w1⟩
theorem askR_acts {a : List DV} (h : DTy tt 7 31 a) : ∃ l : List Act, a = [.sl 26 (actsD l)] ∧ few l ∧ ∀ a ∈ l, a.ok ∧ (∀ t ∈ a.m.txs, t.ok) ∧ a.m.head.sigs = [] ∧ few a.l ∧ i64 a.d ∧ i64 a.doo := by
  replace h : ∃ xs, a = [.sl 26 xs] ∧ xs.length * 368 ≤ 140737488355328 ∧ ∀ x ∈ xs, DTy tt 6 44 x := h
  obtain ⟨x3, rfl, w3, e3⟩ := h
  obtain ⟨l, rfl, hl⟩ := map_of (f := Act.cs) (ok := fun a : Act => a.ok ∧ (∀ t ∈ a.m.txs, t.ok) ∧ a.m.head.sigs = [] ∧ few a.l ∧ i64 a.d ∧ i64 a.doo) fun x hx => askR_act (e3 x hx)
  simp only [List.length_map] at w3
  exact ⟨l, rfl, by unfold few; omega, hl⟩
theorem askR_of {ds : List DV} (h : DTy tt 8 33 ds) : ∃ s : Script, argS ds = s.av ∧ s.okk := by
  replace h : DTyF (DTy tt 7) [30, 31] ds := h
  obtain ⟨p, b0, rfl, hp, q, b1, rfl, hq, rfl⟩ := h
  obtain ⟨acts, rfl, fa, ea⟩ := askR_acts hq
  replace hp : DTyF (DTy tt 6) [3, 3, 3, 3, 3, 24, 3, 22, 25, 28, 26] p := hp
  obtain ⟨a1, b1, rfl, h1, a2, b2, rfl, h2, a3, b3, rfl, h3, a4, b4, rfl, h4, a5, b5, rfl, h5, a6, b6, rfl, h6, a7, b7, rfl, h7, a8, b8, rfl, h8, a9, b9, rfl, h9, c1, d1, rfl, k1, c2, d2, rfl, k2, rfl⟩ := hp
  replace h1 : ∃ x, a1 = [.int .i64 x] ∧ (Lit.int .i64 x).wf = true := h1
  replace h2 : ∃ x, a2 = [.int .i64 x] ∧ (Lit.int .i64 x).wf = true := h2
  replace h3 : ∃ x, a3 = [.int .i64 x] ∧ (Lit.int .i64 x).wf = true := h3
  replace h4 : ∃ x, a4 = [.int .i64 x] ∧ (Lit.int .i64 x).wf = true := h4
  replace h5 : ∃ x, a5 = [.int .i64 x] ∧ (Lit.int .i64 x).wf = true := h5
  replace h7 : ∃ x, a7 = [.int .i64 x] ∧ (Lit.int .i64 x).wf = true := h7
  obtain ⟨x1, rfl, w1⟩ := h1
  obtain ⟨x2, rfl, w2⟩ := h2
  obtain ⟨x3, rfl, w3⟩ := h3
  obtain ⟨x4, rfl, w4⟩ := h4
  obtain ⟨x5, rfl, w5⟩ := h5
  obtain ⟨hd, rfl, hh, hd0, hs0⟩ := askR_head 3 h6
  obtain ⟨x7, rfl, w7⟩ := h7
  obtain ⟨l8, rfl, f8, e8⟩ := askP_row h8
  obtain ⟨l9, rfl, f9⟩ := askP_votes h9
  obtain ⟨d, rfl, hdg⟩ := askP_dag k1
  obtain ⟨lt, rfl, flt, elt⟩ := askP_certs 1 k2
  exact ⟨⟨⟨x1, x2, x3, x4, x5, hd, x7, l8, l9, d, lt⟩, acts⟩, rfl, ⟨⟨⟨hh, f8, f9, hdg, ⟨flt, elt⟩, ⟨fa, fun a h => (ea a h).1⟩⟩, fun a h => (ea a h).2.1, fun a h => (ea a h).2.2.2.1⟩, fun a h => (ea a h).2.2.2.2, ⟨hd0, hs0⟩, fun a h => (ea a h).2.2.1⟩⟩
end Go.Proofs.YtpgnaajkeeenbaaGreat
namespace Go.Proofs.YtpgnaajkeeenbaaGreat
open Go.Ab Go.RowKit Go.MapKept
attribute [local irreducible] ACalls AW ADraw Into fltB fnear
set_option maxRecDepth 100000
def withI (l : List Int) (n : Int) : List Int := if n ∈ l then l else insI l n
def foldW (l : List Int) : List Int := l.foldl withI []
theorem foldW_snoc (l : List Int) (d : Int) : foldW (l ++ [d]) = withI (foldW l) d := by
  unfold foldW
  rw [List.foldl_append]
  rfl
theorem withI_mem {l : List Int} {n x : Int} : x ∈ withI l n ↔ x ∈ l ∨ x = n := by
  unfold withI
  split
  · rename_i h
    exact ⟨.inl, fun k => k.elim id fun e => e ▸ h⟩
  · exact insI_mem
theorem withI_rising {l : List Int} {n : Int} (h : risingI l) : risingI (withI l n) := by
  unfold withI
  split
  · exact h
  · exact insI_rising h ‹_›
theorem withI_len (l : List Int) (n : Int) : (withI l n).length ≤ l.length + 1 := by
  unfold withI
  split
  · omega
  · rw [insI_len]
    omega
theorem foldl_withI : ∀ (l a : List Int), risingI a → risingI (l.foldl withI a) ∧ ∀ x, x ∈ l.foldl withI a ↔ x ∈ a ∨ x ∈ l
  | [], a, h => ⟨h, fun x => by simp⟩
  | d :: l, a, h => by
    obtain ⟨h1, h2⟩ := foldl_withI l (withI a d) (withI_rising h)
    refine ⟨h1, fun x => ?_⟩
    show x ∈ l.foldl withI (withI a d) ↔ _
    rw [h2, withI_mem, List.mem_cons]
    constructor
    · rintro ((h | h) | h)
      · exact .inl h
      · exact .inr (.inl h)
      · exact .inr (.inr h)
    · rintro (h | h | h)
      · exact .inl (.inl h)
      · exact .inl (.inr h)
      · exact .inr h
theorem foldW_rising (l : List Int) : risingI (foldW l) := (foldl_withI l [] .nil).1
theorem foldW_mem (l : List Int) (x : Int) : x ∈ foldW l ↔ x ∈ l := by
  rw [foldW, (foldl_withI l [] .nil).2]
  simp
theorem foldW_sort {l : List Int} (h : l.Nodup) : sortI l = foldW l :=
  rising_ext (sortI_rising h) (foldW_rising l) fun x => by
    rw [foldW_mem]
    exact (List.mergeSort_perm l _).mem_iff
theorem foldW_len {l : List Int} (h : l.Nodup) : (foldW l).length = l.length := by
  rw [← foldW_sort h]
  exact List.length_mergeSort l
theorem bats_fold_nodup : ∀ (l acc : List Int), acc.Nodup → (l.foldl (fun acc d => if acc.length < 8 ∧ d ∉ acc then acc ++ [d] else acc) acc).Nodup
  | [], acc, h => h
  | d :: l, acc, h => by
    refine bats_fold_nodup l _ ?_
    show (if acc.length < 8 ∧ d ∉ acc then acc ++ [d] else acc).Nodup
    split
    · rename_i k
      exact List.nodup_append.2 ⟨h, List.nodup_cons.2 ⟨List.not_mem_nil, List.nodup_nil⟩, fun x hx y hy e => k.2 (by rw [List.mem_singleton.1 hy] at e; exact e ▸ hx)⟩
    · exact h
theorem batsF_nodup (l : List Int) : (batsF l).Nodup := bats_fold_nodup l [] List.nodup_nil
theorem bats_full : ∀ (m : List Int) (l : List Int), ¬ (batsF l).length < 8 → batsF (l ++ m) = batsF l
  | [], l, _ => by rw [List.append_nil]
  | d :: m, l, h => by
    have e : batsF (l ++ [d]) = batsF l := by rw [batsF_snoc, if_neg (fun k => h k.1)]
    rw [show l ++ d :: m = (l ++ [d]) ++ m by simp, bats_full m (l ++ [d]) (by rw [e]; exact h), e]
theorem bats_step {l : List Int} {d : Int} (h : (foldW (batsF l)).length < 8) : foldW (batsF (l ++ [d])) = withI (foldW (batsF l)) d := by
  rw [foldW_len (batsF_nodup l)] at h
  rw [batsF_snoc]
  by_cases k : d ∈ batsF l
  · rw [if_neg (fun e => e.2 k)]
    unfold withI
    rw [if_pos ((foldW_mem _ _).2 k)]
  · rw [if_pos ⟨h, k⟩, foldW_snoc]
theorem bats_end {l : List Int} {i : Nat} (h : ¬ (foldW (batsF (l.take i))).length < 8 ∨ l.length ≤ i) : foldW (batsF (l.take i)) = sortI (batsF l) := by
  rw [foldW_sort (batsF_nodup l)]
  rcases h with h | h
  · rw [foldW_len (batsF_nodup _)] at h
    have := bats_full (l.drop i) (l.take i) h
    rw [List.take_append_drop] at this
    rw [this]
  · rw [List.take_of_length_le h]
theorem pars_end {p : Prim} (h : (p.dag.certs.map (·.digest)).Nodup) : foldW (parsF p) = sortI (parsF p) :=
  (foldW_sort (List.Pairwise.sublist (List.Sublist.map _ List.filter_sublist) h)).symm
def parsI (p : Prim) (i : Nat) : List Int := foldW ((ofR (p.dag.certs.take i) (p.round - 1)).map (·.digest))
theorem parsI_snoc {p : Prim} {i : Nat} {c : Cert} (hc : p.dag.certs[i]? = some c) : parsI p (i + 1) = if c.round = p.round - 1 then withI (parsI p i) c.digest else parsI p i := by
  unfold parsI ofR
  rw [take_snoc hc, List.filter_append]
  by_cases h : c.round = p.round - 1
  · rw [if_pos h, List.filter_cons_of_pos (by simpa using h), List.filter_nil, List.map_append]
    exact foldW_snoc _ _
  · rw [if_neg h, List.filter_cons_of_neg (by simpa using h), List.filter_nil, List.append_nil]
theorem parsI_all {p : Prim} {i : Nat} (h : p.dag.certs.length ≤ i) : parsI p i = foldW (parsF p) := by
  unfold parsI parsF
  rw [List.take_of_length_le h]
theorem parsI_len (p : Prim) : ∀ i, (parsI p i).length ≤ i
  | 0 => by
    show (foldW ((ofR [] (p.round - 1)).map (·.digest))).length ≤ 0
    exact Nat.le_refl _
  | i + 1 => by
    have ih := parsI_len p i
    cases hc : p.dag.certs[i]? with
    | none =>
      have hl : p.dag.certs.length ≤ i := by simpa using hc
      rw [parsI_all hl] at ih
      rw [parsI_all (by omega)]
      omega
    | some c =>
      rw [parsI_snoc hc]
      split
      · have := withI_len (parsI p i) c.digest
        omega
      · omega
theorem inI_yes {l : List Int} {n : Int} (h : n ∈ l) : 0 ≤ inI l n := by
  unfold inI inC
  cases hx : l.findIdx? fun y => decide (y = n) with
  | none =>
    rw [List.findIdx?_eq_none_iff] at hx
    have := hx n h
    simp at this
  | some i => exact Int.natCast_nonneg i
theorem with_in (l : List Int) (hl : tiny l) (n : Int) (h : n ∈ l) : ACalls Tryz.prog 58 [.d (.sl 1 (nums l)), .d (.int .i64 n)] [] (fun av L => av = .d (.sl 1 (nums l)) ∧ L = []) := by
  have hin := in_ok l (by unfold few; unfold tiny at hl; omega) n
  have hy := inI_yes h
  refine acalls_go ttOk zOk foOk Tryz.func58 rfl Tryz.ntmps58 rfl false rfl ?_
  conv => whnf
  refine hin.mono ?_
  rintro _ _ ⟨rfl, rfl⟩
  conv => whnf
  refine rdz ?_; repeat' ((with_reducible apply tw) <;> intro _)
  · exact ⟨rfl, rfl⟩
  · rename_i k
    exact absurd hy k
theorem with_full (l : List Int) (hl : tiny l) (hs : risingI l) (n : Int) : ACalls Tryz.prog 58 [.d (.sl 1 (nums l)), .d (.int .i64 n)] [] (fun av L => av = .d (.sl 1 (nums (withI l n))) ∧ L = []) := by
  unfold withI
  by_cases h : n ∈ l
  · rw [if_pos h]
    exact with_in l hl n h
  · rw [if_neg h]
    exact with_ok l hl hs n h
open Classical in
theorem make_row (p : Prim) (hok : p.ok) (hdl : p.dag.certs.length ≤ 100000) (l : List Int) (hl : few l) (k1 : May p) (k2 : digsB l = true) (k3 : readyB p = true) :
    ACalls Tryz.prog 17 [p.av, .d (.sl 1 (nums l))] [] (fun av L => av = .tup [.agg [.d (.int .i64 p.id), .d (.int .i64 p.round), .arr 0, .arr 1], .d (.int .i64 0)] ∧ L = [.row 3 1 (nums (sortI (batsF l))) false, .row 3 1 (nums (sortI (parsF p))) false]) := by
  have h1 := primMay_full p hok
  have h2 := containsMk_ok l hl
  have h3 := ready_ok p k1.dag.fit k1.isn k1.round
  have h4 := head_row p k1.dag.fit k1.round hdl l hl
  rw [decide_eq_true k1] at h1
  rw [k2] at h2
  rw [k3] at h3
  refine acalls_go ttOk zOk foOk Tryz.func17 rfl Tryz.ntmps17 rfl true rfl ?_
  conv => whnf
  refine rdz ?_; repeat' ((with_reducible apply tw) <;> intro _)
  refine h1.mono ?_
  rintro _ _ ⟨rfl, rfl⟩
  conv => whnf
  refine rdz ?_; repeat' ((with_reducible apply tw) <;> intro _)
  refine h2.mono ?_
  rintro _ _ ⟨rfl, rfl⟩
  conv => whnf
  refine rdz ?_; repeat' ((with_reducible apply tw) <;> intro _)
  refine h3.mono ?_
  rintro _ _ ⟨rfl, rfl⟩
  conv => whnf
  refine rdz ?_; repeat' ((with_reducible apply tw) <;> intro _)
  (refine (h4).mono ?_; rintro _ _ ⟨rfl, rfl⟩; (conv => whnf))
  refine rdz ?_; repeat' ((with_reducible apply tw) <;> intro _)
  exact ⟨rfl, rfl⟩
end Go.Proofs.YtpgnaajkeeenbaaGreat
