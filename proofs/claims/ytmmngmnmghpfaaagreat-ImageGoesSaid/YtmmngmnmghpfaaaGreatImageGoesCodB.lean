/- ImageGoes: contracts. -/
import Derived.Test.YtmmngmnmghpfaaaGreatImageGoesCodA
import Derived.Ground.SlgmProg
import Derived.Shelf.SortM.Plain
import Derived.Shelf.SortM.SortNone
import Derived.Test.YtmmngmnmghpfaaaGreatProg
set_option linter.unusedVariables false
set_option linter.unusedSimpArgs false
namespace Go.Proofs.YtmmngmnmghpfaaaGreat
open Go.Ab Go.RowKit Go.MapKept
attribute [local irreducible] ACalls AW ADraw Into fltB fnear
set_option maxRecDepth 100000
def votes (d : Dag) (r : Int) : Nat := ((ofR d.certs (r + 1)).filter fun c => decide (anchorI d r > 0 ∧ anchorI d r ∈ c.pars)).length
def fewC (d : Dag) : Prop := ∀ c ∈ d.certs, few c.pars
theorem count_ok (d : Dag) (hd : d.fit) (hn : 0 < d.nodes ∧ d.nodes ≤ 16) (hp : fewC d) (r : Int) (hr : 2 ≤ r ∧ r ≤ 1099511627776) : ACalls Tryz.prog 119 [d.av, .d (.int .i64 r)] [] (fun av L => av = .d (.int .i64 (votes d r)) ∧ L = []) := by
  have hfl : few (ofR d.certs (r + 1)) := Nat.le_trans (List.length_filter_le ..) hd.few
  have hfp : ∀ c ∈ ofR d.certs (r + 1), few c.pars := fun c hc => hp c (List.mem_filter.1 hc).1
  (refine acalls_go ttOk zOk foOk Tryz.func119 rfl Tryz.ntmps119 rfl false rfl ?_); (conv => whnf)
  refine (anchorOf_ok d hd hn r ⟨hr.1, by omega⟩).mono ?_
  rintro _ _ ⟨rfl, rfl⟩
  obtain ⟨a, ha⟩ : ∃ a, anchorI d r = a := ⟨_, rfl⟩
  rw [votes, ha]
  conv => whnf
  refine rdw ?_; repeat' ((with_reducible apply tw) <;> intro _)
  refine (dagOf_ok d hd (r + 1) ⟨by omega, by omega⟩).mono ?_
  rintro _ _ ⟨rfl, rfl⟩
  obtain ⟨l, hl⟩ : ∃ l, ofR d.certs (r + 1) = l := ⟨_, rfl⟩
  rw [hl] at hfl hfp ⊢
  have hll := certsD_length l
  unfold few at hfl
  conv => whnf
  refine loop_go ttOk zOk foOk (σ := Nat) (fun j => ([(4, .d (.int .i64 (((l.take j).filter fun c => decide (a > 0 ∧ a ∈ c.pars)).length : Nat))), (5, .d (.int .i64 a)), (14, .d (.sl 6 (certsD l))), (15, .d (.int .i64 l.length)), (16, .d (.int .i64 j))], [])) (fun j => j ≤ l.length) (fun j => l.length - j) [4, 5, 14, 15, 16] ?_ ?_
  · conv => whnf
    exact ⟨0, by rw [hll]; rfl, rfl, Nat.zero_le _⟩
  · intro j hj
    conv => whnf
    refine rdw ?_; repeat' ((with_reducible apply tw) <;> intro _)
    · rename_i h
      obtain ⟨c, hc⟩ : ∃ c, l[j]? = some c := ⟨_, List.getElem?_eq_getElem (by omega)⟩
      refine ⟨by omega, c.cs, certsD_at hc, ?_⟩
      have hlen : ((l.take j).filter fun c => decide (a > 0 ∧ a ∈ c.pars)).length ≤ j := by
        have h1 := List.length_filter_le (fun c : Cert => decide (a > 0 ∧ a ∈ c.pars)) (l.take j)
        rw [List.length_take] at h1
        omega
      conv => whnf
      refine rdw ?_; repeat' ((with_reducible apply tw) <;> intro _)
      · rename_i ha0
        refine (contains_ok c.pars (hfp c (List.mem_of_getElem? hc)) a).mono ?_
        rintro _ _ ⟨rfl, rfl⟩
        conv => whnf
        refine rdw ?_; repeat' ((with_reducible apply tw) <;> intro _)
        · rename_i hac
          refine ⟨j + 1, ?_, rfl, by omega, by omega⟩
          rw [List.take_add_one, hc]
          simp only [Option.toList_some, List.filter_append, List.length_append, List.filter_cons, hac, ha0]
          rfl
        · rename_i hac
          refine ⟨j + 1, ?_, rfl, by omega, by omega⟩
          rw [List.take_add_one, hc]
          simp only [Option.toList_some, List.filter_append, List.length_append, List.filter_cons, hac, and_false, decide_false]
          rfl
      · rename_i ha0
        refine ⟨j + 1, ?_, rfl, by omega, by omega⟩
        rw [List.take_add_one, hc]
        simp only [Option.toList_some, List.filter_append, List.length_append, List.filter_cons, ha0, false_and, decide_false]
        rfl
    · rename_i h
      rw [List.take_of_length_le (by omega)]
      exact ⟨rfl, rfl⟩
theorem cf_ok (n : Int) (hn : 0 < n ∧ n ≤ 16) : ACalls Tryz.prog 118 [.d (.int .i64 n)] [] (fun av L => av = .d (.int .i64 ((n - 1) / 3)) ∧ L = []) := by
  (refine acalls_go ttOk zOk foOk Tryz.func118 rfl Tryz.ntmps118 rfl false rfl ?_); (conv => whnf)
  ((with_reducible apply z_wrap); (focus omega); (conv => whnf))
  refine ⟨by decide, ?_⟩
  intro z hz
  have : z = (n - 1) / 3 := by rw [hz, Int.tdiv_eq_ediv_of_nonneg (by omega), wrapI (by omega)]
  clear hz
  subst this
  conv => whnf
  exact ⟨rfl, rfl⟩
def settled (d : Dag) (r : Int) : Bool := decide ((votes d r : Int) > (d.nodes - 1) / 3)
theorem settled_ok (d : Dag) (hd : d.fit) (hn : 0 < d.nodes ∧ d.nodes ≤ 16) (hp : fewC d) (r : Int) (hr : 2 ≤ r ∧ r ≤ 1099511627776) : ACalls Tryz.prog 98 [d.av, .d (.int .i64 r)] [] (fun av L => av = .d (.bool (settled d r)) ∧ L = []) := by
  (refine acalls_go ttOk zOk foOk Tryz.func98 rfl Tryz.ntmps98 rfl false rfl ?_); (conv => whnf)
  ((with_reducible refine draw_pl ttOk zOk foOk mixedOk pl98x1 ?_ ?_); (focus kernel_rfl); (conv => whnf))
  refine rdw ?_; repeat' ((with_reducible apply tw) <;> intro _)
  refine (count_ok d hd hn hp r hr).mono ?_
  rintro _ _ ⟨rfl, rfl⟩
  conv => whnf
  refine rdw ?_; repeat' ((with_reducible apply tw) <;> intro _)
  refine (cf_ok d.nodes hn).mono ?_
  rintro _ _ ⟨rfl, rfl⟩
  conv => whnf
  refine rdw ?_; repeat' ((with_reducible apply tw) <;> intro _)
  exact ⟨rfl, rfl⟩
def nextR (d : Dag) (r : Int) : Int := if h : r ≥ topR d.certs then 0 else if settled d r then r else nextR d (r + 2)
termination_by (topR d.certs - r).toNat
theorem next_top {d : Dag} {r : Int} (h : r ≥ topR d.certs) : nextR d r = 0 := by rw [nextR, dif_pos h]
theorem next_here {d : Dag} {r : Int} (h : ¬ r ≥ topR d.certs) (h2 : settled d r = true) : nextR d r = r := by rw [nextR, dif_neg h, if_pos h2]
theorem next_on {d : Dag} {r : Int} (h : ¬ r ≥ topR d.certs) (h2 : settled d r = false) : nextR d r = nextR d (r + 2) := by rw [nextR, dif_neg h, if_neg (by simp [h2])]
def nextC (d : Dag) (after : Int) : Int := nextR d (max after (d.low - d.low % 2) + 2)
structure Dag.well (d : Dag) : Prop where
  fit : d.fit
  nodes : 0 < d.nodes ∧ d.nodes ≤ 16
  pars : fewC d
  low : 0 ≤ d.low ∧ d.low ≤ 1099511627776
  top : topR d.certs ≤ 1099511627776
  len : d.certs.length ≤ 65536
  dig : (d.certs.map (·.digest)).Nodup
  pos : ∀ c ∈ d.certs, 1 ≤ c.digest
set_option maxHeartbeats 1000000 in
theorem next_ok (d : Dag) (hw : d.well) (after : Int) (ha : 0 ≤ after ∧ after ≤ 1099511627776) : ACalls Tryz.prog 78 [d.av, .d (.int .i64 after)] [] (fun av L => av = .d (.int .i64 (nextC d after)) ∧ L = []) := by
  have hlow := hw.low
  have htop := hw.top
  (refine acalls_go ttOk zOk foOk Tryz.func78 rfl Tryz.ntmps78 rfl false rfl ?_); (conv => whnf)
  obtain ⟨r0, hr0⟩ : ∃ r0, max after (d.low - d.low % 2) + 2 = r0 := ⟨_, rfl⟩
  rw [nextC, hr0]
  refine scope_go ttOk zOk foOk (σ := Int) (fun r => ([(2, .ptr 0 0), (5, .d (.int .i64 r)), (6, .d (.int .i64 (topR d.certs)))], [.cells d.cells]))
    (fun l r => l = 0 ∧ 2 ≤ r ∧ r ≤ 2199023255552 ∧ nextR d r = nextR d r0) (fun _ r => (topR d.certs - r).toNat) ?_ ?_
  · rintro l rest hl r ⟨rfl, h1, h2, h3⟩
    have e := Option.some.inj (show some _ = some rest from hl)
    subst e
    clear hl
    rw [← h3]
    conv => whnf
    refine rdw ?_; repeat' ((with_reducible apply tw) <;> intro _)
    · rename_i h
      exact ⟨by rw [next_top h]; rfl, rfl⟩
    · rename_i h
      refine (settled_ok d hw.fit hw.nodes hw.pars r ⟨h1, by omega⟩).mono ?_
      rintro _ _ ⟨rfl, rfl⟩
      obtain ⟨b, hb⟩ : ∃ b, settled d r = b := ⟨_, rfl⟩
      rw [hb]
      conv => whnf
      refine rdw ?_; repeat' ((with_reducible apply tw) <;> intro _)
      · rename_i h4
        subst h4
        exact ⟨by rw [next_here h hb], rfl⟩
      · rename_i h4
        subst h4
        refine into_of [2, 5, 6] ?_
        conv => whnf
        exact ⟨r + 2, rfl, rfl, ⟨rfl, by omega, by omega, (next_on h hb).symm⟩, by omega⟩
  · intro pass
    conv => whnf
    refine rdw ?_; repeat' ((with_reducible apply tw) <;> intro _)
    refine ⟨by decide, ?_⟩
    intro z hz
    have : z = d.low % 2 := by rw [hz, Int.tmod_eq_emod_of_nonneg (by omega)]
    clear hz
    subst this
    conv => whnf
    refine rdw ?_; repeat' ((with_reducible apply tw) <;> intro _)
    rw [hr0]
    refine (high_ok d hw.fit.few).mono ?_
    rintro _ _ ⟨rfl, rfl⟩
    conv => whnf
    refine aw_at (σ := Unit) (fun _ => ([(2, .ptr 0 0), (5, .d (.int .i64 r0)), (6, .d (.int .i64 (topR d.certs)))], [.cells d.cells])) (fun _ => True) [2, 5, 6] ?_ ?_
    · conv => whnf
      exact ⟨(), rfl, rfl, trivial⟩
    · intro _ _
      exact pass 0 _ rfl r0 ⟨rfl, by omega, by omega, rfl⟩
def getC (l : List Cert) (x : Int) : Option Nat := l.findIdx? fun c => decide (c.digest = x)
def getI (l : List Cert) (x : Int) : Int := (getC l x).elim (-1) fun i => (i : Int)
theorem getf_ok (c : Cert) (x : Int) : ACalls Tryz.prog 123 [c.av, .ptr 0 0] [.cells [.d (.int .i64 x)]] (fun av L => av = .d (.bool (c.digest == x)) ∧ L = [.cells [.d (.int .i64 x)]]) := by
  (refine acalls_go ttOk zOk foOk Tryz.func123 rfl Tryz.ntmps123 rfl false rfl ?_); (conv => whnf)
  exact ⟨rfl, rfl⟩
theorem indexF_ok (l : List Cert) (hl : few l) (x : Int) : ACalls Tryz.prog 122 [.d (.sl 6 (certsD l)), .fn 123 [.ptr 0 0]] [.cells [.d (.int .i64 x)]] (fun av L => av = .d (.int .i64 (getI l x)) ∧ L = [.cells [.d (.int .i64 x)]]) := by
  have hll := certsD_length l
  unfold few at hl
  (refine acalls_go ttOk zOk foOk Tryz.func122 rfl Tryz.ntmps122 rfl false rfl ?_); (conv => whnf)
  refine loop_go ttOk zOk foOk (σ := Nat) (fun j => ([(1, .fn 123 [.ptr 0 0]), (0, .d (.sl 6 (certsD l))), (7, .d (.int .i64 l.length)), (8, .d (.int .i64 j))], [.cells [.d (.int .i64 x)]])) (fun j => j ≤ l.length ∧ ∀ i c, i < j → l[i]? = some c → c.digest ≠ x) (fun j => l.length - j) [1, 0, 7, 8] ?_ ?_
  · conv => whnf
    exact ⟨0, by rw [hll]; rfl, rfl, Nat.zero_le _, by omega⟩
  · rintro j ⟨h1, h2⟩
    conv => whnf
    refine rdw ?_; repeat' ((with_reducible apply tw) <;> intro _)
    · rename_i h
      obtain ⟨c, hc⟩ : ∃ c, l[j]? = some c := ⟨_, List.getElem?_eq_getElem (by omega)⟩
      refine ⟨by omega, c.cs, certsD_at hc, ?_⟩
      conv => whnf
      refine (getf_ok c x).mono ?_
      rintro _ _ ⟨rfl, rfl⟩
      conv => whnf
      refine rdw ?_; repeat' ((with_reducible apply tw) <;> intro _)
      · rename_i h3
        have : getC l x = some j := by
          unfold getC
          rw [List.findIdx?_eq_some_iff_getElem]
          refine ⟨by omega, ?_, ?_⟩
          · rw [List.getElem?_eq_getElem (by omega)] at hc
            rw [Option.some.inj hc]
            simpa using h3
          · intro i hi
            have := h2 i l[i] hi (List.getElem?_eq_getElem (by omega))
            simpa using this
        exact ⟨by rw [getI, this]; rfl, rfl⟩
      · rename_i h3
        refine ⟨j + 1, rfl, rfl, ⟨by omega, fun i c' hi hc' => ?_⟩, by omega⟩
        rcases Nat.lt_or_ge i j with h4 | h4
        · exact h2 i c' h4 hc'
        · obtain rfl : i = j := by omega
          rw [hc] at hc'; cases hc'; exact h3
    · rename_i h
      have : getC l x = none := by
        unfold getC
        rw [List.findIdx?_eq_none_iff]
        intro c hc
        obtain ⟨i, hi⟩ := List.getElem?_of_mem hc
        have hlt : i < l.length := by
          rcases Nat.lt_or_ge i l.length with h2 | h2
          · exact h2
          · rw [List.getElem?_eq_none h2] at hi; cases hi
        have := h2 i c (by omega) hi
        simpa using this
      exact ⟨by rw [getI, this]; rfl, rfl⟩
theorem get_ok (d : Dag) (hd : few d.certs) (x : Int) : ACalls Tryz.prog 100 [d.av, .d (.int .i64 x)] [] (fun av L => av = .d (.int .i64 (getI d.certs x)) ∧ L = []) := by
  (refine acalls_go ttOk zOk foOk Tryz.func100 rfl Tryz.ntmps100 rfl false rfl ?_); (conv => whnf)
  refine (indexF_ok d.certs hd x).mono ?_
  rintro _ _ ⟨rfl, rfl⟩
  conv => whnf
  exact ⟨rfl, rfl⟩
end Go.Proofs.YtmmngmnmghpfaaaGreat
namespace Go.Proofs.YtmmngmnmghpfaaaGreat
open Go.Ab Go.RowKit
def setM (ks : List Int) : List (KV × MV) := ks.map fun k => (.one (.int .i64 k), .v (.one (.bool true)))
def insS (ks : List Int) (k : Int) : List Int := if k ∈ ks then ks else ks ++ [k]
theorem mem_insS {ks : List Int} {k x : Int} : x ∈ insS ks k ↔ x ∈ ks ∨ x = k := by
  unfold insS
  split
  · rename_i h
    exact ⟨.inl, fun h2 => h2.elim id (fun e => e ▸ h)⟩
  · simp
theorem setM_find (k : Int) : ∀ (ks : List Int) (j : Nat), mfind (.one (.int .i64 k)) (setM ks) j = some (if k ∈ ks then some (j + ks.idxOf k, .v (.one (.bool true))) else none)
  | [], j => by simp [setM, mfind]
  | x :: r, j => by
    have ih := setM_find k r (j + 1)
    have e : mfind (.one (.int .i64 k)) (setM (x :: r)) j = match some (k == x) with
        | some true => some (some (j, .v (.one (.bool true))))
        | some false => mfind (.one (.int .i64 k)) (setM r) (j + 1)
        | none => none := rfl
    rw [e]
    by_cases h : k = x
    · subst h; simp
    · have hb : (k == x) = false := by simpa using h
      have hb2 : (x == k) = false := by simpa using Ne.symm h
      rw [hb, ih]
      have : List.idxOf k (x :: r) = List.idxOf k r + 1 := by rw [List.idxOf_cons, hb2]; rfl
      by_cases hm : k ∈ r
      · rw [if_pos hm, if_pos (List.mem_cons_of_mem _ hm), this, show j + 1 + List.idxOf k r = j + (List.idxOf k r + 1) by omega]
      · rw [if_neg hm, if_neg (by simp [h, hm])]
theorem setM_look (ks : List Int) (k : Int) : ∃ r, mfind (.one (.int .i64 k)) (setM ks) 0 = some r ∧ ((k ∈ ks ∧ ∃ j, r = some (j, .v (.one (.bool true)))) ∨ (k ∉ ks ∧ r = none)) := by
  refine ⟨_, setM_find k ks 0, ?_⟩
  by_cases h : k ∈ ks
  · rw [if_pos h]; exact .inl ⟨h, _, rfl⟩
  · rw [if_neg h]; exact .inr ⟨h, rfl⟩
theorem setM_put (ks : List Int) (k : Int) : ∃ r, mfind (.one (.int .i64 k)) (setM ks) 0 = some r ∧ mputAt (setM ks) r (.one (.int .i64 k)) (.v (.one (.bool true))) = setM (insS ks k) := by
  refine ⟨_, setM_find k ks 0, ?_⟩
  unfold insS
  by_cases h : k ∈ ks
  · rw [if_pos h, if_pos h]
    simp only [mputAt, Nat.zero_add]
    have hi : ks.idxOf k < ks.length := List.idxOf_lt_length_of_mem h
    refine List.ext_getElem? fun j => ?_
    by_cases hj : j = ks.idxOf k
    · subst hj
      rw [List.getElem?_set_self (by simpa [setM] using hi)]
      simp [setM, List.getElem?_map, List.getElem?_eq_getElem hi]
    · rw [List.getElem?_set_ne (Ne.symm hj)]
  · rw [if_neg h, if_neg h]
    simp [mputAt, setM]
def addS (ks ps : List Int) : List Int := ps.foldl insS ks
def downL (dl low : Int) : List Cert → List Int → List Int
  | [], _ => []
  | c :: r, ks => if c.round ≤ low then [] else if c.digest ∈ ks then c.digest :: downL dl low r (if c.round > dl + 1 then addS ks c.pars else ks) else downL dl low r ks
def downI (d : Dag) (i : Nat) (low : Int) : List Int := downL d.low low (d.certs.take (i + 1)).reverse ((d.certs[i]?).toList.map (·.digest))
theorem take_rev {α : Type} {l : List α} {k : Nat} {c : α} (h : l[k]? = some c) : (l.take (k + 1)).reverse = c :: (l.take k).reverse := by
  rw [List.take_add_one, h]; simp
structure D6 where
  (a b c d e f : DV)
def D6.cells (x : D6) : List AV := [.d x.a, .d x.b, .d x.c, .d x.d, .d x.e, .d x.f]
end Go.Proofs.YtmmngmnmghpfaaaGreat
namespace Go.Proofs.YtmmngmnmghpfaaaGreat
open Go.Ab Go.RowKit Go.MapKept
attribute [local irreducible] ACalls AW ADraw Into fltB fnear
set_option maxRecDepth 100000
def downSt (d : Dag) (low : Int) : Int × List Int × List Int × D6 → AF × List AB
  | (k, ks, out, x) => ([(2, .d (.int .i64 low)), (3, .ptr 0 0), (6, .arr 1), (7, .map 2), (8, .ptr 3 0), (9, .d (.int .i64 k))], [.cells d.cells, .row 3 1 (nums out) false, .map (setM ks), .cells x.cells])
def downInv (d : Dag) (i : Nat) (low : Int) (l : Nat) : Int × List Int × List Int × D6 → Prop
  | (k, ks, out, _) => (l = 1 ∧ -1 ≤ k ∧ k < d.certs.length ∧ out.length + (k + 1).toNat ≤ d.certs.length ∧ downI d i low = out ++ downL d.low low (d.certs.take (k + 1).toNat).reverse ks) ∨ (l = 0 ∧ downI d i low = out)
def downMu (l : Nat) : Int × List Int × List Int × D6 → Nat
  | (k, _, _, _) => if l = 1 then (k + 1).toNat + 1 else 0
def parSt (d : Dag) (low k : Int) (out : List Int) (c : Cert) (ks : List Int) (j : Nat) : AF × List AB :=
  ([(2, .d (.int .i64 low)), (3, .ptr 0 0), (6, .arr 1), (7, .map 2), (8, .ptr 3 0), (9, .d (.int .i64 k)), (54, .d (.sl 1 (nums c.pars))), (55, .d (.int .i64 c.pars.length)), (56, .d (.int .i64 j))], [.cells d.cells, .row 3 1 (nums out) false, .map (setM (addS ks (c.pars.take j))), .cells c.cells])
set_option maxHeartbeats 2000000 in
theorem down_ok (d : Dag) (hd : d.certs.length ≤ 65536) (hp : fewC d) (hlow : 0 ≤ d.low ∧ d.low ≤ 1099511627776) (i : Nat) (hi : i < d.certs.length) (low : Int) : ACalls Tryz.prog 125 [d.av, .d (.int .i64 i), .d (.int .i64 low)] [] (fun av L => av = .arr 0 ∧ L = [.row 3 1 (nums (downI d i low)) false]) := by
  have hcl := certsD_length d.certs
  obtain ⟨c0, hc0⟩ : ∃ c, d.certs[i]? = some c := ⟨_, List.getElem?_eq_getElem hi⟩
  (refine acalls_go ttOk zOk foOk Tryz.func125 rfl Tryz.ntmps125 rfl true rfl ?_); (conv => whnf)
  refine scope_go ttOk zOk foOk (σ := Int × List Int × List Int × D6) (downSt d low) (downInv d i low) downMu ?_ ?_
  · rintro l rest hl ⟨k, ks, out, ⟨x1, x2, x3, x4, x5, x6⟩⟩ hh
    rcases hh with ⟨rfl, h1, h2, h3, h4⟩ | ⟨rfl, h4⟩
    · have e := Option.some.inj (show some _ = some rest from hl)
      subst e
      clear hl
      conv => whnf
      refine rdz ?_; repeat' ((with_reducible apply tw) <;> intro _)
      · rename_i h
        refine into_of [2, 3, 6, 7, 8, 9] ?_
        conv => whnf
        refine ⟨(k, ks, out, ⟨_, _, _, _, _, _⟩), rfl, rfl, .inr ⟨rfl, ?_⟩, by show 0 < (k + 1).toNat + 1; omega⟩
        rw [h4, show (k + 1).toNat = 0 by omega]
        simp [downL]
      · rename_i h
        obtain ⟨m, hm⟩ : ∃ m : Nat, k = m := ⟨k.toNat, by omega⟩
        subst hm
        obtain ⟨c, hc⟩ : ∃ c, d.certs[m]? = some c := ⟨_, List.getElem?_eq_getElem (by omega)⟩
        have hpf := hp c (List.mem_of_getElem? hc)
        have hpl := nums_length c.pars
        unfold few at hpf
        rw [show ((m : Int) + 1).toNat = m + 1 by omega, take_rev hc] at h4
        refine ⟨by omega, c.cs, certsD_at hc, ?_⟩
        conv => whnf
        refine rdz ?_; repeat' ((with_reducible apply tw) <;> intro _)
        · rename_i h5
          refine into_of [2, 3, 6, 7, 8, 9] ?_
          conv => whnf
          refine ⟨(m, ks, out, ⟨_, _, _, _, _, _⟩), rfl, rfl, .inr ⟨rfl, ?_⟩, by show 0 < ((m : Int) + 1).toNat + 1; omega⟩
          rw [h4, downL, if_pos h5, List.append_nil]
        · rename_i h5
          rw [downL, if_neg h5] at h4
          obtain ⟨q, hq, hq2⟩ := setM_look ks c.digest
          refine ⟨q, hq, ?_⟩
          have hmu : ∀ z : Int × List Int × List Int × D6, z.1 = (m : Int) - 1 → downMu 1 z < downMu 1 ((m : Int), ks, out, D6.mk x1 x2 x3 x4 x5 x6) := by
            rintro ⟨a, _, _, _⟩ hz
            replace hz : a = (m : Int) - 1 := hz
            subst hz
            show ((m : Int) - 1 + 1).toNat + 1 < ((m : Int) + 1).toNat + 1
            omega
          rcases hq2 with ⟨hin, j, rfl⟩ | ⟨hin, rfl⟩
          · rw [if_pos hin] at h4
            conv => whnf
            refine ⟨by rw [nums_length, List.length_singleton]; show (out.length + 1) * 8 ≤ _; omega, ?_⟩
            conv => whnf
            rw [nums_app]
            refine rdz ?_; repeat' ((with_reducible apply tw) <;> intro _)
            · rename_i h6
              rw [if_pos h6] at h4
              refine loop_go ttOk zOk foOk (σ := Nat) (parSt d low ((m : Int) - 1) (out ++ [c.digest]) c ks) (fun j => j ≤ c.pars.length) (fun j => c.pars.length - j) [2, 3, 6, 7, 8, 9, 54, 55, 56] ?_ ?_
              · conv => whnf
                refine ⟨0, ?_, ?_, Nat.zero_le _⟩
                · rw [hpl]; rfl
                · rfl
              · intro j hj
                conv => whnf
                refine rdz ?_; repeat' ((with_reducible apply tw) <;> intro _)
                · rename_i h7
                  obtain ⟨x, hx⟩ : ∃ x, c.pars[j]? = some x := ⟨_, List.getElem?_eq_getElem (by omega)⟩
                  refine ⟨by omega, [.int .i64 x], nums_at hx, ?_⟩
                  conv => whnf
                  obtain ⟨q, hq, hq2⟩ := setM_put (addS ks (c.pars.take j)) x
                  refine ⟨q, hq, ?_⟩
                  rw [show mputAt (setM (addS ks (c.pars.take j))) q (.one (.int .i64 x)) (.v (.one (avOf1 (Value.bool true)))) = setM (addS ks (c.pars.take (j + 1))) by rw [List.take_add_one, hx]; simp only [addS, Option.toList_some, List.foldl_append, List.foldl_cons, List.foldl_nil]; exact hq2]
                  conv => whnf
                  refine rdz ?_; repeat' ((with_reducible apply tw) <;> intro _)
                  exact ⟨j + 1, rfl, rfl, by omega, by omega⟩
                · rename_i h7
                  obtain rfl : j = c.pars.length := by omega
                  refine into_of [2, 3, 6, 7, 8, 9] ?_
                  conv => whnf
                  rw [List.take_length]
                  refine ⟨((m : Int) - 1, addS ks c.pars, out ++ [c.digest], ⟨_, _, _, _, _, _⟩), rfl, rfl, .inl ⟨rfl, by omega, by omega, by rw [List.length_append, List.length_singleton]; omega, ?_⟩, hmu _ rfl⟩
                  rw [h4, show ((m : Int) - 1 + 1).toNat = m by omega, List.append_assoc]
                  rfl
            · rename_i h6
              rw [if_neg h6] at h4
              refine into_of [2, 3, 6, 7, 8, 9] ?_
              conv => whnf
              refine ⟨((m : Int) - 1, ks, out ++ [c.digest], ⟨_, _, _, _, _, _⟩), rfl, rfl, .inl ⟨rfl, by omega, by omega, by rw [List.length_append, List.length_singleton]; omega, ?_⟩, hmu _ rfl⟩
              rw [h4, show ((m : Int) - 1 + 1).toNat = m by omega, List.append_assoc]
              rfl
          · rw [if_neg hin] at h4
            conv => whnf
            refine rdz ?_; repeat' ((with_reducible apply tw) <;> intro _)
            refine into_of [2, 3, 6, 7, 8, 9] ?_
            conv => whnf
            refine ⟨((m : Int) - 1, ks, out, ⟨_, _, _, _, _, _⟩), rfl, rfl, .inl ⟨rfl, by omega, by omega, by omega, ?_⟩, hmu _ rfl⟩
            rw [h4, show ((m : Int) - 1 + 1).toNat = m by omega]
    · have e := Option.some.inj (show some _ = some rest from hl)
      subst e
      clear hl
      rw [h4]
      conv => whnf
      exact ⟨rfl, rfl⟩
  · intro pass
    conv => whnf
    refine rdz ?_; repeat' ((with_reducible apply tw) <;> intro _)
    refine ⟨by omega, c0.cs, certsD_at hc0, ?_⟩
    conv => whnf
    refine ⟨none, rfl, ?_⟩
    conv => whnf
    have hstart : downInv d i low 1 ((i : Int), [c0.digest], [], ⟨.int .i64 0, .int .i64 0, .nils, .nils, .int .i64 0, .nils⟩) := by
      refine .inl ⟨rfl, by omega, by omega, by show 0 + ((i : Int) + 1).toNat ≤ _; omega, ?_⟩
      rw [downI, hc0, show ((i : Int) + 1).toNat = i + 1 by omega]
      rfl
    refine aw_at (σ := Unit) (fun _ => downSt d low ((i : Int), [c0.digest], [], ⟨.int .i64 0, .int .i64 0, .nils, .nils, .int .i64 0, .nils⟩)) (fun _ => True) [2, 3, 6, 7, 8, 9] ?_ ?_
    · conv => whnf
      exact ⟨(), rfl, rfl, trivial⟩
    · intro _ _
      exact pass 1 _ rfl _ hstart
def reachI (d : Dag) (i j : Nat) (c : Cert) : Bool := decide (c.digest ∈ downI d i (c.round - 1))
theorem down_len (dl low : Int) : ∀ (l : List Cert) (ks : List Int), (downL dl low l ks).length ≤ l.length
  | [], _ => Nat.le_refl _
  | c :: r, ks => by
    unfold downL
    split
    · exact Nat.zero_le _
    · split
      · have := down_len dl low r (if c.round > dl + 1 then addS ks c.pars else ks)
        simp only [List.length_cons]; omega
      · have := down_len dl low r ks
        simp only [List.length_cons]; omega
theorem downI_len (d : Dag) (i : Nat) (low : Int) : (downI d i low).length ≤ d.certs.length := by
  have := down_len d.low low (d.certs.take (i + 1)).reverse ((d.certs[i]?).toList.map (·.digest))
  rw [List.length_reverse, List.length_take] at this
  unfold downI
  omega
theorem reaches_ok (d : Dag) (hd : d.certs.length ≤ 65536) (hp : fewC d) (hlow : 0 ≤ d.low ∧ d.low ≤ 1099511627776) (i j : Nat) (hi : i < d.certs.length) {c : Cert} (hj : d.certs[j]? = some c) (hr : isF c.round) : ACalls Tryz.prog 101 [d.av, .d (.int .i64 i), .d (.int .i64 j)] [] (fun av L => av = .d (.bool (reachI d i j c)) ∧ L = []) := by
  have hjl : j < d.certs.length := by
    rcases Nat.lt_or_ge j d.certs.length with h | h
    · exact h
    · rw [List.getElem?_eq_none h] at hj; cases hj
  have hr1 := hr.1
  have hr2 := hr.2
  have hlen := downI_len d i (c.round - 1)
  (refine acalls_go ttOk zOk foOk Tryz.func101 rfl Tryz.ntmps101 rfl false rfl ?_); (conv => whnf)
  ((with_reducible refine draw_pl ttOk zOk foOk mixedOk pl101x1 ?_ ?_); (focus kernel_rfl); (conv => whnf))
  refine rdw ?_; repeat' ((with_reducible apply tw) <;> intro _)
  ((with_reducible apply rd_intro); (focus (intro K hK; (conv => whnf); exact ⟨by omega, c.cs, certsD_at hj, hK⟩)); (conv => whnf))
  refine rdw ?_; repeat' ((with_reducible apply tw) <;> intro _)
  ((with_reducible apply rd_intro); (focus (intro K hK; (conv => whnf); exact ⟨by omega, c.cs, certsD_at hj, hK⟩)); (conv => whnf))
  refine rdw ?_; repeat' ((with_reducible apply tw) <;> intro _)
  refine (down_ok d hd hp hlow i hi (c.round - 1)).mono ?_
  rintro _ _ ⟨rfl, rfl⟩
  conv => whnf
  refine rdw ?_; repeat' ((with_reducible apply tw) <;> intro _)
  ((with_reducible apply gd_and); (focus ((conv => whnf); intro K hK; (conv => whnf); exact ⟨by omega, c.cs, certsD_at hj, hK⟩)); (conv => whnf))
  refine rdw ?_; repeat' ((with_reducible apply tw) <;> intro _)
  (refine Or.inl ?_; (conv => whnf))
  refine (contains_ok (downI d i (c.round - 1)) (by unfold few; omega) c.digest).mono ?_
  rintro _ _ ⟨rfl, rfl⟩
  conv => whnf
  refine rdw ?_; repeat' ((with_reducible apply tw) <;> intro _)
  exact ⟨rfl, rfl⟩
def revI (l : List Int) (i : Nat) : List Int := (List.range l.length).map fun m => if m < i ∨ l.length ≤ m + i then l.getD (l.length - 1 - m) 0 else l.getD m 0
theorem revI_len (l : List Int) (i : Nat) : (revI l i).length = l.length := by simp [revI]
theorem revI_zero (l : List Int) : revI l 0 = l := by
  refine List.ext_getElem? fun m => ?_
  simp only [revI, List.getElem?_map]
  rcases Nat.lt_or_ge m l.length with h | h
  · rw [List.getElem?_range h, List.getElem?_eq_getElem h]
    simp [Nat.not_le.2 h, List.getD_eq_getElem?_getD, h]
  · rw [List.getElem?_eq_none (by simpa using h), List.getElem?_eq_none h]; rfl
theorem revI_at (l : List Int) (i m : Nat) (h : m < l.length) : (revI l i)[m]? = some (if m < i ∨ l.length ≤ m + i then l.getD (l.length - 1 - m) 0 else l.getD m 0) := by
  simp only [revI, List.getElem?_map, List.getElem?_range h, Option.map_some]
theorem revI_succ (l : List Int) (i : Nat) (h : 2 * i + 1 < l.length) : revI l (i + 1) = ((revI l i).set i (l.getD (l.length - 1 - i) 0)).set (l.length - 1 - i) (l.getD i 0) := by
  refine List.ext_getElem? fun m => ?_
  rcases Nat.lt_or_ge m l.length with hm | hm
  · rw [revI_at l (i + 1) m hm]
    by_cases h1 : m = l.length - 1 - i
    · subst h1
      rw [List.getElem?_set_self (by rw [List.length_set, revI_len]; omega), if_pos (.inr (by omega))]
      congr 2
      omega
    · rw [List.getElem?_set_ne (Ne.symm h1)]
      by_cases h2 : m = i
      · subst h2
        rw [List.getElem?_set_self (by rw [revI_len]; omega), if_pos (.inl (by omega))]
      · rw [List.getElem?_set_ne (Ne.symm h2), revI_at l i m hm]
        by_cases h3 : m < i ∨ l.length ≤ m + i
        · rw [if_pos h3, if_pos (by omega)]
        · rw [if_neg h3, if_neg (by omega)]
  · rw [List.getElem?_eq_none (by rw [revI_len]; exact hm), List.getElem?_eq_none (by rw [List.length_set, List.length_set, revI_len]; exact hm)]
theorem revI_end (l : List Int) (i : Nat) (h : l.length ≤ 2 * i + 1) : revI l i = l.reverse := by
  refine List.ext_getElem? fun m => ?_
  rcases Nat.lt_or_ge m l.length with hm | hm
  · rw [revI_at l i m hm, List.getElem?_reverse hm, List.getElem?_eq_getElem (show l.length - 1 - m < l.length by omega)]
    congr 1
    by_cases h3 : m < i ∨ l.length ≤ m + i
    · rw [if_pos h3]
      simp [List.getD_eq_getElem?_getD, show l.length - 1 - m < l.length by omega]
    · rw [if_neg h3]
      have : l.length - 1 - m = m := by omega
      simp only [this]
      simp [List.getD_eq_getElem?_getD, hm]
  · rw [List.getElem?_eq_none (by rw [revI_len]; exact hm), List.getElem?_eq_none (by rw [List.length_reverse]; exact hm)]
theorem reverse_ok (l : List Int) (hl : l.length ≤ 4398046511104) : ACalls Tryz.prog 102 [.arr 0] [.row 3 1 (nums l) false] (fun av L => av = .tup [] ∧ L = [.row 3 1 (nums l.reverse) false]) := by
  have hll := nums_length l
  (refine acalls_go ttOk zOk foOk Tryz.func102 rfl Tryz.ntmps102 rfl true rfl ?_); (conv => whnf)
  refine rdw ?_; repeat' ((with_reducible apply tw) <;> intro _)
  refine loop_go ttOk zOk foOk (σ := Nat) (fun i => ([(0, .arr 0), (2, .d (.int .i64 i)), (3, .d (.int .i64 ((l.length : Int) - 1 - i)))], [.row 3 1 (nums (revI l i)) false])) (fun i => i ≤ l.length) (fun i => l.length - i) [0, 2, 3] ?_ ?_
  · conv => whnf
    refine ⟨0, ?_, ?_, Nat.zero_le _⟩
    · rw [hll, show (l.length : Int) - 1 - ((0 : Nat) : Int) = (l.length : Int) - 1 by omega]
      rfl
    · rw [revI_zero]
  · intro i hi
    have hrl : (nums (revI l i)).length = l.length := by rw [nums_length, revI_len]
    conv => whnf
    refine rdw ?_; repeat' ((with_reducible apply tw) <;> intro _)
    · rename_i h
      ((with_reducible refine draw_pl ttOk zOk foOk mixedOk pl102x3 ?_ ?_); (focus kernel_rfl); (conv => whnf))
      refine rdw ?_; repeat' ((with_reducible apply tw) <;> intro _)
      have h2 : 2 * i + 1 < l.length := by omega
      have hgi : (nums (revI l i))[((i : Int)).toNat]? = some [.int .i64 (l.getD i 0)] := by
        rw [Int.toNat_natCast]
        exact nums_at (by rw [revI_at l i i (by omega), if_neg (by omega)])
      have hgj : (nums (revI l i))[((l.length : Int) - 1 - i).toNat]? = some [.int .i64 (l.getD (l.length - 1 - i) 0)] := by
        rw [show ((l.length : Int) - 1 - i).toNat = l.length - 1 - i by omega]
        exact nums_at (by rw [revI_at l i _ (by omega), if_neg (by omega)])
      ((with_reducible apply rd_intro); (focus (intro K hK; (conv => whnf); exact ⟨by omega, by omega, hK⟩)); (conv => whnf))
      refine rdw ?_; repeat' ((with_reducible apply tw) <;> intro _)
      ((with_reducible apply rd_intro); (focus (intro K hK; (conv => whnf); exact ⟨_, hgj, hK⟩)); (conv => whnf))
      refine rdw ?_; repeat' ((with_reducible apply tw) <;> intro _)
      ((with_reducible apply rd_intro); (focus (intro K hK; (conv => whnf); exact ⟨by omega, by omega, hK⟩)); (conv => whnf))
      refine rdw ?_; repeat' ((with_reducible apply tw) <;> intro _)
      ((with_reducible apply rd_intro); (focus (intro K hK; (conv => whnf); exact ⟨_, hgi, hK⟩)); (conv => whnf))
      refine rdw ?_; repeat' ((with_reducible apply tw) <;> intro _)
      ((with_reducible apply rd_intro); (focus (intro K hK; (conv => whnf); exact ⟨by omega, by omega, hK⟩)); (conv => whnf))
      refine rdw ?_; repeat' ((with_reducible apply tw) <;> intro _)
      refine ⟨_, hgi, ?_⟩
      conv => whnf
      refine rdw ?_; repeat' ((with_reducible apply tw) <;> intro _)
      ((with_reducible apply rd_intro); (focus (intro K hK; (conv => whnf); exact ⟨by omega, by rw [List.length_set]; omega, hK⟩)); (conv => whnf))
      refine rdw ?_; repeat' ((with_reducible apply tw) <;> intro _)
      refine ⟨_, by rw [List.getElem?_set_ne (by omega)]; exact hgj, ?_⟩
      conv => whnf
      refine rdw ?_; repeat' ((with_reducible apply tw) <;> intro _)
      have hnew : (((nums (revI l i)).set (i : Int).toNat [.int .i64 (l.getD (l.length - 1 - i) 0)]).set ((l.length : Int) - 1 - i).toNat [.int .i64 (l.getD i 0)]) = nums (revI l (i + 1)) := by
        rw [revI_succ l i h2, Int.toNat_natCast, show ((l.length : Int) - 1 - i).toNat = l.length - 1 - i by omega]
        simp [nums, List.map_set]
      rw [hnew]
      exact ⟨i + 1, by rw [show (l.length : Int) - 1 - i - 1 = (l.length : Int) - 1 - ((i + 1 : Nat) : Int) by omega]; rfl, rfl, by omega, by omega⟩
    · rename_i h
      rw [revI_end l i (by omega)]
      exact ⟨rfl, rfl⟩
def riseI (d : Dag) (i : Nat) (low : Int) : List Int := (downI d i low).reverse
theorem rise_ok (d : Dag) (hd : d.certs.length ≤ 65536) (hp : fewC d) (hlow : 0 ≤ d.low ∧ d.low ≤ 1099511627776) (i : Nat) (hi : i < d.certs.length) (low : Int) : ACalls Tryz.prog 126 [d.av, .d (.int .i64 i), .d (.int .i64 low)] [] (fun av L => av = .arr 0 ∧ L = [.row 3 1 (nums (riseI d i low)) false]) := by
  have hlen := downI_len d i low
  (refine acalls_go ttOk zOk foOk Tryz.func126 rfl Tryz.ntmps126 rfl true rfl ?_); (conv => whnf)
  refine (down_ok d hd hp hlow i hi low).mono ?_
  rintro _ _ ⟨rfl, rfl⟩
  conv => whnf
  refine rdw ?_; repeat' ((with_reducible apply tw) <;> intro _)
  (refine Or.inr ?_; (conv => whnf))
  refine (reverse_ok (downI d i low) (by omega)).mono ?_
  rintro _ _ ⟨rfl, rfl⟩
  conv => whnf
  exact ⟨rfl, rfl⟩
theorem isNaNi_ok (x : Int) : ACalls Tryz.prog 131 [.d (.int .i64 x)] [] (fun av L => av = .d (.bool false) ∧ L = []) := by
  (refine acalls_go ttOk zOk foOk Tryz.func131 rfl Tryz.ntmps131 rfl false rfl ?_); (conv => whnf)
  refine ⟨?_, rfl⟩
  show AV.d (.bool (x != x)) = _
  rw [bne_self_eq_false]
theorem isNaNs_ok (x : Int) : ACalls Tryz.prog 142 [.d (.int .i64 x)] [] (fun av L => av = .d (.bool false) ∧ L = []) := by
  (refine acalls_go ttOk zOk foOk Tryz.func142 rfl Tryz.ntmps142 rfl false rfl ?_); (conv => whnf)
  refine ⟨?_, rfl⟩
  show AV.d (.bool (x != x)) = _
  rw [bne_self_eq_false]
theorem lessi_ok (x y : Int) : ACalls Tryz.prog 141 [.d (.int .i64 x), .d (.int .i64 y)] [] (fun av L => av = .d (.bool (decide (x < y))) ∧ L = []) := by
  (refine acalls_go ttOk zOk foOk Tryz.func141 rfl Tryz.ntmps141 rfl false rfl ?_); (conv => whnf)
  refine (isNaNi_ok x).mono ?_
  rintro _ _ ⟨rfl, rfl⟩
  conv => whnf
  exact ⟨rfl, rfl⟩
def risingI (l : List Int) : Prop := l.Pairwise (· < ·)
theorem bsearchI_ok (l : List Int) (hl : few l) (hs : risingI l) (x : Int) : ACalls Tryz.prog 127 [.d (.sl 1 (nums l)), .d (.int .i64 x)] [] (fun av L => (∃ z : Int, av = .tup [.d (.int .i64 z), .d (.bool (decide (x ∈ l)))]) ∧ L = []) := by
  have hll := nums_length l
  unfold few at hl
  have hmono : ∀ (i j : Nat) (a b : Int), i < j → l[i]? = some a → l[j]? = some b → a < b := by
    intro i j a b hij ha hb
    have hj : j < l.length := by
      rcases Nat.lt_or_ge j l.length with h | h
      · exact h
      · rw [List.getElem?_eq_none h] at hb; cases hb
    rw [List.getElem?_eq_getElem (by omega)] at ha hb
    cases ha; cases hb
    exact List.pairwise_iff_getElem.1 hs i j (by omega) hj hij
  (refine acalls_go ttOk zOk foOk Tryz.func127 rfl Tryz.ntmps127 rfl false rfl ?_); (conv => whnf)
  refine loop_go ttOk zOk foOk (σ := Nat × Nat) (fun | (i, j) => ([(0, .d (.sl 1 (nums l))), (1, .d (.int .i64 x)), (6, .d (.int .i64 l.length)), (7, .d (.int .i64 i)), (8, .d (.int .i64 j))], [])) (fun s => s.1 ≤ s.2 ∧ s.2 ≤ l.length ∧ (∀ m a, m < s.1 → l[m]? = some a → a < x) ∧ (∀ m a, s.2 ≤ m → l[m]? = some a → x ≤ a)) (fun s => s.2 - s.1) [0, 1, 6, 7, 8] ?_ ?_
  · conv => whnf
    refine ⟨(0, l.length), by rw [hll]; rfl, rfl, Nat.zero_le _, Nat.le_refl _, by omega, ?_⟩
    intro m a hm ha
    rw [List.getElem?_eq_none hm] at ha; cases ha
  · rintro ⟨i, j⟩ ⟨h1, h2, h3, h4⟩
    simp only at h1 h2 h3 h4
    conv => whnf
    refine rdw ?_; repeat' ((with_reducible apply tw) <;> intro _)
    · rename_i hij
      intro z hz
      conv => whnf
      refine ⟨by decide, ?_⟩
      intro z1 hz1
      conv => whnf
      intro z2 hz2
      have hh := half (by omega) (by omega) hz hz1 hz2
      subst hh
      clear hz hz1 hz2
      obtain ⟨h, hh⟩ : ∃ h, (i + j) / 2 = h := ⟨_, rfl⟩
      rw [hh]
      obtain ⟨a, ha⟩ : ∃ a, l[h]? = some a := ⟨_, List.getElem?_eq_getElem (by omega)⟩
      conv => whnf
      refine ⟨by omega, [.int .i64 a], nums_at ha, ?_⟩
      conv => whnf
      refine rdw ?_; repeat' ((with_reducible apply tw) <;> intro _)
      refine (lessi_ok a x).mono ?_
      rintro _ _ ⟨rfl, rfl⟩
      conv => whnf
      refine rdw ?_; repeat' ((with_reducible apply tw) <;> intro _)
      · rename_i hn
        exact ⟨(h + 1, j), rfl, rfl, ⟨by show h + 1 ≤ j; omega, h2, fun m b hm hb => by
          rcases Nat.lt_or_ge m h with h5 | h5
          · have := hmono m h b a h5 hb ha; omega
          · have : m = h := by have : m < h + 1 := hm; omega
            subst this; rw [ha] at hb; cases hb; exact hn, h4⟩, by show j - (h + 1) < j - i; omega⟩
      · rename_i hn
        exact ⟨(i, h), rfl, rfl, ⟨by show i ≤ h; omega, by show h ≤ _; omega, h3, fun m b hm hb => by
          rcases Nat.lt_or_ge h m with h5 | h5
          · have := hmono h m a b h5 ha hb; omega
          · have : m = h := by have : h ≤ m := hm; omega
            subst this; rw [ha] at hb; cases hb; omega⟩, by show h - i < j - i; omega⟩
    · rename_i hij hlt
      obtain rfl : i = j := by omega
      obtain ⟨a, ha⟩ : ∃ a, l[i]? = some a := ⟨_, List.getElem?_eq_getElem (by omega)⟩
      have hmem : x ∈ l ↔ a = x := by
        constructor
        · intro hx
          obtain ⟨m, hm⟩ := List.getElem?_of_mem hx
          rcases Nat.lt_trichotomy m i with h5 | h5 | h5
          · have := h3 m x h5 hm; omega
          · subst h5; rw [ha] at hm; cases hm; rfl
          · have h6 := hmono i m a x h5 ha hm
            have h7 := h4 i a (Nat.le_refl _) ha
            omega
        · intro e; rw [← e]; exact List.mem_of_getElem? ha
      refine ⟨by omega, [.int .i64 a], nums_at ha, ?_⟩
      conv => whnf
      refine rdw ?_; repeat' ((with_reducible apply tw) <;> intro _)
      · rename_i he
        exact ⟨⟨_, by rw [decide_eq_true (hmem.2 he)]; rfl⟩, rfl⟩
      · rename_i he
        refine ⟨by omega, [.int .i64 a], nums_at ha, ?_⟩
        conv => whnf
        refine (isNaNs_ok a).mono ?_
        rintro _ _ ⟨rfl, rfl⟩
        conv => whnf
        exact ⟨⟨_, by rw [decide_eq_false (fun h => he (hmem.1 h))]; rfl⟩, rfl⟩
    · rename_i hij hlt
      obtain rfl : i = j := by omega
      have hmem : ¬ x ∈ l := by
        intro hx
        obtain ⟨m, hm⟩ := List.getElem?_of_mem hx
        rcases Nat.lt_or_ge m l.length with h5 | h5
        · have := h3 m x (by omega) hm; omega
        · rw [List.getElem?_eq_none h5] at hm; cases hm
      exact ⟨⟨_, by rw [decide_eq_false hmem]; rfl⟩, rfl⟩
def behindI (d : Dag) (i : Nat) (r : Int) (done : List Int) : List Int := (riseI d i (r - 8)).filter fun x => !decide (x ∈ done)
theorem rise_len (d : Dag) (i : Nat) (low : Int) : (riseI d i low).length ≤ d.certs.length := by
  unfold riseI
  rw [List.length_reverse]
  exact downI_len d i low
set_option maxHeartbeats 1000000 in
theorem behind_ok (d : Dag) (hd : d.certs.length ≤ 65536) (hp : fewC d) (hlow : 0 ≤ d.low ∧ d.low ≤ 1099511627776) (i : Nat) {c : Cert} (hi : d.certs[i]? = some c) (hr : isF c.round) (done : List Int) (hdn : few done) (hs : risingI done) :
    ACalls Tryz.prog 103 [d.av, .d (.int .i64 i), .d (.sl 1 (nums done))] [] (fun av L => av = .arr 0 ∧ L = [.row 3 1 (nums (behindI d i c.round done)) false]) := by
  have hil : i < d.certs.length := by
    rcases Nat.lt_or_ge i d.certs.length with h | h
    · exact h
    · rw [List.getElem?_eq_none h] at hi; cases hi
  have hr1 := hr.1
  have hr2 := hr.2
  have hrl := rise_len d i (c.round - 8)
  (refine acalls_go ttOk zOk foOk Tryz.func103 rfl Tryz.ntmps103 rfl true rfl ?_); (conv => whnf)
  ((with_reducible refine draw_pl ttOk zOk foOk mixedOk pl103x1 ?_ ?_); (focus kernel_rfl); (conv => whnf))
  refine rdw ?_; repeat' ((with_reducible apply tw) <;> intro _)
  ((with_reducible apply rd_intro); (focus (intro K hK; (conv => whnf); exact ⟨by omega, c.cs, certsD_at hi, hK⟩)); (conv => whnf))
  refine rdw ?_; repeat' ((with_reducible apply tw) <;> intro _)
  refine (rise_ok d hd hp hlow i hil (c.round - 8)).mono ?_
  rintro _ _ ⟨rfl, rfl⟩
  rw [behindI]
  obtain ⟨l, hl⟩ : ∃ l, riseI d i (c.round - 8) = l := ⟨_, rfl⟩
  rw [hl] at hrl ⊢
  have hll := nums_length l
  conv => whnf
  refine rdw ?_; repeat' ((with_reducible apply tw) <;> intro _)
  refine loop_go ttOk zOk foOk (σ := Nat) (fun j => ([(2, .d (.sl 1 (nums done))), (6, .arr 0), (21, .arr 1), (22, .d (.int .i64 l.length)), (23, .d (.int .i64 j))], [.row 3 1 (nums ((l.take j).filter fun x => !decide (x ∈ done))) false, .row 3 1 (nums l) false])) (fun j => j ≤ l.length) (fun j => l.length - j) [2, 6, 21, 22, 23] ?_ ?_
  · conv => whnf
    exact ⟨0, by rw [hll]; rfl, rfl, Nat.zero_le _⟩
  · intro j hj
    conv => whnf
    refine rdw ?_; repeat' ((with_reducible apply tw) <;> intro _)
    · rename_i h
      obtain ⟨x, hx⟩ : ∃ x, l[j]? = some x := ⟨_, List.getElem?_eq_getElem (by omega)⟩
      refine ⟨by omega, by rw [Int.toNat_natCast]; omega, ?_⟩
      conv => whnf
      refine ⟨_, by rw [Int.toNat_natCast]; exact nums_at hx, ?_⟩
      conv => whnf
      refine rdw ?_; repeat' ((with_reducible apply tw) <;> intro _)
      refine (bsearchI_ok done hdn hs x).mono ?_
      rintro _ _ ⟨⟨z, rfl⟩, rfl⟩
      obtain ⟨b, hb⟩ : ∃ b, decide (x ∈ done) = b := ⟨_, rfl⟩
      rw [hb]
      conv => whnf
      refine rdw ?_; repeat' ((with_reducible apply tw) <;> intro _)
      · rename_i h2
        subst h2
        have hfl := List.length_filter_le (fun x => !decide (x ∈ done)) (l.take j)
        rw [List.length_take] at hfl
        refine ⟨by rw [nums_length, List.length_singleton]; show (_ + 1) * 8 ≤ _; omega, ?_⟩
        conv => whnf
        rw [nums_app]
        refine rdw ?_; repeat' ((with_reducible apply tw) <;> intro _)
        refine ⟨j + 1, rfl, ?_, by omega, by omega⟩
        rw [List.take_add_one, hx]
        simp only [Option.toList_some, List.filter_append, List.filter_cons, hb]
        rfl
      · rename_i h2
        subst h2
        refine ⟨j + 1, rfl, ?_, by omega, by omega⟩
        rw [List.take_add_one, hx]
        simp only [Option.toList_some, List.filter_append, List.filter_cons, hb]
        simp
    · rename_i h
      rw [List.take_of_length_le (by omega)]
      exact ⟨rfl, rfl⟩
def reachJ (d : Dag) (i j : Nat) : Bool := match d.certs[j]? with | some c => reachI d i j c | none => false
def backR (d : Dag) (after : Int) (r : Int) (i : Nat) : List Int :=
  if h : r - 2 ≤ after ∨ r - 2 ≤ d.low then [] else
  if anchorI d (r - 2) = 0 then backR d after (r - 2) i else
  match getC d.certs (anchorI d (r - 2)) with
  | none => []
  | some j => if reachJ d i j = true then anchorI d (r - 2) :: backR d after (r - 2) j else backR d after (r - 2) i
termination_by (r - after).toNat
theorem back_end {d : Dag} {after r : Int} {i : Nat} (h : r - 2 ≤ after ∨ r - 2 ≤ d.low) : backR d after r i = [] := by rw [backR, dif_pos h]
theorem back_no {d : Dag} {after r : Int} {i : Nat} (h : ¬ (r - 2 ≤ after ∨ r - 2 ≤ d.low)) (h2 : anchorI d (r - 2) = 0) : backR d after r i = backR d after (r - 2) i := by rw [backR, dif_neg h, if_pos h2]
theorem back_yes {d : Dag} {after r : Int} {i j : Nat} (h : ¬ (r - 2 ≤ after ∨ r - 2 ≤ d.low)) (h2 : anchorI d (r - 2) ≠ 0) (h3 : getC d.certs (anchorI d (r - 2)) = some j) : backR d after r i = if reachJ d i j = true then anchorI d (r - 2) :: backR d after (r - 2) j else backR d after (r - 2) i := by rw [backR, dif_neg h, if_neg h2, h3]
def backI (d : Dag) (after r : Int) : List Int := (anchorI d r :: backR d after r ((getC d.certs (anchorI d r)).getD 0)).reverse
theorem anchor_get {d : Dag} {r : Int} (h : anchorI d r ≠ 0) : ∃ j c, getC d.certs (anchorI d r) = some j ∧ d.certs[j]? = some c ∧ c.digest = anchorI d r ∧ j < d.certs.length := by
  unfold anchorI at h ⊢
  cases hc : atC d.certs r (leadI d.nodes r) with
  | none => rw [hc] at h; exact absurd rfl h
  | some c =>
    show ∃ j c', getC d.certs c.digest = some j ∧ _
    have hm : c ∈ d.certs := List.mem_of_find?_eq_some hc
    cases hg : getC d.certs c.digest with
    | none =>
      unfold getC at hg
      rw [List.findIdx?_eq_none_iff] at hg
      have := hg c hm
      simp at this
    | some j =>
      have hg2 := hg
      unfold getC at hg2
      rw [List.findIdx?_eq_some_iff_getElem] at hg2
      obtain ⟨hj, h1, _⟩ := hg2
      exact ⟨j, d.certs[j], rfl, List.getElem?_eq_getElem hj, by simpa using h1, hj⟩
def backSt (d : Dag) (after : Int) : Int × Nat × List Int → AF × List AB
  | (r, i, l) => ([(1, .d (.int .i64 after)), (2, .d (.int .i64 r)), (3, .ptr 0 0), (7, .arr 1), (8, .d (.int .i64 i))], [.cells d.cells, .row 3 1 (nums l) false])
def backInv (d : Dag) (after r0 : Int) (all : List Int) (k : Nat) : Int × Nat × List Int → Prop
  | (r, i, l) => (k = 0 ∧ r % 2 = 0 ∧ 0 ≤ r ∧ r ≤ r0 ∧ i < d.certs.length ∧ (l.length : Int) ≤ r0 - r + 1 ∧ all = l ++ backR d after r i) ∨ (k = 1 ∧ all = l ∧ l.length ≤ 1099511627778)
def backMu (after : Int) (k : Nat) : Int × Nat × List Int → Nat
  | (r, _, _) => if k = 0 then (r - after + 2).toNat + 1 else 0
set_option maxHeartbeats 2000000 in
theorem back_ok (d : Dag) (hw : d.well) (after r0 : Int) (ha : 0 ≤ after) (hr : after < r0) (hr2 : r0 % 2 = 0) (hr3 : 2 ≤ r0 ∧ r0 ≤ 1099511627776) (h0 : anchorI d r0 ≠ 0) :
    ACalls Tryz.prog 79 [d.av, .d (.int .i64 after), .d (.int .i64 r0)] [] (fun av L => av = .arr 0 ∧ L = [.row 3 1 (nums (backI d after r0)) false]) := by
  have hlow := hw.low
  have hd := hw.len
  obtain ⟨i0, c0, hg0, hc0, _, hi0⟩ := anchor_get h0
  have hgi0 : getI d.certs (anchorI d r0) = i0 := by rw [getI, hg0]; rfl
  (refine acalls_go ttOk zOk foOk Tryz.func79 rfl Tryz.ntmps79 rfl true rfl ?_); (conv => whnf)
  obtain ⟨all, hall⟩ : ∃ all, anchorI d r0 :: backR d after r0 i0 = all := ⟨_, rfl⟩
  rw [backI, hg0, Option.getD_some, hall]
  refine scope_go ttOk zOk foOk (σ := Int × Nat × List Int) (backSt d after) (backInv d after r0 all) (backMu after) ?_ ?_
  · rintro k rest hk ⟨r, i, l⟩ hh
    rcases hh with ⟨rfl, h1, h2, h3, h4, h5, h6⟩ | ⟨rfl, h6, h5⟩
    · have e := Option.some.inj (show some _ = some rest from hk)
      subst e
      clear hk
      conv => whnf
      refine rdw ?_; repeat' ((with_reducible apply tw) <;> intro _)
      · rename_i h
        refine into_of [1, 2, 3, 7, 8] ?_
        conv => whnf
        exact ⟨(r - 2, i, l), rfl, rfl, .inr ⟨rfl, by rw [h6, back_end (.inl h), List.append_nil], by omega⟩, by show 0 < (r - after + 2).toNat + 1; omega⟩
      · rename_i h h7
        refine into_of [1, 2, 3, 7, 8] ?_
        conv => whnf
        exact ⟨(r - 2, i, l), rfl, rfl, .inr ⟨rfl, by rw [h6, back_end (.inr h7), List.append_nil], by omega⟩, by show 0 < (r - after + 2).toNat + 1; omega⟩
      · rename_i h h7
        have hne : ¬ (r - 2 ≤ after ∨ r - 2 ≤ d.low) := fun hh => hh.elim h h7
        have hmu : ∀ (i' : Nat) (l' : List Int), backMu after 0 (r - 2, i', l') < backMu after 0 (r, i, l) := fun i' l' => by show (r - 2 - after + 2).toNat + 1 < (r - after + 2).toNat + 1; omega
        refine (anchorOf_ok d hw.fit hw.nodes (r - 2) ⟨by omega, by omega⟩).mono ?_
        rintro _ _ ⟨rfl, rfl⟩
        obtain ⟨a, hae⟩ : ∃ a, anchorI d (r - 2) = a := ⟨_, rfl⟩
        rw [hae]
        conv => whnf
        refine rdw ?_; repeat' ((with_reducible apply tw) <;> intro _)
        · rename_i h8
          refine into_of [1, 2, 3, 7, 8] ?_
          conv => whnf
          exact ⟨(r - 2, i, l), rfl, rfl, .inl ⟨rfl, by omega, by omega, by omega, h4, by omega, by rw [h6, back_no hne (hae.trans h8)]⟩, hmu _ _⟩
        · rename_i h8
          have ha0 : anchorI d (r - 2) ≠ 0 := by rw [hae]; exact h8
          obtain ⟨j, c, hg, hc, _, hj⟩ := anchor_get ha0
          have hrc := hw.fit.fit c (List.mem_of_getElem? hc)
          have hgi : getI d.certs a = j := by rw [getI, ← hae, hg]; rfl
          have h6' := h6
          rw [back_yes hne ha0 hg, hae] at h6'
          refine (get_ok d hw.fit.few a).mono ?_
          rintro _ _ ⟨rfl, rfl⟩
          rw [hgi]
          conv => whnf
          refine rdw ?_; repeat' ((with_reducible apply tw) <;> intro _)
          refine (reaches_ok d hd hw.pars hlow i j h4 hc hrc.1).mono ?_
          rintro _ _ ⟨rfl, rfl⟩
          have hrj : reachJ d i j = reachI d i j c := by rw [reachJ, hc]
          rw [hrj] at h6'
          obtain ⟨b, hb⟩ : ∃ b, reachI d i j c = b := ⟨_, rfl⟩
          rw [hb] at h6' ⊢
          conv => whnf
          refine rdw ?_; repeat' ((with_reducible apply tw) <;> intro _)
          · rename_i h9
            subst h9
            refine ⟨by rw [nums_length, List.length_singleton]; show (_ + 1) * 8 ≤ _; omega, ?_⟩
            conv => whnf
            rw [nums_app]
            refine rdw ?_; repeat' ((with_reducible apply tw) <;> intro _)
            refine into_of [1, 2, 3, 7, 8] ?_
            conv => whnf
            exact ⟨(r - 2, j, l ++ [a]), rfl, rfl, .inl ⟨rfl, by omega, by omega, by omega, hj, by rw [List.length_append, List.length_singleton]; omega, by rw [h6', if_pos rfl, List.append_assoc]; rfl⟩, hmu _ _⟩
          · rename_i h9
            subst h9
            refine into_of [1, 2, 3, 7, 8] ?_
            conv => whnf
            exact ⟨(r - 2, i, l), rfl, rfl, .inl ⟨rfl, by omega, by omega, by omega, h4, by omega, by rw [h6', if_neg (by decide)]⟩, hmu _ _⟩
    · have e := Option.some.inj (show some _ = some rest from hk)
      subst e
      clear hk
      rw [h6]
      conv => whnf
      (refine Or.inr ?_; (conv => whnf))
      refine (reverse_ok l (by omega)).mono ?_
      rintro _ _ ⟨rfl, rfl⟩
      conv => whnf
      exact ⟨rfl, rfl⟩
  · intro pass
    conv => whnf
    refine (anchorOf_ok d hw.fit hw.nodes r0 ⟨hr3.1, by omega⟩).mono ?_
    rintro _ _ ⟨rfl, rfl⟩
    conv => whnf
    refine rdw ?_; repeat' ((with_reducible apply tw) <;> intro _)
    ((with_reducible refine draw_pl ttOk zOk foOk mixedOk pl79x2 ?_ ?_); (focus kernel_rfl); (conv => whnf))
    refine rdw ?_; repeat' ((with_reducible apply tw) <;> intro _)
    ((with_reducible apply rd_intro); (focus (intro K hK; (conv => whnf); exact ⟨by decide, (show 0 < 1 by decide), hK⟩)); (conv => whnf))
    refine rdw ?_; repeat' ((with_reducible apply tw) <;> intro _)
    ((with_reducible apply rd_intro); (focus (intro K hK; (conv => whnf); exact ⟨_, rfl, hK⟩)); (conv => whnf))
    refine rdw ?_; repeat' ((with_reducible apply tw) <;> intro _)
    refine (get_ok d hw.fit.few (anchorI d r0)).mono ?_
    rintro _ _ ⟨rfl, rfl⟩
    rw [hgi0]
    conv => whnf
    refine rdw ?_; repeat' ((with_reducible apply tw) <;> intro _)
    refine aw_at (σ := Unit) (fun _ => backSt d after (r0, i0, [anchorI d r0])) (fun _ => True) [1, 2, 3, 7, 8] ?_ ?_
    · conv => whnf
      exact ⟨(), rfl, rfl, trivial⟩
    · intro _ _
      exact pass 0 _ rfl _ (.inl ⟨rfl, hr2, by omega, by omega, hi0, by show (1 : Int) ≤ _; omega, by rw [← hall]; rfl⟩)
end Go.Proofs.YtmmngmnmghpfaaaGreat
/-
  DERIVED: THE SHELF's CONTRACTS AT THIS DUMP, IN PLAIN WORDS (tools/lay-plain.mjs out of 'TryzShelf.lean', which tools/lay-shelf.mjs wrote): THE SAME DECLARATIONS UNDER THE SAME NAMES: 'import', 'namespace', 'open', 'def', 'theorem' AND NOTHING ELSE: no command of the shelf's: FOR A HAND-IN. Each laying: the table of numbers ('.._ren') and one theorem, a field a fact of the dump's own or the kernel's comparison; each contract: ONE APPLICATION.
-/
namespace Go.Proofs
open Go.Shelf
def Tryz.laysSlM5_f104_ren : Go.Shelf.Ren := ⟨fun | 5 => 104 | 8 => 129 | 7 => 128 | 19 => 151 | 20 => 152 | 10 => 143 | 11 => 144 | 12 => 145 | 13 => 146 | 14 => 147 | 15 => 148 | 16 => 141 | 17 => 149 | 18 => 150 | 30 => 164 | 31 => 165 | 32 => 166 | 33 => 167 | 34 => 168 | 35 => 131 | 40 => 173 | n => n, fun | 23 => 33 | 25 => 3 | 3 => 3 | 32 => 72 | 22 => 33 | 0 => 0 | 44 => 202 | 46 => 204 | 4 => 4 | 36 => 197 | 35 => 196 | 41 => 151 | 5 => 5 | 9 => 9 | 53 => 214 | 57 => 93 | 63 => 220 | 64 => 221 | n => n, fun | n => n⟩
theorem Tryz.laysSlM5_f104 : Go.Proofs.SlLaysM.n5 Tryz.prog Tryz.laysSlM5_f104_ren := {
  mixed := by kernel_rfl
  f5 := ⟨Tryz.f104.name, by decide, Tryz.func104.trans (congrArg some (by kernel_rfl))⟩
  f7 := ⟨Tryz.f128.name, by decide, Tryz.func128.trans (congrArg some (by kernel_rfl))⟩
  f8 := Tryz.func129.trans (congrArg some (by kernel_rfl))
  f10 := ⟨Tryz.f143.name, by decide, Tryz.func143.trans (congrArg some (by kernel_rfl))⟩
  f11 := ⟨Tryz.f144.name, by decide, Tryz.func144.trans (congrArg some (by kernel_rfl))⟩
  f12 := ⟨Tryz.f145.name, by decide, Tryz.func145.trans (congrArg some (by kernel_rfl))⟩
  f13 := ⟨Tryz.f146.name, by decide, Tryz.func146.trans (congrArg some (by kernel_rfl))⟩
  f14 := ⟨Tryz.f147.name, by decide, Tryz.func147.trans (congrArg some (by kernel_rfl))⟩
  f15 := ⟨Tryz.f148.name, by decide, Tryz.func148.trans (congrArg some (by kernel_rfl))⟩
  f16 := ⟨Tryz.f141.name, by decide, Tryz.func141.trans (congrArg some (by kernel_rfl))⟩
  f17 := ⟨Tryz.f149.name, by decide, Tryz.func149.trans (congrArg some (by kernel_rfl))⟩
  f18 := ⟨Tryz.f150.name, by decide, Tryz.func150.trans (congrArg some (by kernel_rfl))⟩
  f19 := Tryz.func151.trans (congrArg some (by kernel_rfl))
  f20 := Tryz.func152.trans (congrArg some (by kernel_rfl))
  f30 := ⟨Tryz.f164.name, by decide, Tryz.func164.trans (congrArg some (by kernel_rfl))⟩
  f31 := Tryz.func165.trans (congrArg some (by kernel_rfl))
  f32 := Tryz.func166.trans (congrArg some (by kernel_rfl))
  f33 := ⟨Tryz.f167.name, by decide, Tryz.func167.trans (congrArg some (by kernel_rfl))⟩
  f34 := ⟨Tryz.f168.name, by decide, Tryz.func168.trans (congrArg some (by kernel_rfl))⟩
  f35 := ⟨Tryz.f131.name, by decide, Tryz.func131.trans (congrArg some (by kernel_rfl))⟩
  f40 := ⟨Tryz.f173.name, by decide, Tryz.func173.trans (congrArg some (by kernel_rfl))⟩
  t0 := Tryz.underlying0
  a0 := Tryz.isAgg0
  z0 := Tryz.sizeOf0
  v0 := Tryz.zeroValue0
  t3 := Tryz.underlying3
  a3 := Tryz.isAgg3
  z3 := Tryz.sizeOf3
  v3 := Tryz.zeroValue3
  t4 := Tryz.underlying4
  a4 := Tryz.isAgg4
  z4 := Tryz.sizeOf4
  v4 := Tryz.zeroValue4
  t5 := Tryz.underlying5
  a5 := Tryz.isAgg5
  z5 := Tryz.sizeOf5
  v5 := Tryz.zeroValue5
  t9 := Tryz.underlying9
  a9 := Tryz.isAgg9
  z9 := Tryz.sizeOf9
  v9 := Tryz.zeroValue9
  t22 := Tryz.underlying33
  a22 := Tryz.isAgg33
  z22 := Tryz.sizeOf33
  v22 := Tryz.zeroValue33
  t23 := Tryz.underlying33
  a23 := Tryz.isAgg33
  z23 := Tryz.sizeOf33
  v23 := Tryz.zeroValue33
  t25 := Tryz.underlying3
  a25 := Tryz.isAgg3
  z25 := Tryz.sizeOf3
  v25 := Tryz.zeroValue3
  t32 := Tryz.underlying72
  a32 := Tryz.isAgg72
  z32 := Tryz.sizeOf72
  v32 := Tryz.zeroValue72
  t35 := Tryz.underlying196
  a35 := Tryz.isAgg196
  z35 := Tryz.sizeOf196
  v35 := Tryz.zeroValue196
  t36 := Tryz.underlying197
  a36 := Tryz.isAgg197
  z36 := Tryz.sizeOf197
  v36 := Tryz.zeroValue197
  t41 := Tryz.underlying151
  a41 := Tryz.isAgg151
  z41 := Tryz.sizeOf151
  v41 := Tryz.zeroValue151
  t44 := Tryz.underlying202
  a44 := Tryz.isAgg202
  z44 := Tryz.sizeOf202
  v44 := Tryz.zeroValue202
  t46 := Tryz.underlying204
  a46 := Tryz.isAgg204
  z46 := Tryz.sizeOf204
  v46 := Tryz.zeroValue204
  t53 := Tryz.underlying214
  a53 := Tryz.isAgg214
  z53 := Tryz.sizeOf214
  v53 := Tryz.zeroValue214
  t57 := Tryz.underlying93
  a57 := Tryz.isAgg93
  z57 := Tryz.sizeOf93
  v57 := Tryz.zeroValue93
  t63 := Tryz.underlying220
  a63 := Tryz.isAgg220
  z63 := Tryz.sizeOf220
  v63 := Tryz.zeroValue220
  t64 := Tryz.underlying221
  a64 := Tryz.isAgg221
  z64 := Tryz.sizeOf221
  v64 := Tryz.zeroValue221 }
open Go.Sort Go.RowKit in
theorem Tryz.slices_Sort_int (blk off cap : Nat) (zs : List Int) (w : World) (hH : Holds (Value.int .i64) w blk off zs.toArray) (hblk : blk < w.heap.size) (hsz : zs.length < 4611686018427387904) :
    Calls Tryz.prog 104 #[.slice (some ⟨blk, off, none⟩) zs.length cap] w fun e w' =>
      e = .returned (.tuple #[]) ∧ ∃ n os, w' = grow (putRow (Value.int .i64) (Sort.ahead w n) blk off (zs.mergeSort fun x y => decide (x ≤ y)).toArray) os := AnyM.slices_Sort_int Tryz.laysSlM5_f104 blk off cap zs w hH hblk hsz
open Go.RowKit Go.Sort in
theorem Tryz.slices_Sort_int_none (p : Option Addr) (cap : Nat) (w : World) :
    Calls Tryz.prog 104 #[.slice p 0 cap] w fun e w' => e = .returned (.tuple #[]) ∧ w' = w := AnyM.slices_Sort_int_none Tryz.laysSlM5_f104 p cap w
end Go.Proofs
namespace Go.Proofs.YtmmngmnmghpfaaaGreat
open Go Go.Ab Go.RowKit Go.Sort
def sortI (l : List Int) : List Int := l.mergeSort fun x y => decide (x ≤ y)
theorem VDs_nums {rd : Addr → Value → Prop} : ∀ {l : List Int} {us : List Value}, VDs rd (nums l).flatten us ↔ us = l.map (Value.int .i64)
  | [], us => by simp [nums, VDs, Cs]
  | n :: l, us => by
    have ih := @VDs_nums rd l
    simp only [nums, List.map_cons, List.flatten_cons, List.singleton_append, VDs, Cs] at ih ⊢
    constructor
    · rintro ⟨u, us', rfl, h1, h2, h3⟩
      simp only [VD] at h2
      rw [h2, (ih).1 h3]
    · rintro rfl
      exact ⟨_, _, rfl, rfl, by simp [VD], ih.2 rfl⟩
theorem sortI_ok (l : List Int) (hl : l.length < 4611686018427387904) : ACalls Tryz.prog 104 [.arr 0] [.row 3 1 (nums l) false] (fun av L => av = .tup [] ∧ L = [.row 3 1 (nums (sortI l)) false]) := by
  intro c vs hc hL0 hs hv
  have hll := nums_length l
  simp only [VRt, VR] at hv
  obtain ⟨u, us', hvs, ⟨ab, hab, har⟩, rfl⟩ := hv
  simp only [List.getElem?_cons_zero, Option.some.injEq] at hab
  subst hab
  have hvs' : vs = #[u] := by rw [← Array.toArray_toList (xs := vs), hvs]
  rw [hvs']
  have hbr := hs.blk 0 _ rfl
  cases hE : c.E0 0 with
  | none =>
    rw [hE] at hbr
    have hnil : l = [] := by
      have := hbr.2.2
      simpa [nums] using this
    subst hnil
    simp only [arRel, hE] at har
    subst har
    refine (Tryz.slices_Sort_int_none none 0 c.w0).mono ?_
    rintro e w' ⟨rfl, rfl⟩
    exact ⟨_, .tup [], _, c.E0, rfl, ⟨rfl, rfl⟩, (by rw [show sortI [] = [] by simp [sortI]]; exact hs), ⟨_, rfl, by simp [VRt]⟩⟩
  | some b =>
    rw [hE] at hbr
    simp only [arRel, hE] at har
    obtain ⟨cap, cur, rfl, hh, hsz⟩ := har
    obtain ⟨_, _, cap2, cur2, hh2, hsz2, hcap, _, hvd⟩ := hbr
    rw [hh] at hh2
    cases hh2
    rw [VDs_nums, hll, Nat.mul_one] at hvd
    have hcur : ∀ j, j < l.length → cur[j]? = some (.int .i64 l[j]!) := by
      intro j hj
      have := congrArg (fun x => x[j]?) hvd
      simp only [List.getElem?_take, List.getElem?_map, hj, if_true] at this
      rw [← Array.getElem?_toList, this, List.getElem?_eq_getElem hj, getElem!_pos l j hj]
      rfl
    have hblk : b < c.w0.heap.size := (Array.getElem?_eq_some_iff.1 hh).1
    have hH : Holds (Value.int .i64) c.w0 b 0 l.toArray := by
      intro j hj
      have hj' : j < l.length := by simpa using hj
      refine ⟨?_, ?_⟩
      · simp only [World.cell?, hh, Nat.zero_add]
        have := hcur j hj'
        simpa using this
      · simp [World.frozen?, hh]
    rw [hll]
    refine (Tryz.slices_Sort_int b 0 cap l c.w0 hH hblk hl).mono ?_
    rintro e w' ⟨rfl, n, os, rfl⟩
    have hperm := List.mergeSort_perm l (fun x y => decide (x ≤ y))
    have hsl : (sortI l).length = l.length := hperm.length_eq
    have k1 : Keeps c.w0 (Sort.ahead c.w0 n) := ⟨rfl, rfl, rfl, Nat.le_refl _, fun _ _ => rfl⟩
    have hs1 := hs.keeps hc k1
    have hle1 : (rcOf c.M0 c.E0 [AB.row 3 1 (nums l) false] c.w0).le (rcOf c.M0 c.E0 [AB.row 3 1 (nums l) false] (Sort.ahead c.w0 n)) := le_keeps hs.bl k1
    obtain ⟨cur', hcur'⟩ : ∃ cur', putCells (Value.int .i64) 0 (sortI l).toArray cur = cur' := ⟨_, rfl⟩
    have hput : putRow (Value.int .i64) (Sort.ahead c.w0 n) b 0 (sortI l).toArray = (Sort.ahead c.w0 n).setRow b cur' := by
      have e1 : putRow (Value.int .i64) (Sort.ahead c.w0 n) b 0 (sortI l).toArray = mapBlock (Sort.ahead c.w0 n) b (fun _ => cur') := by
        refine mapBlock_congr _ _ _ _ fun c1 e fr h => ?_
        have h2 : c.w0.heap[b]? = some (.cells c1 e fr) := h
        rw [hh] at h2
        cases h2
        exact hcur'
      rw [e1]
      unfold mapBlock World.setRow
      congr 2
    have hsz' : cur'.size = cur.size := by rw [← hcur']; simp [putCells]
    obtain ⟨hs2, hle2⟩ := hs1.rewrite (i := 0) (zs := nums (sortI l)) rfl hE (cur' := cur') hh hsz' (by rw [nums_length, hsl, hll]) (by simp [nums]) (by
      rw [VDs_nums, nums_length, Nat.mul_one, hsl, ← hcur']
      refine List.ext_getElem? fun j => ?_
      simp only [putCells, List.getElem?_take, List.getElem?_map, Array.toList_mapIdx, List.getElem?_mapIdx, Nat.zero_le, true_and, Nat.zero_add, Nat.sub_zero, List.size_toArray, hsl]
      by_cases hj : j < l.length
      · have hcj := hcur j hj
        rw [← Array.getElem?_toList] at hcj
        rw [if_pos hj, hcj]
        have hj2 : j < (sortI l).length := by rw [hsl]; exact hj
        simp [hj, hj2]
      · rw [if_neg hj, List.getElem?_eq_none (by rw [hsl]; omega)]
        rfl)
    have k2 : Keeps ((Sort.ahead c.w0 n).setRow b cur') (grow ((Sort.ahead c.w0 n).setRow b cur') os) := ⟨rfl, rfl, rfl, by simp [grow], fun b' hb' => by simp only [grow]; rw [Array.getElem?_append_left hb']⟩
    rw [show (l.mergeSort fun x y => decide (x ≤ y)) = sortI l from rfl, hput]
    exact ⟨_, .tup [], _, c.E0, rfl, ⟨rfl, rfl⟩, hs2.keeps hc k2, ⟨_, rfl, by simp [VRt]⟩⟩
end Go.Proofs.YtmmngmnmghpfaaaGreat
namespace Go.Proofs.YtmmngmnmghpfaaaGreat
open Go.Ab Go.RowKit Go.MapKept
attribute [local irreducible] ACalls AW ADraw Into fltB fnear
set_option maxRecDepth 100000
theorem clone_ok (l : List Int) (hl : l.length ≤ 1099511627776) : ACalls Tryz.prog 51 [.d (.sl 1 (nums l))] [] (fun av L => av = .arr 0 ∧ L = [.row 3 1 (nums l) false]) := by
  have hll := nums_length l
  (refine acalls_go ttOk zOk foOk Tryz.func51 rfl Tryz.ntmps51 rfl true rfl ?_); (conv => whnf)
  intro b hb
  conv => whnf
  refine rdw ?_; repeat' ((with_reducible apply tw) <;> intro _)
  · rename_i h
    have : l = [] := by simpa [nums] using hb h
    subst this
    exact ⟨rfl, rfl⟩
  · rename_i h
    refine ⟨by rw [hll]; show (0 + l.length) * 8 ≤ _; omega, ?_⟩
    conv => whnf
    exact ⟨rfl, rfl⟩
structure Wk where
  c : Cursor
  outs : List Int
def Wk.cells (d : Dag) (w : Wk) (i j : Nat) : List AV := [.d (.int .i64 d.nodes), .d (.int .i64 d.low), .d (.sl 6 (certsD d.certs)), .d (.int .i64 w.c.round), .arr i, .d (.int .i64 w.c.count), .arr j]
def Wk.L (d : Dag) (w : Wk) : List AB := [.cells (w.cells d 1 2), .row 3 1 (nums w.c.done) false, .row 3 1 (nums w.outs) false]
def keepB (d : Dag) (r x : Int) : Bool := match (getC d.certs x).bind (fun i => d.certs[i]?) with | some c => decide (c.round > r - 8) | none => false
def keepI (d : Dag) (r : Int) (l : List Int) : List Int := l.filter fun x => keepB d r x
def Wk.put (d : Dag) (w : Wk) (i : Nat) (c : Cert) : Wk :=
  ⟨⟨c.round, sortI (keepI d c.round (w.c.done ++ behindI d i c.round w.c.done)), min (w.c.count + (behindI d i c.round w.c.done).length) 1099511627776⟩, w.outs ++ behindI d i c.round w.c.done⟩
def Wk.L2 (d : Dag) (w : Wk) (old : List Int) : List AB := [.cells (w.cells d 3 4), .row 3 1 (nums old) true, .dead, .row 3 1 (nums w.c.done) false, .row 3 1 (nums w.outs) false]
def putSt (d : Dag) (w : Wk) (r : Int) (l all : List Int) : Nat → AF × List AB
  | j => ([(0, .ptr 0 0), (5, .arr 3), (6, .arr 4), (57, .arr 5), (58, .d (.int .i64 all.length)), (59, .d (.int .i64 j))], [.cells [.d (.int .i64 d.nodes), .d (.int .i64 d.low), .d (.sl 6 (certsD d.certs)), .d (.int .i64 r), .arr 1, .d (.int .i64 w.c.count), .arr 6], .row 3 1 (nums w.c.done) true, .dead, .row 3 1 (nums l) false, .row 3 1 (nums (keepI d r (all.take j))) false, .row 3 1 (nums all) false, .row 3 1 (nums (w.outs ++ l)) false])
theorem keep_snoc {d : Dag} {r : Int} {all : List Int} {j : Nat} {x : Int} (h : all[j]? = some x) : keepI d r (all.take (j + 1)) = if keepB d r x = true then keepI d r (all.take j) ++ [x] else keepI d r (all.take j) := by
  rw [List.take_add_one, h]
  cases hb : keepB d r x <;> simp [keepI, List.filter_append, hb]
theorem put_ok (d : Dag) (hw : d.well) (w : Wk) (a : Int) {i : Nat} {c : Cert} (hg : getC d.certs a = some i) (hc : d.certs[i]? = some c) (hs : risingI w.c.done) (hdl : w.c.done.length ≤ 65536) (hol : w.outs.length ≤ 4294967296) (hcnt : 0 ≤ w.c.count ∧ w.c.count ≤ 1099511627776) :
    ACalls Tryz.prog 80 [.ptr 0 0, .d (.int .i64 a)] (w.L d) (fun av L => av = .tup [] ∧ L = (w.put d i c).L2 d w.c.done) := by
  have hgi : getI d.certs a = i := by rw [getI, hg]; rfl
  have hrc := (hw.fit.fit c (List.mem_of_getElem? hc)).1
  have hr1 := hrc.1
  have hr2 := hrc.2
  (refine acalls_go ttOk zOk foOk Tryz.func80 rfl Tryz.ntmps80 rfl true rfl ?_); (conv => whnf)
  refine (get_ok d hw.fit.few a).mono ?_
  rintro _ _ ⟨rfl, rfl⟩
  rw [hgi]
  conv => whnf
  ((with_reducible refine draw_pl ttOk zOk foOk mixedOk pl80x1 ?_ ?_); (focus kernel_rfl); (conv => whnf))
  refine rdw ?_; repeat' ((with_reducible apply tw) <;> intro _)
  (refine Or.inl ?_; (conv => whnf))
  refine (behind_ok d hw.len hw.pars hw.low i hc hrc w.c.done (by unfold few; omega) hs).mono ?_
  rintro _ _ ⟨rfl, rfl⟩
  obtain ⟨l, hl⟩ : ∃ l, behindI d i c.round w.c.done = l := ⟨_, rfl⟩
  have hll : l.length ≤ 65536 := by
    rw [← hl]
    have h1 := List.length_filter_le (fun x => !decide (x ∈ w.c.done)) (riseI d i (c.round - 8))
    have h2 := rise_len d i (c.round - 8)
    have h3 := hw.len
    unfold behindI
    omega
  rw [hl]
  conv => whnf
  refine rdw ?_; repeat' ((with_reducible apply tw) <;> intro _)
  refine ⟨by rw [nums_length, nums_length]; show (w.outs.length + l.length) * 8 ≤ _; omega, ?_⟩
  conv => whnf
  rw [nums_apps]
  refine rdw ?_; repeat' ((with_reducible apply tw) <;> intro _)
  refine ⟨by omega, c.cs, certsD_at hc, ?_⟩
  conv => whnf
  refine rdw ?_; repeat' ((with_reducible apply tw) <;> intro _)
  (refine Or.inl ?_; (conv => whnf))
  refine (clone_ok w.c.done (by omega)).mono ?_
  rintro _ _ ⟨rfl, rfl⟩
  conv => whnf
  refine rdw ?_; repeat' ((with_reducible apply tw) <;> intro _)
  refine ⟨by rw [nums_length, nums_length]; show (w.c.done.length + l.length) * 8 ≤ _; omega, ?_⟩
  conv => whnf
  rw [nums_apps]
  refine rdw ?_; repeat' ((with_reducible apply tw) <;> intro _)
  obtain ⟨all, hall⟩ : ∃ all, w.c.done ++ l = all := ⟨_, rfl⟩
  have hal : all.length ≤ 131072 := by rw [← hall, List.length_append]; omega
  have hnl := nums_length all
  rw [hall]
  refine loop_go ttOk zOk foOk (σ := Nat) (putSt d w c.round l all) (fun j => j ≤ all.length) (fun j => all.length - j) [0, 5, 6, 57, 58, 59] ?_ ?_
  · conv => whnf
    exact ⟨0, by rw [hnl]; rfl, rfl, Nat.zero_le _⟩
  · intro j hj
    have hkl : (keepI d c.round (all.take j)).length ≤ 131072 := by
      have h1 : (keepI d c.round (all.take j)).length ≤ (all.take j).length := List.length_filter_le ..
      rw [List.length_take] at h1
      omega
    conv => whnf
    refine rdw ?_; repeat' ((with_reducible apply tw) <;> intro _)
    · rename_i h
      obtain ⟨x, hx⟩ : ∃ x, all[j]? = some x := ⟨_, List.getElem?_eq_getElem (by omega)⟩
      have hsn := keep_snoc (d := d) (r := c.round) hx
      refine ⟨by omega, by rw [Int.toNat_natCast]; omega, ?_⟩
      conv => whnf
      refine ⟨_, by rw [Int.toNat_natCast]; exact nums_at hx, ?_⟩
      conv => whnf
      refine rdw ?_; repeat' ((with_reducible apply tw) <;> intro _)
      refine (get_ok d hw.fit.few x).mono ?_
      rintro _ _ ⟨rfl, rfl⟩
      cases hg2 : getC d.certs x with
      | none =>
        rw [show getI d.certs x = -1 by rw [getI, hg2]; rfl]
        rw [keepB, hg2] at hsn
        conv => whnf
        ((with_reducible refine draw_pl ttOk zOk foOk mixedOk pl80x9 ?_ ?_); (focus kernel_rfl); (conv => whnf))
        refine rdw ?_; repeat' ((with_reducible apply tw) <;> intro _)
        exact ⟨j + 1, rfl, by rw [putSt, hsn]; rfl, by omega, by omega⟩
      | some i2 =>
        rw [show getI d.certs x = i2 by rw [getI, hg2]; rfl]
        have hi2 : i2 < d.certs.length := by
          unfold getC at hg2
          rw [List.findIdx?_eq_some_iff_getElem] at hg2
          exact hg2.1
        obtain ⟨c2, hc2⟩ : ∃ c2, d.certs[i2]? = some c2 := ⟨_, List.getElem?_eq_getElem hi2⟩
        have hrc2 := (hw.fit.fit c2 (List.mem_of_getElem? hc2)).1
        rw [keepB, hg2, Option.bind_some, hc2] at hsn
        conv => whnf
        ((with_reducible refine draw_pl ttOk zOk foOk mixedOk pl80x9 ?_ ?_); (focus kernel_rfl); (conv => whnf))
        refine rdw ?_; repeat' ((with_reducible apply tw) <;> intro _)
        ((with_reducible apply rd_intro); (focus (intro K hK; (conv => whnf); exact ⟨by omega, c2.cs, certsD_at hc2, hK⟩)); (conv => whnf))
        refine rdw ?_; repeat' ((with_reducible apply tw) <;> intro _)
        · rename_i h5
          simp only [h5, decide_true, if_true] at hsn
          refine ⟨by rw [nums_length, List.length_singleton]; show (_ + 1) * 8 ≤ _; omega, ?_⟩
          conv => whnf
          rw [nums_app]
          refine rdw ?_; repeat' ((with_reducible apply tw) <;> intro _)
          exact ⟨j + 1, rfl, by rw [putSt, hsn], by omega, by omega⟩
        · rename_i h5
          simp only [h5, decide_false, Bool.false_eq_true, if_false] at hsn
          exact ⟨j + 1, rfl, by rw [putSt, hsn], by omega, by omega⟩
    · rename_i h
      obtain rfl : j = all.length := by omega
      (refine Or.inr ?_; (conv => whnf))
      refine (sortI_ok (keepI d c.round (all.take all.length)) (by omega)).mono ?_
      rintro _ _ ⟨rfl, rfl⟩
      rw [List.take_length]
      conv => whnf
      refine rdw ?_; repeat' ((with_reducible apply tw) <;> intro _)
      intro z hz
      have : z = w.c.count + l.length := by rw [hz, nums_length, wrapI (by omega)]
      clear hz
      subst this
      conv => whnf
      refine rdw ?_; repeat' ((with_reducible apply tw) <;> intro _)
      subst hall
      subst hl
      exact ⟨rfl, rfl⟩
theorem getC_some {l : List Cert} {x : Int} {i : Nat} (h : getC l x = some i) : ∃ c, l[i]? = some c ∧ c.digest = x := by
  unfold getC at h
  rw [List.findIdx?_eq_some_iff_getElem] at h
  obtain ⟨hi, h1, _⟩ := h
  exact ⟨l[i], List.getElem?_eq_getElem hi, by simpa using h1⟩
theorem down_sub (dl low : Int) : ∀ (l : List Cert) (ks : List Int), (downL dl low l ks).Sublist (l.map (·.digest))
  | [], _ => List.Sublist.refl _
  | c :: r, ks => by
    unfold downL
    split
    · exact List.nil_sublist _
    · split
      · exact (down_sub dl low r _).cons_cons _
      · exact (down_sub dl low r _).cons _
theorem rise_nodup {d : Dag} (h : (d.certs.map (·.digest)).Nodup) (i : Nat) (low : Int) : (riseI d i low).Nodup := by
  unfold riseI downI
  rw [(List.reverse_perm _).nodup_iff]
  refine (down_sub d.low low _ _).nodup ?_
  rw [List.map_reverse, (List.reverse_perm _).nodup_iff, List.map_take]
  exact h.sublist (List.take_sublist ..)
theorem behind_nodup {d : Dag} (h : (d.certs.map (·.digest)).Nodup) (i : Nat) (r : Int) (done : List Int) : (behindI d i r done).Nodup ∧ ∀ x ∈ behindI d i r done, x ∉ done := by
  unfold behindI
  refine ⟨(rise_nodup h i _).sublist List.filter_sublist, fun x hx => ?_⟩
  have := (List.mem_filter.1 hx).2
  simpa using this
theorem sortI_rising {l : List Int} (h : l.Nodup) : risingI (sortI l) := by
  have h1 := List.pairwise_mergeSort (le := fun x y : Int => decide (x ≤ y)) (fun a b c h1 h2 => by simp at *; omega) (fun a b => by simp; omega) l
  have h2 : (sortI l).Nodup := (List.mergeSort_perm l _).nodup_iff.2 h
  exact (h1.and h2).imp fun ⟨h3, h4⟩ => by simp at h3; omega
theorem rising_nodup {l : List Int} (h : risingI l) : l.Nodup := h.imp fun h => by omega
theorem sub_len {α : Type} [DecidableEq α] : ∀ {l m : List α}, l.Nodup → (∀ x ∈ l, x ∈ m) → l.length ≤ m.length
  | [], m, _, _ => Nat.zero_le _
  | x :: r, m, hn, h => by
    have hn' := List.nodup_cons.1 hn
    have hx := h x (by simp)
    have := sub_len (l := r) (m := m.erase x) hn'.2 (fun y hy => (List.mem_erase_of_ne (fun e => hn'.1 (by rw [← e]; exact hy))).2 (h y (by simp [hy])))
    rw [List.length_erase_of_mem hx] at this
    have hp := List.length_pos_of_mem hx
    simp only [List.length_cons]
    omega
theorem keep_len {d : Dag} {r : Int} {l : List Int} (h : l.Nodup) : (keepI d r l).length ≤ d.certs.length := by
  have hsub : ∀ x ∈ keepI d r l, x ∈ d.certs.map (·.digest) := by
    intro x hx
    have h2 := (List.mem_filter.1 hx).2
    unfold keepB at h2
    cases hg : getC d.certs x with
    | none => rw [hg] at h2; cases h2
    | some i =>
      obtain ⟨c, h3, h4⟩ := getC_some hg
      exact List.mem_map.2 ⟨c, List.mem_of_getElem? h3, h4⟩
  have hn : (keepI d r l).Nodup := h.sublist List.filter_sublist
  have := sub_len hn hsub
  simpa using this
structure Wk.fine (d : Dag) (w : Wk) : Prop where
  rising : risingI w.c.done
  few : w.c.done.length ≤ 65536
  count : 0 ≤ w.c.count ∧ w.c.count ≤ 1099511627776
theorem Wk.fine.put {d : Dag} (hw : d.well) {w : Wk} (h : w.fine d) (i : Nat) (c : Cert) : (w.put d i c).fine d := by
  obtain ⟨b1, b2⟩ := behind_nodup hw.dig i c.round w.c.done
  have hnd : (w.c.done ++ behindI d i c.round w.c.done).Nodup := by
    rw [List.nodup_append]
    exact ⟨rising_nodup h.rising, b1, fun x hx y hy e => b2 y hy (e ▸ hx)⟩
  refine ⟨sortI_rising (hnd.sublist List.filter_sublist), ?_, ?_⟩
  · show (sortI _).length ≤ _
    rw [sortI, List.length_mergeSort]
    have := keep_len (d := d) (r := c.round) hnd
    have := hw.len
    omega
  · have := h.count
    show 0 ≤ min _ _ ∧ min _ _ ≤ _
    omega
theorem tmod_pos {a b : Int} (ha : 0 ≤ a) {z : Int} (hz : z = a.tmod b) : z = a % b := by rw [hz, Int.tmod_eq_emod_of_nonneg ha]
def isN (n : Int) : Bool := decide (1 ≤ n ∧ n ≤ 16 ∧ n % 3 = 1)
theorem is_ok (n : Int) : ACalls Tryz.prog 73 [.d (.int .i64 n)] [] (fun av L => av = .d (.bool (isN n)) ∧ L = []) := by
  unfold isN
  (refine acalls_go ttOk zOk foOk Tryz.func73 rfl Tryz.ntmps73 rfl false rfl ?_); (conv => whnf)
  refine rdz ?_; repeat' ((with_reducible apply tw) <;> intro _)
  · rename_i h1 h2
    refine ⟨by decide, ?_⟩
    intro z hz
    have hz2 := tmod_pos (by omega) hz
    clear hz
    subst hz2
    conv => whnf
    exact ⟨boolEq (by simp; omega), rfl⟩
  · rename_i h1 h2
    exact ⟨by rw [decide_eq_false (by omega)]; rfl, rfl⟩
  · rename_i h1
    exact ⟨by rw [decide_eq_false (by omega)]; rfl, rfl⟩
theorem digest_ok (n : Int) : ACalls Tryz.prog 56 [.d (.int .i64 n)] [] (fun av L => av = .d (.bool (decide (1 ≤ n ∧ n ≤ 65536))) ∧ L = []) := by
  (refine acalls_go ttOk zOk foOk Tryz.func56 rfl Tryz.ntmps56 rfl false rfl ?_); (conv => whnf)
  refine rdz ?_; repeat' ((with_reducible apply tw) <;> intro _)
  · rename_i h1
    exact ⟨boolEq (by simp; omega), rfl⟩
  · rename_i h1
    exact ⟨by rw [decide_eq_false (by omega)]; rfl, rfl⟩
theorem q_ok (n : Int) (hn : 0 < n ∧ n ≤ 16) : ACalls Tryz.prog 95 [.d (.int .i64 n)] [] (fun av L => av = .d (.int .i64 (2 * ((n - 1) / 3) + 1)) ∧ L = []) := by
  (refine acalls_go ttOk zOk foOk Tryz.func95 rfl Tryz.ntmps95 rfl false rfl ?_); (conv => whnf)
  refine (cf_ok n hn).mono ?_
  rintro _ _ ⟨rfl, rfl⟩
  conv => whnf
  refine rdz ?_; repeat' ((with_reducible apply tw) <;> intro _)
  exact ⟨rfl, rfl⟩
theorem rising_snoc {l : List Int} {x : Int} : risingI (l ++ [x]) ↔ risingI l ∧ ∀ y ∈ l, y < x := by
  unfold risingI
  rw [List.pairwise_append]
  simp
theorem rising_last {l : List Int} {j : Nat} {y : Int} (h : risingI (l.take (j + 1))) (hy : l[j]? = some y) : ∀ z ∈ l.take (j + 1), z ≤ y := by
  rw [List.take_add_one, hy] at h ⊢
  intro z hz
  have := (rising_snoc (l := l.take j) (x := y)).1 h
  rcases List.mem_append.1 hz with hz | hz
  · have := this.2 z hz; omega
  · simp at hz; omega
def riseB (l : List Int) (a b : Int) : Prop := risingI l ∧ ∀ x ∈ l, a ≤ x ∧ x ≤ b
theorem riseB_take {l : List Int} {a b : Int} (h : riseB l a b) (j : Nat) : riseB (l.take j) a b := ⟨h.1.sublist (List.take_sublist ..), fun x hx => h.2 x (List.mem_of_mem_take hx)⟩
theorem riseB_succ {l : List Int} {a b x : Int} {j : Nat} (hx : l[j]? = some x) : riseB (l.take (j + 1)) a b ↔ riseB (l.take j) a b ∧ a ≤ x ∧ x ≤ b ∧ ∀ y ∈ l.take j, y < x := by
  unfold riseB
  rw [List.take_add_one, hx, Option.toList_some, rising_snoc]
  constructor
  · rintro ⟨⟨h1, h2⟩, h3⟩
    exact ⟨⟨h1, fun y hy => h3 y (by simp [hy])⟩, (h3 x (by simp)).1, (h3 x (by simp)).2, h2⟩
  · rintro ⟨⟨h1, h2⟩, h3, h4, h5⟩
    refine ⟨⟨h1, h5⟩, fun y hy => ?_⟩
    rcases List.mem_append.1 hy with hy | hy
    · exact h2 y hy
    · rw [List.mem_singleton.1 hy]; exact ⟨h3, h4⟩
theorem take_pred {l : List Int} {j : Nat} (h0 : 0 < j) (hj : j < l.length) : ∃ y, l[j - 1]? = some y ∧ y ∈ l.take j ∧ (risingI (l.take j) → ∀ z ∈ l.take j, z ≤ y) := by
  obtain ⟨m, rfl⟩ : ∃ m, j = m + 1 := ⟨j - 1, by omega⟩
  obtain ⟨y, hy⟩ : ∃ y, l[m]? = some y := ⟨_, List.getElem?_eq_getElem (by omega)⟩
  refine ⟨y, hy, ?_, fun h => rising_last h hy⟩
  rw [List.take_add_one, hy]; simp
open Classical in
theorem crising_ok (l : List Int) (hl : few l) (a b : Int) : ACalls Tryz.prog 94 [.d (.sl 1 (nums l)), .d (.int .i64 a), .d (.int .i64 b)] [] (fun av L => av = .d (.bool (decide (riseB l a b))) ∧ L = []) := by
  have hll := nums_length l
  unfold few at hl
  (refine acalls_go ttOk zOk foOk Tryz.func94 rfl Tryz.ntmps94 rfl false rfl ?_); (conv => whnf)
  refine loop_go ttOk zOk foOk (σ := Nat) (fun j => ([(0, .d (.sl 1 (nums l))), (1, .d (.int .i64 a)), (2, .d (.int .i64 b)), (9, .d (.sl 1 (nums l))), (10, .d (.int .i64 l.length)), (11, .d (.int .i64 j))], [])) (fun j => j ≤ l.length ∧ riseB (l.take j) a b) (fun j => l.length - j) [0, 1, 2, 9, 10, 11] ?_ ?_
  · conv => whnf
    exact ⟨0, by rw [hll]; rfl, rfl, Nat.zero_le _, by simp [riseB, risingI]⟩
  · rintro j ⟨hj, hr⟩
    conv => whnf
    refine rdz ?_; repeat' ((with_reducible apply tw) <;> intro _)
    · rename_i h
      obtain ⟨x, hx⟩ : ∃ x, l[j]? = some x := ⟨_, List.getElem?_eq_getElem (by omega)⟩
      have hs := riseB_succ (a := a) (b := b) hx
      have hbad : ¬ (a ≤ x ∧ x ≤ b ∧ ∀ y ∈ l.take j, y < x) → ¬ riseB l a b := fun h1 h2 => h1 ((hs.1 (riseB_take h2 (j + 1))).2)
      refine ⟨by omega, [.int .i64 x], nums_at hx, ?_⟩
      conv => whnf
      refine rdz ?_; repeat' ((with_reducible apply tw) <;> intro _)
      · rename_i h2
        exact ⟨by rw [decide_eq_false (hbad fun h3 => by omega)]; rfl, rfl⟩
      · rename_i h2 h3
        exact ⟨by rw [decide_eq_false (hbad fun h4 => by omega)]; rfl, rfl⟩
      · rename_i h2 h3 h4
        obtain ⟨y, hy, hym, hle⟩ := take_pred (l := l) (j := j) (by omega) (by omega)
        refine ⟨by omega, [.int .i64 y], by rw [show ((j : Int) - 1).toNat = j - 1 by omega]; exact nums_at hy, ?_⟩
        conv => whnf
        refine rdz ?_; repeat' ((with_reducible apply tw) <;> intro _)
        · rename_i h5
          exact ⟨by rw [decide_eq_false (hbad fun h6 => by have := h6.2.2 y hym; omega)]; rfl, rfl⟩
        · rename_i h5
          exact ⟨j + 1, rfl, rfl, ⟨by omega, hs.2 ⟨hr, by omega, by omega, fun z hz => by have := hle hr.1 z hz; omega⟩⟩, by omega⟩
      · rename_i h2 h3 h4
        have hj0 : j = 0 := by omega
        subst hj0
        exact ⟨1, rfl, rfl, ⟨by omega, hs.2 ⟨hr, by omega, by omega, by simp⟩⟩, by omega⟩
    · rename_i h
      rw [List.take_of_length_le (by omega)] at hr
      exact ⟨by rw [decide_eq_true hr]; rfl, rfl⟩
open Classical in
theorem digests_ok (l : List Int) (hl : few l) : ACalls Tryz.prog 77 [.d (.sl 1 (nums l))] [] (fun av L => av = .d (.bool (decide (riseB l 1 65536))) ∧ L = []) := by
  (refine acalls_go ttOk zOk foOk Tryz.func77 rfl Tryz.ntmps77 rfl false rfl ?_); (conv => whnf)
  refine (crising_ok l hl 1 65536).mono ?_
  rintro _ _ ⟨rfl, rfl⟩
  conv => whnf
  exact ⟨rfl, rfl⟩
end Go.Proofs.YtmmngmnmghpfaaaGreat
