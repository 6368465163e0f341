/- Part of the proof of LogCrashes: the contracts of the functions. -/
import Derived.Test.YtpedbknmkgcldaaLogCrashesCodC

set_option linter.unusedVariables false
set_option linter.unusedSimpArgs false
namespace Go.Proofs.Ytpedbknmkgcldaa
open Go.Ab Go.RowKit
/-! ## what crashes of a disk tell of the log, and what is opened then -/
structure Tells (f : FD) (C : List ByteArray → Prop) : Prop where
  seen : C (scanL f.seen)
  safe : C (scanL f.safe)
  torn : ∀ p, C (scanL (tornL f.safe f.seen p))
structure DD.good (d : DD) (C : List ByteArray → Prop) : Prop where
  fine : d.fine
  non : getN logN d.fs = none → C []
  som : ∀ f, getN logN d.fs = some f → Tells f C
def DD.even (d : DD) : Prop := ∀ f, getN logN d.fs = some f → f.safe = f.seen
theorem Tells.mono {f : FD} {C C' : List ByteArray → Prop} (h : Tells f C) (hc : ∀ r, C r → C' r) : Tells f C' := ⟨hc _ h.seen, hc _ h.safe, fun p => hc _ (h.torn p)⟩
theorem DD.good.mono {d : DD} {C C' : List ByteArray → Prop} (h : d.good C) (hc : ∀ r, C r → C' r) : d.good C' := ⟨h.fine, fun hn => hc _ (h.non hn), fun f hf => (h.som f hf).mono hc⟩
theorem DD.good.same {d d' : DD} {C : List ByteArray → Prop} (h : d.good C) (hf : d'.fine) (he : getN logN d'.fs = getN logN d.fs) : d'.good C := ⟨hf, fun hn => h.non (he ▸ hn), fun f hs => h.som f (he ▸ hs)⟩
theorem crash_step {fs : List FD} {picks : List Int} : ∀ {k : Nat}, ∀ g ∈ (crashAt fs picks k).1, ∃ f ∈ fs, ∃ pk, g = ⟨f.name, (stepC f pk).1⟩
  | 0, g, h => by simp [crashAt] at h
  | k + 1, g, h => by
    cases hf : fs[k]? with
    | none => simp only [crashAt, hf] at h; exact crash_step g h
    | some f =>
      rw [crashAt_succ hf] at h
      rcases List.mem_append.1 h with h | h
      · exact crash_step g h
      · exact ⟨f, List.mem_of_getElem? hf, _, List.mem_singleton.1 h⟩
theorem tells_step {f : FD} {C : List ByteArray → Prop} (h : Tells f C) (pk : List Int) (n : ByteArray) : Tells ⟨n, (stepC f pk).1, (stepC f pk).1⟩ C := by
  have : C (scanL (stepC f pk).1) := by
    unfold stepC
    split
    · exact h.seen
    · split
      · exact h.safe
      · split
        · exact h.torn _
        · exact h.seen
  exact ⟨this, this, fun p => by rw [show tornL (FD.mk n (stepC f pk).1 (stepC f pk).1).safe (FD.mk n (stepC f pk).1 (stepC f pk).1).seen p = (stepC f pk).1 from torn_same _ _]; exact this⟩
theorem mem_pick {ss : List ByteArray} {fs : List FD} {f : FD} (h : f ∈ pickFs ss fs) : f ∈ fs := by
  unfold pickFs at h
  obtain ⟨n, _, hg⟩ := List.mem_filterMap.1 h
  exact mem_getN hg
theorem good_crash {d : DD} {C : List ByteArray → Prop} (h : d.good C) {ss : List ByteArray} (hss : ss.Perm (d.fs.map FD.name)) (picks : List Int) (hf : (newDD (crashAt (pickFs ss d.fs) picks ss.length).1).fine) : (newDD (crashAt (pickFs ss d.fs) picks ss.length).1).good C ∧ (newDD (crashAt (pickFs ss d.fs) picks ss.length).1).even := by
  have hpn := pick_names (fs := d.fs) (ss := ss) fun n hn => hss.subset hn
  have hpk : (pickFs ss d.fs).length = ss.length := by have := congrArg List.length hpn; simpa using this
  have hnames : (newDD (crashAt (pickFs ss d.fs) picks ss.length).1).fs.map FD.name = ss := by
    show ((crashAt _ _ _).1.map fun f => (⟨f.name, f.data, f.data⟩ : FD)).map FD.name = ss
    rw [List.map_map]
    show (crashAt _ _ _).1.map FileS.name = ss
    rw [crash_names (by omega), ← hpk, List.take_length, hpn]
  have hall : ∀ g, getN logN (newDD (crashAt (pickFs ss d.fs) picks ss.length).1).fs = some g → ∃ f pk, getN logN d.fs = some f ∧ g = ⟨logN, (stepC f pk).1, (stepC f pk).1⟩ := by
    intro g hg
    have hn := getN_name hg
    obtain ⟨x, hx, rfl⟩ := List.mem_map.1 (mem_getN hg)
    obtain ⟨f, hfm, pk, rfl⟩ := crash_step x hx
    have hfn : f.name = logN := hn
    refine ⟨f, pk, ?_, by rw [hfn]⟩
    rw [← hfn]
    exact getN_mem h.fine.nd (mem_pick hfm)
  refine ⟨⟨hf, fun hn => ?_, fun g hg => ?_⟩, fun g hg => ?_⟩
  · have h1 := getN_not hn
    rw [hnames] at h1
    cases hg : getN logN d.fs with
    | none => exact h.non hg
    | some f =>
      exact absurd (hss.symm.subset (List.mem_map.2 ⟨f, mem_getN hg, getN_name hg⟩)) h1
  · obtain ⟨f, pk, h1, rfl⟩ := hall g hg
    exact tells_step (h.som f h1) pk logN
  · obtain ⟨f, pk, h1, rfl⟩ := hall g hg
    rfl
theorem turn_fs (d : DD) (n : Int) (hn : ¬ n < 1) : (d.turn n).fs = d.fs ∧ (d.turn n).off = d.off := by
  unfold DD.turn
  rw [if_neg hn]
  exact ⟨rfl, rfl⟩
theorem good_turn {d : DD} {C : List ByteArray → Prop} (h : d.good C) (n : Int) : (d.turn n).good C := by
  refine h.same (h.fine.turn n) ?_
  unfold DD.turn
  split <;> rfl
theorem getN_updS {n : ByteArray} {g : FD → FD} (hg : ∀ f, (g f).name = f.name) : ∀ {fs : List FD} {f : FD}, getN n fs = some f → getN n (updN n g fs) = some (g f)
  | x :: r, f, h => by
    simp only [getN] at h
    simp only [updN]
    split at h
    · rename_i e
      cases h
      rw [if_pos e]
      simp only [getN, hg, if_pos e]
    · rename_i e
      rw [if_neg e]
      simp only [getN, if_neg e]
      exact getN_updS hg h
theorem spend_on {d : DD} (h : d.spend.off = false) : d.spend = ⟨IntKind.i64.wrap (d.calls + 1), false, d.upto, d.fs⟩ := by
  have e : d.spend = ⟨IntKind.i64.wrap (d.calls + 1), d.spend.off, d.upto, d.fs⟩ := rfl
  rw [h] at e
  exact e
theorem spend_upto {d : DD} (ho : d.off = false) (h : d.spend.off = true) : d.upto > 0 := by
  have : (d.off || (decide (d.upto > 0) && decide (IntKind.i64.wrap (d.calls + 1) ≥ d.upto))) = true := h
  rw [ho] at this
  simp at this
  omega
/-- what is opened, in a word -/
def Opens (p : Int × LD) (u : Int) (C : List ByteArray → Prop) : Prop := (p.1 = 0 ∧ C p.2.recs ∧ p.2.d.good (fun r => r = p.2.recs)) ∨ (p.1 = 9 ∧ u > 0 ∧ p.2.d.good C)
theorem good_load {d : DD} {C : List ByteArray → Prop} (h : d.good C) (he : d.even) (ho : d.off = false) : Opens (LD.mk d [] 0 false false).load d.upto C := by
  obtain ⟨l, hl⟩ : ∃ l, LD.mk d [] 0 false false = l := ⟨_, rfl⟩
  have hld : l.d = d := by rw [← hl]
  have hlr : l.recs = [] := by rw [← hl]
  rw [hl]
  cases hg : getN logN d.fs with
  | none =>
    have hrd : l.d.read logN = ([], 3) := by rw [hld]; exact read_none log_good ho hg
    have e : l.load = (0, l) := by unfold LD.load; rw [if_pos (by rw [hrd])]
    rw [e]
    refine .inl ⟨rfl, ?_, ?_⟩
    · show C l.recs
      rw [hlr]; exact h.non hg
    · show l.d.good _
      rw [hld, hlr]
      exact ⟨h.fine, fun _ => rfl, fun f hf => by rw [hg] at hf; cases hf⟩
  | some f =>
    have hrd : d.read logN = (f.seen, 0) := read_some log_good ho hg
    have ht := h.som f hg
    obtain ⟨rs, hrs⟩ : ∃ rs, scanL f.seen = rs := ⟨_, rfl⟩
    have hgot : (l.got rs).recs = rs := by show l.recs ++ rs = rs; rw [hlr]; rfl
    obtain ⟨hp1, hp2⟩ := scan_pref f.seen.length f.seen (Nat.le_refl _)
    rw [hrs] at hp1 hp2
    have hsame := he f hg
    have hc : C rs := by rw [← hrs]; exact ht.seen
    by_cases hlen : ((layL rs).length : Int) = f.seen.length
    · have e : l.load = ((d.sync logN).1, { l.got rs with d := (d.sync logN).2 }) := by
        unfold LD.load
        simp only [hld, hrd, hrs]
        rw [if_neg (by decide), if_neg (by decide), if_pos hlen]
      rw [e]
      cases hoff : d.spend.off with
      | true =>
        rw [sync_off log_good hoff]
        exact .inr ⟨rfl, spend_upto ho hoff, h.same h.fine.spend rfl⟩
      | false =>
        have hfn := h.fine.sync logN
        rw [sync_some log_good hoff hg] at hfn ⊢
        refine .inl ⟨rfl, by show C (l.got rs).recs; rw [hgot]; exact hc, ?_⟩
        show DD.good _ (fun r => r = (l.got rs).recs)
        rw [hgot]
        have hg2 : getN logN (updN logN (fun f => { f with safe := f.seen }) d.fs) = some { f with safe := f.seen } := getN_updS (g := fun f => { f with safe := f.seen }) (fun _ => rfl) hg
        refine ⟨hfn, fun hn => (by rw [show getN logN _ = _ from hg2] at hn; cases hn), fun x hx => ?_⟩
        rw [show getN logN _ = _ from hg2] at hx
        cases hx
        exact ⟨hrs, hrs, fun p => by show scanL (tornL f.seen f.seen p) = rs; rw [torn_same]; exact hrs⟩
    · cases hoff : d.spend.off with
      | true =>
        have hcut : d.cut logN (layL rs).length = (9, d.spend) := cut_off (by omega) log_good hoff
        have e : l.load = (9, { l.got rs with d := d.spend }) := by
          unfold LD.load
          simp only [hld, hrd, hrs, hcut]
          rw [if_neg (by decide), if_neg (by decide), if_neg hlen, if_pos (by decide)]
        rw [e]
        exact .inr ⟨rfl, spend_upto ho hoff, h.same h.fine.spend rfl⟩
      | false =>
        have hle : (layL rs).length ≤ f.seen.length := by
          have := congrArg List.length hp1
          rw [List.length_append] at this
          omega
        have hfn := h.fine.cut logN (layL rs).length
        have hcut := cut_some (k := ((layL rs).length : Int)) (by omega) log_good hoff hg (by omega)
        rw [hcut] at hfn
        obtain ⟨d1, hd1⟩ : ∃ d1 : DD, ({ d.spend with fs := updN logN (fun f => { f with seen := f.seen.take (((layL rs).length : Int)).toNat }) d.fs } : DD) = d1 := ⟨_, rfl⟩
        have hfs : d1.fs = updN logN (fun f => { f with seen := f.seen.take (((layL rs).length : Int)).toNat }) d.fs := by rw [← hd1]
        have ho1 : d1.off = false := by rw [← hd1]; exact hoff
        have hu1 : d1.upto = d.upto := by rw [← hd1]; rfl
        rw [hd1] at hcut hfn
        have htk : f.seen.take (((layL rs).length : Int)).toNat = layL rs := by
          rw [Int.toNat_natCast]
          conv => lhs; rw [hp1]
          exact List.take_left ..
        have hg1 : getN logN d1.fs = some { f with seen := layL rs } := by
          have h3 := getN_updS (n := logN) (g := fun f => { f with seen := f.seen.take (((layL rs).length : Int)).toNat }) (fun _ => rfl) hg
          rw [htk] at h3
          rw [hfs]
          exact h3
        have e : l.load = ((d1.sync logN).1, { l.got rs with d := (d1.sync logN).2 }) := by
          unfold LD.load
          simp only [hld, hrd, hrs, hcut]
          rw [if_neg (by decide), if_neg (by decide), if_neg hlen, if_neg (by decide)]
        rw [e]
        have hsc := scan_all rs hp2
        cases hoff2 : d1.spend.off with
        | true =>
          rw [sync_off log_good hoff2]
          refine .inr ⟨rfl, by have := spend_upto ho1 hoff2; omega, ?_⟩
          show d1.spend.good C
          refine ⟨DD.fine.spend hfn, fun hn => (by rw [show getN logN d1.spend.fs = _ from hg1] at hn; cases hn), fun x hx => ?_⟩
          rw [show getN logN d1.spend.fs = _ from hg1] at hx
          cases hx
          refine ⟨by show C (scanL (layL rs)); rw [hsc]; exact hc, ht.safe, fun p => ?_⟩
          show C (scanL (tornL f.safe (layL rs) p))
          rw [hsame, hp1, torn_cut, hsc]
          exact hc
        | false =>
          have hfn2 := DD.fine.sync hfn logN
          rw [sync_some log_good hoff2 hg1] at hfn2 ⊢
          refine .inl ⟨rfl, by show C (l.got rs).recs; rw [hgot]; exact hc, ?_⟩
          show DD.good _ (fun r => r = (l.got rs).recs)
          rw [hgot]
          have hg2 : getN logN (updN logN (fun f => { f with safe := f.seen }) d1.fs) = some { f with seen := layL rs, safe := layL rs } := getN_updS (g := fun f => { f with safe := f.seen }) (fun _ => rfl) hg1
          refine ⟨hfn2, fun hn => (by rw [show getN logN _ = _ from hg2] at hn; cases hn), fun x hx => ?_⟩
          rw [show getN logN _ = _ from hg2] at hx
          cases hx
          exact ⟨hsc, hsc, fun p => by show scanL (tornL (layL rs) (layL rs) p) = rs; rw [torn_same]; exact hsc⟩
theorem good_opn {d : DD} {C : List ByteArray → Prop} (h : d.good C) (he : d.even) (ho : d.off = false) : Opens (LD.opn d) d.upto C := by
  unfold LD.opn
  cases hg : getN freshN d.fs with
  | none =>
    have hrd : d.read freshN = ([], 3) := read_none fresh_good ho hg
    have hsw : (LD.mk d [] 0 false false).sweep = (0, LD.mk d [] 0 false false) := by simp [LD.sweep, hrd]
    rw [hsw, if_neg (by simp)]
    exact good_load h he ho
  | some f =>
    have hrd : d.read freshN = (f.seen, 0) := read_some fresh_good ho hg
    have hsw : (LD.mk d [] 0 false false).sweep = ((d.remove freshN).1, LD.mk (d.remove freshN).2 [] 0 false false) := by simp [LD.sweep, hrd]
    cases hoff : d.spend.off with
    | true =>
      rw [rem_off fresh_good hoff] at hsw
      rw [hsw, if_pos (show (9 : Int) ≠ 0 by decide)]
      exact .inr ⟨rfl, spend_upto ho hoff, h.same h.fine.spend rfl⟩
    | false =>
      have hfn := h.fine.remove freshN
      rw [rem_some fresh_good hoff hg] at hsw hfn
      rw [hsw, if_neg (by simp)]
      have hl : getN logN (delN freshN d.fs) = getN logN d.fs := getN_delO fresh_log d.fs
      exact good_load (d := { d.spend with fs := delN freshN d.fs }) (h.same hfn hl) (fun x hx => he x (hl ▸ hx)) hoff
end Go.Proofs.Ytpedbknmkgcldaa

namespace Go.Proofs.Ytpedbknmkgcldaa
open Go.Ab Go.RowKit Go.MapKept
attribute [local irreducible] ACalls AW ADraw Into
set_option maxRecDepth 100000
def twL : Int → List ByteArray → Int
  | n, [] => n
  | n, x :: r => if n < 1048576 then twL (n + x.size) r else n
def ssum : List ByteArray → Int
  | [] => 0
  | x :: r => x.size + ssum r
theorem ssum_nonneg (l : List ByteArray) : 0 ≤ ssum l := by
  induction l with
  | nil => simp [ssum]
  | cons x r ih => simp only [ssum]; omega
theorem twL_ge (l : List ByteArray) : ∀ n, n ≤ twL n l := by
  induction l with
  | nil => intro n; simp [twL]
  | cons x r ih =>
    intro n
    simp only [twL]
    split
    · have := ih (n + x.size); omega
    · omega
theorem twL_exact (l : List ByteArray) : ∀ n, twL n l < 1048576 → twL n l = n + ssum l := by
  induction l with
  | nil => intro n h; simp [twL, ssum]
  | cons x r ih =>
    intro n h
    simp only [twL] at h ⊢
    split
    · rename_i hn
      rw [if_pos hn] at h
      rw [ih _ h]
      simp only [ssum]; omega
    · rename_i hn
      rw [if_neg hn] at h
      omega
theorem twL_le (l : List ByteArray) (hs : ∀ s ∈ l, s.size ≤ 140737488355328) : ∀ n : Int, n ≤ 281474976710656 → twL n l ≤ 281474976710656 := by
  induction l with
  | nil => intro n h; simpa [twL] using h
  | cons x r ih =>
    intro n h
    have hx := hs x (by simp)
    simp only [twL]
    split
    · exact ih (fun s h => hs s (by simp [h])) _ (by omega)
    · exact h
def tw (l : List ByteArray) : Int := twL l.length l
theorem textWeight_ok (xs : List ByteArray) (hm : xs.length ≤ 140737488355328) (hs : ∀ s ∈ xs, s.size ≤ 140737488355328) : ACalls Try.prog 92 [.d (.sl 1 (strs xs))] [] (fun av L => av = .d (.int .i64 (tw xs)) ∧ L = []) := by
  rw [show strs xs = xs.map fun s => [DV.str s] from rfl]
  refine acalls_go ttOk zOk foOk Try.func92 rfl Try.ntmps92 rfl false rfl ?_
  conv => whnf
  refine loop_go2 ttOk zOk foOk (σ := Nat) (ρ := Int) (fun k n => ([(0, .d (.sl 1 (xs.map fun s => [DV.str s]))), (3, .d (.int .i64 n)), (4, .d (.int .i64 k))], [])) (fun k n => k ≤ xs.length ∧ 0 ≤ n ∧ n ≤ 281474976710656 ∧ twL n (xs.drop k) = tw xs) (fun k _ => xs.length - k) [0, 3, 4] ?_ ?_
  · conv => whnf
    refine ⟨0, xs.length, ?_, rfl, by omega, by omega, by omega, rfl⟩
    rw [List.length_map]
    rfl
  · rintro k n ⟨hk, h0, hb, he⟩
    conv => whnf
    repeat' (first | ((with_reducible apply z_wrap); (focus omega); (conv => whnf)) | ((with_reducible refine mt_dec (fun _ => ?_) (fun _ => ?_)) <;> (conv => whnf)) | ((with_reducible refine mt_eq (fun _ => ?_) (fun _ => ?_)) <;> (conv => whnf)) | ((with_reducible refine mt_ne (fun _ => ?_) (fun _ => ?_)) <;> (conv => whnf)) | ((with_reducible refine mt_not (fun _ => ?_) (fun _ => ?_)) <;> (conv => whnf)) | ((with_reducible refine mt_any (fun _ => ?_) (fun _ => ?_)) <;> (conv => whnf)))
    · rename_i h hn
      simp only [List.length_map] at h
      obtain ⟨a, ha⟩ : ∃ a, xs[k]? = some a := ⟨_, List.getElem?_eq_getElem (by omega)⟩
      have hsz := hs a (List.mem_of_getElem? ha)
      have hd : xs.drop k = a :: xs.drop (k + 1) := by
        rw [← List.getElem_cons_drop (by omega)]
        rw [List.getElem?_eq_some_iff.1 ha |>.2]
      rw [hd, twL, if_pos hn] at he
      ((with_reducible refine ix_map ha ?_ ?_); (focus (first | rfl | omega)); (conv => whnf))
      repeat' (first | ((with_reducible apply z_wrap); (focus omega); (conv => whnf)) | ((with_reducible refine mt_dec (fun _ => ?_) (fun _ => ?_)) <;> (conv => whnf)) | ((with_reducible refine mt_eq (fun _ => ?_) (fun _ => ?_)) <;> (conv => whnf)) | ((with_reducible refine mt_ne (fun _ => ?_) (fun _ => ?_)) <;> (conv => whnf)) | ((with_reducible refine mt_not (fun _ => ?_) (fun _ => ?_)) <;> (conv => whnf)) | ((with_reducible refine mt_any (fun _ => ?_) (fun _ => ?_)) <;> (conv => whnf)))
      exact ⟨k + 1, n + a.size, rfl, rfl, ⟨by omega, by omega, by omega, he⟩, by omega⟩
    · rename_i h hn
      simp only [List.length_map] at h
      have hd : xs.drop k = xs[k]'(by omega) :: xs.drop (k + 1) := (List.getElem_cons_drop (by omega)).symm
      rw [hd, twL, if_neg hn] at he
      rw [← he]
      exact ⟨rfl, rfl⟩
    · rename_i h
      simp only [List.length_map] at h
      obtain rfl : k = xs.length := by omega
      rw [List.drop_length, twL] at he
      rw [← he]
      exact ⟨rfl, rfl⟩
end Go.Proofs.Ytpedbknmkgcldaa

namespace Go.Proofs.Ytpedbknmkgcldaa
open Go.Ab Go.RowKit Go.MapKept
attribute [local irreducible] ACalls AW ADraw Into
set_option maxRecDepth 100000
def Act10.wt (a : Act10) : Int := a.s.size + tw a.l + a.picks.length
def hvL : Int → List Act10 → Int
  | n, [] => n
  | n, a :: r => if n < 1048576 then hvL (n + a.wt) r else n
def Scr10.heavy (p : Scr10) : Bool := decide (hvL 0 p.acts > 40000) || (decide (p.offs.length > 20) || decide (p.acts.length > 200))
theorem wt_range {a : Act10} (h : a.ok) : 0 ≤ a.wt ∧ a.wt ≤ 562949953421312 := by
  have h1 := h.s
  have h2 := h.picks
  have h3 := twL_ge a.l a.l.length
  have h4 := twL_le a.l h.l.2 a.l.length (by have := h.l.1; omega)
  unfold Act10.wt tw
  omega
theorem hvL_ge (l : List Act10) (h : ∀ a ∈ l, a.ok) : ∀ n, n ≤ hvL n l := by
  induction l with
  | nil => intro n; simp [hvL]
  | cons x r ih =>
    intro n
    have := wt_range (h x (by simp))
    simp only [hvL]
    split
    · have := ih (fun a ha => h a (by simp [ha])) (n + x.wt); omega
    · omega
theorem hvL_mem (l : List Act10) (h : ∀ a ∈ l, a.ok) : ∀ n, 0 ≤ n → hvL n l ≤ 40000 → ∀ a ∈ l, a.wt ≤ 40000 := by
  induction l with
  | nil => intro n _ _ a ha; cases ha
  | cons x r ih =>
    intro n h0 hn a ha
    have hx := wt_range (h x (by simp))
    have hr : ∀ a ∈ r, a.ok := fun a ha => h a (by simp [ha])
    simp only [hvL] at hn
    split at hn
    · rcases List.mem_cons.1 ha with rfl | ha
      · have := hvL_ge r hr (n + a.wt); omega
      · exact ih hr _ (by omega) hn a ha
    · omega
structure Act10.light (a : Act10) : Prop where
  ok : a.ok
  s : a.s.size ≤ 40000
  l : a.l.length ≤ 40000
  sum : ssum a.l ≤ 40000
  picks : a.picks.length ≤ 40000
theorem light_of {p : Scr10} (hp : p.ok) (h : p.heavy = false) : ∀ a ∈ p.acts, a.light := by
  intro a ha
  have hok := hp.a a ha
  simp only [Scr10.heavy, Bool.or_eq_false_iff, decide_eq_false_iff_not] at h
  have h1 := hvL_mem p.acts hp.a 0 (by omega) (by omega) a ha
  have h3 := twL_ge a.l a.l.length
  have h5 := ssum_nonneg a.l
  unfold Act10.wt tw at h1
  have h4 := twL_exact a.l a.l.length (by omega)
  exact ⟨hok, by omega, by omega, by omega, by omega⟩
set_option maxHeartbeats 4000000 in
theorem heavy10_ok (p : Scr10) (hp : p.ok) : ACalls Try.prog 47 [p.av] [] (fun av L => av = .d (.bool p.heavy) ∧ L = []) := by
  refine acalls_go ttOk zOk foOk Try.func47 rfl Try.ntmps47 rfl false rfl ?_
  conv => whnf
  refine loop_go2 ttOk zOk foOk (σ := Nat) (ρ := Int) (fun k n => ([(1, .ptr 0 0), (3, .d (.int .i64 n)), (4, .d (.int .i64 k))], [.cells p.cells])) (fun k n => k ≤ p.acts.length ∧ 0 ≤ n ∧ n ≤ 562949954469888 ∧ hvL n (p.acts.drop k) = hvL 0 p.acts) (fun k _ => p.acts.length - k) [1, 3, 4] ?_ ?_
  · conv => whnf
    exact ⟨0, 0, rfl, rfl, by omega, by omega, by omega, rfl⟩
  · rintro k n ⟨hk, h0, hb, he⟩
    conv => whnf
    have hla := hp.la
    have key : (¬ (k < p.acts.length) ∨ ¬ n < 1048576) → hvL 0 p.acts = n := by
      intro h
      rw [← he]
      by_cases hk2 : k < p.acts.length
      · have hd : p.acts.drop k = p.acts[k] :: p.acts.drop (k + 1) := (List.getElem_cons_drop hk2).symm
        rw [hd, hvL, if_neg (by rcases h with h | h; exact absurd hk2 h; exact h)]
      · rw [List.drop_eq_nil_of_le (by omega), hvL]
    repeat' (first | ((with_reducible apply rd_intro); (focus (intro K hK; (conv => whnf); first | exact hK | (intro z hz; rw [wrapI (by omega)] at hz; subst hz; exact hK))); (conv => whnf)) | ((with_reducible apply gd_and); (focus ((conv => whnf); first | rfl | (intro K hK; (conv => whnf); first | exact hK | (intro z hz; rw [wrapI (by omega)] at hz; subst hz; exact hK)))); (conv => whnf)) | ((with_reducible apply z_wrap); (focus omega); (conv => whnf)) | ((with_reducible refine mt_dec (fun _ => ?_) (fun _ => ?_)) <;> (conv => whnf)) | ((with_reducible refine mt_eq (fun _ => ?_) (fun _ => ?_)) <;> (conv => whnf)) | ((with_reducible refine mt_ne (fun _ => ?_) (fun _ => ?_)) <;> (conv => whnf)) | ((with_reducible refine mt_not (fun _ => ?_) (fun _ => ?_)) <;> (conv => whnf)) | ((with_reducible refine mt_any (fun _ => ?_) (fun _ => ?_)) <;> (conv => whnf)))
    · rename_i h hn
      simp only [List.length_map] at h
      obtain ⟨a, ha⟩ : ∃ a, p.acts[k]? = some a := ⟨_, List.getElem?_eq_getElem (by omega)⟩
      have hok := hp.a a (List.mem_of_getElem? ha)
      have hwt := wt_range hok
      have hd : p.acts.drop k = a :: p.acts.drop (k + 1) := by
        rw [← List.getElem_cons_drop (by omega)]
        rw [List.getElem?_eq_some_iff.1 ha |>.2]
      rw [hd, hvL, if_pos hn] at he
      have h1 := hok.s
      have h2 := hok.picks
      have h3 := twL_ge a.l a.l.length
      have h4 := twL_le a.l hok.l.2 a.l.length (by have := hok.l.1; omega)
      have hnl : (nums a.picks).length = a.picks.length := List.length_map ..
      have hwd : a.wt = a.s.size + tw a.l + a.picks.length := rfl
      have htw : tw a.l = twL a.l.length a.l := rfl
      ((with_reducible refine draw_pl ttOk zOk foOk mixedOk pl47x5 ?_ ?_); (focus kernel_rfl); (conv => whnf))
      repeat' (first | ((with_reducible apply rd_intro); (focus (intro K hK; (conv => whnf); first | exact hK | (intro z hz; rw [wrapI (by omega)] at hz; subst hz; exact hK))); (conv => whnf)) | ((with_reducible apply gd_and); (focus ((conv => whnf); first | rfl | (intro K hK; (conv => whnf); first | exact hK | (intro z hz; rw [wrapI (by omega)] at hz; subst hz; exact hK)))); (conv => whnf)) | ((with_reducible apply z_wrap); (focus omega); (conv => whnf)) | ((with_reducible refine mt_dec (fun _ => ?_) (fun _ => ?_)) <;> (conv => whnf)) | ((with_reducible refine mt_eq (fun _ => ?_) (fun _ => ?_)) <;> (conv => whnf)) | ((with_reducible refine mt_ne (fun _ => ?_) (fun _ => ?_)) <;> (conv => whnf)) | ((with_reducible refine mt_not (fun _ => ?_) (fun _ => ?_)) <;> (conv => whnf)) | ((with_reducible refine mt_any (fun _ => ?_) (fun _ => ?_)) <;> (conv => whnf)))
      ((with_reducible apply rd_intro); (focus (intro K hK; (conv => whnf); exact ⟨by omega, a.cs, by simp [ha], hK⟩)); (conv => whnf))
      repeat' (first | ((with_reducible apply rd_intro); (focus (intro K hK; (conv => whnf); first | exact hK | (intro z hz; rw [wrapI (by omega)] at hz; subst hz; exact hK))); (conv => whnf)) | ((with_reducible apply gd_and); (focus ((conv => whnf); first | rfl | (intro K hK; (conv => whnf); first | exact hK | (intro z hz; rw [wrapI (by omega)] at hz; subst hz; exact hK)))); (conv => whnf)) | ((with_reducible apply z_wrap); (focus omega); (conv => whnf)) | ((with_reducible refine mt_dec (fun _ => ?_) (fun _ => ?_)) <;> (conv => whnf)) | ((with_reducible refine mt_eq (fun _ => ?_) (fun _ => ?_)) <;> (conv => whnf)) | ((with_reducible refine mt_ne (fun _ => ?_) (fun _ => ?_)) <;> (conv => whnf)) | ((with_reducible refine mt_not (fun _ => ?_) (fun _ => ?_)) <;> (conv => whnf)) | ((with_reducible refine mt_any (fun _ => ?_) (fun _ => ?_)) <;> (conv => whnf)))
      ((with_reducible apply rd_intro); (focus (intro K hK; (conv => whnf); exact ⟨by omega, a.cs, by simp [ha], hK⟩)); (conv => whnf))
      repeat' (first | ((with_reducible apply rd_intro); (focus (intro K hK; (conv => whnf); first | exact hK | (intro z hz; rw [wrapI (by omega)] at hz; subst hz; exact hK))); (conv => whnf)) | ((with_reducible apply gd_and); (focus ((conv => whnf); first | rfl | (intro K hK; (conv => whnf); first | exact hK | (intro z hz; rw [wrapI (by omega)] at hz; subst hz; exact hK)))); (conv => whnf)) | ((with_reducible apply z_wrap); (focus omega); (conv => whnf)) | ((with_reducible refine mt_dec (fun _ => ?_) (fun _ => ?_)) <;> (conv => whnf)) | ((with_reducible refine mt_eq (fun _ => ?_) (fun _ => ?_)) <;> (conv => whnf)) | ((with_reducible refine mt_ne (fun _ => ?_) (fun _ => ?_)) <;> (conv => whnf)) | ((with_reducible refine mt_not (fun _ => ?_) (fun _ => ?_)) <;> (conv => whnf)) | ((with_reducible refine mt_any (fun _ => ?_) (fun _ => ?_)) <;> (conv => whnf)))
      ((with_reducible apply rd_intro); (focus (intro K hK; (conv => whnf); exact ⟨by omega, a.cs, by simp [ha], hK⟩)); (conv => whnf))
      repeat' (first | ((with_reducible apply rd_intro); (focus (intro K hK; (conv => whnf); first | exact hK | (intro z hz; rw [wrapI (by omega)] at hz; subst hz; exact hK))); (conv => whnf)) | ((with_reducible apply gd_and); (focus ((conv => whnf); first | rfl | (intro K hK; (conv => whnf); first | exact hK | (intro z hz; rw [wrapI (by omega)] at hz; subst hz; exact hK)))); (conv => whnf)) | ((with_reducible apply z_wrap); (focus omega); (conv => whnf)) | ((with_reducible refine mt_dec (fun _ => ?_) (fun _ => ?_)) <;> (conv => whnf)) | ((with_reducible refine mt_eq (fun _ => ?_) (fun _ => ?_)) <;> (conv => whnf)) | ((with_reducible refine mt_ne (fun _ => ?_) (fun _ => ?_)) <;> (conv => whnf)) | ((with_reducible refine mt_not (fun _ => ?_) (fun _ => ?_)) <;> (conv => whnf)) | ((with_reducible refine mt_any (fun _ => ?_) (fun _ => ?_)) <;> (conv => whnf)))
      refine (textWeight_ok a.l hok.l.1 hok.l.2).mono ?_
      rintro _ _ ⟨rfl, rfl⟩
      conv => whnf
      repeat' (first | (first | ((with_reducible apply rd_intro); (focus (intro K hK; (conv => whnf); first | exact hK | (intro z hz; rw [wrapI (by omega)] at hz; subst hz; exact hK))); (conv => whnf)) | ((with_reducible apply gd_and); (focus ((conv => whnf); first | rfl | (intro K hK; (conv => whnf); first | exact hK | (intro z hz; rw [wrapI (by omega)] at hz; subst hz; exact hK)))); (conv => whnf)) | ((with_reducible apply z_wrap); (focus omega); (conv => whnf)) | ((with_reducible refine mt_dec (fun _ => ?_) (fun _ => ?_)) <;> (conv => whnf)) | ((with_reducible refine mt_eq (fun _ => ?_) (fun _ => ?_)) <;> (conv => whnf)) | ((with_reducible refine mt_ne (fun _ => ?_) (fun _ => ?_)) <;> (conv => whnf)) | ((with_reducible refine mt_not (fun _ => ?_) (fun _ => ?_)) <;> (conv => whnf)) | ((with_reducible refine mt_any (fun _ => ?_) (fun _ => ?_)) <;> (conv => whnf))) | ((with_reducible apply gd_and); (focus ((conv => whnf); intro K hK; (conv => whnf); exact ⟨by omega, a.cs, by simp [ha], hK⟩)); (conv => whnf)) | ((with_reducible apply rd_intro); (focus (intro K hK; (conv => whnf); exact ⟨by omega, a.cs, by simp [ha], hK⟩)); (conv => whnf)))
      refine ⟨k + 1, n + a.wt, ?_, rfl, ⟨by omega, by omega, by omega, he⟩, by omega⟩
      rw [hwd, ← hnl, show n + ((a.s.size : Int) + tw a.l + (nums a.picks).length) = n + a.s.size + tw a.l + (nums a.picks).length by omega]
      rfl
    all_goals
      have hno : (nums p.offs).length = p.offs.length := List.length_map ..
      have hna : (p.acts.map Act10.cs).length = p.acts.length := List.length_map ..
      have e := key (by omega)
      refine ⟨?_, rfl⟩
      refine boolEq ?_
      simp only [Scr10.heavy, e, Bool.or_eq_true, decide_eq_true_eq]
      simp
      omega
end Go.Proofs.Ytpedbknmkgcldaa

namespace Go.Proofs.Ytpedbknmkgcldaa
open Go.Ab Go.RowKit Go.MapKept
attribute [local irreducible] ACalls AW ADraw Into
set_option maxRecDepth 100000
theorem wsum_le (l : List ByteArray) (h : ∀ s ∈ l, s.size ≤ 140737488355328) : wsum l ≤ l.length * 140737488355344 := by
  induction l with
  | nil => simp [wsum]
  | cons x r ih =>
    have h1 := ih fun s hs => h s (by simp [hs])
    have h2 := h x (by simp)
    simp only [wsum, List.length_cons]
    omega
theorem wsum_take {l : List ByteArray} {k : Nat} {s : ByteArray} (h : l[k]? = some s) : wsum (l.take (k + 1)) = wsum (l.take k) + s.size + 16 := by
  rw [List.take_add_one, h]
  exact wsum_app _ _
theorem wsum_take_le (l : List ByteArray) (k : Nat) : wsum (l.take k) ≤ wsum l := by
  have h : wsum l = wsum (l.take k) + wsum (l.drop k) := by
    have : ∀ a b : List ByteArray, wsum (a ++ b) = wsum a + wsum b := by
      intro a b
      induction a with
      | nil => simp [wsum]
      | cons x r ih => simp only [List.cons_append, wsum, ih]; omega
    rw [← this, List.take_append_drop]
  have := wsum_nonneg (l.drop k)
  omega
theorem size_ok (xs : List ByteArray) (hm : wsum xs ≤ 1000000000000000000) : ACalls Try.prog 93 [.d (.sl 1 (strs xs))] [] (fun av L => av = .d (.int .i64 (wsum xs)) ∧ L = []) := by
  rw [show strs xs = xs.map fun s => [DV.str s] from rfl]
  have hlen := wsum_len xs
  refine acalls_go ttOk zOk foOk Try.func93 rfl Try.ntmps93 rfl false rfl ?_
  conv => whnf
  refine loop_go ttOk zOk foOk (σ := Nat) (fun k => ([(0, .d (.sl 1 (xs.map fun s => [DV.str s]))), (3, .d (.int .i64 (wsum (xs.take k)))), (4, .d (.int .i64 k))], [])) (fun k => k ≤ xs.length) (fun k => xs.length - k) [0, 3, 4] ?_ ?_
  · conv => whnf
    exact ⟨0, rfl, rfl, by omega⟩
  · rintro k hk
    conv => whnf
    ((with_reducible refine mt_dec (fun _ => ?_) (fun _ => ?_)) <;> (conv => whnf))
    · rename_i h
      simp only [List.length_map] at h
      obtain ⟨a, ha⟩ : ∃ a, xs[k]? = some a := ⟨_, List.getElem?_eq_getElem (by omega)⟩
      have h1 := wsum_take ha
      have h2 := wsum_take_le xs (k + 1)
      have h3 := wsum_nonneg (xs.take k)
      ((with_reducible refine ix_map ha ?_ ?_); (focus (first | rfl | omega)); (conv => whnf))
      repeat' (first | ((with_reducible apply z_wrap); (focus omega); (conv => whnf)) | ((with_reducible refine mt_dec (fun _ => ?_) (fun _ => ?_)) <;> (conv => whnf)) | ((with_reducible refine mt_eq (fun _ => ?_) (fun _ => ?_)) <;> (conv => whnf)) | ((with_reducible refine mt_ne (fun _ => ?_) (fun _ => ?_)) <;> (conv => whnf)) | ((with_reducible refine mt_not (fun _ => ?_) (fun _ => ?_)) <;> (conv => whnf)) | ((with_reducible refine mt_any (fun _ => ?_) (fun _ => ?_)) <;> (conv => whnf)))
      refine ⟨k + 1, ?_, rfl, by omega, by omega⟩
      simp only [h1]
      rfl
    · rename_i h
      simp only [List.length_map] at h
      obtain rfl : k = xs.length := by omega
      rw [List.take_length]
      exact ⟨rfl, rfl⟩
end Go.Proofs.Ytpedbknmkgcldaa

namespace Go.Proofs.Ytpedbknmkgcldaa
open Go.Ab Go.RowKit Go.MapKept
attribute [local irreducible] ACalls AW ADraw Into
set_option maxRecDepth 100000
theorem copyStrings_ok (xs : List ByteArray) (hm : xs.length ≤ 8000000000) : ACalls Try.prog 94 [.d (.sl 1 (strs xs))] [] (fun av L => av = .d (.sl 1 (strs xs)) ∧ L = []) := by
  rw [show strs xs = xs.map fun s => [DV.str s] from rfl]
  refine acalls_go ttOk zOk foOk Try.func94 rfl Try.ntmps94 rfl false rfl ?_
  conv => whnf
  refine loop_go ttOk zOk foOk (σ := Nat) (fun k => ([(0, .d (.sl 1 (xs.map fun s => [DV.str s]))), (3, .arr 0), (4, .d (.int .i64 k))], [.row 9 1 (strs (xs.take k)) false])) (fun k => k ≤ xs.length) (fun k => xs.length - k) [0, 3, 4] ?_ ?_
  · conv => whnf
    exact ⟨0, rfl, rfl, by omega⟩
  · rintro k hk
    conv => whnf
    ((with_reducible refine mt_dec (fun _ => ?_) (fun _ => ?_)) <;> (conv => whnf))
    · rename_i h
      simp only [List.length_map] at h
      obtain ⟨a, ha⟩ : ∃ a, xs[k]? = some a := ⟨_, List.getElem?_eq_getElem (by omega)⟩
      ((with_reducible refine ix_map ha ?_ ?_); (focus (first | rfl | omega)); (conv => whnf))
      repeat' (first | ((with_reducible apply z_wrap); (focus omega); (conv => whnf)) | ((with_reducible refine mt_dec (fun _ => ?_) (fun _ => ?_)) <;> (conv => whnf)) | ((with_reducible refine mt_eq (fun _ => ?_) (fun _ => ?_)) <;> (conv => whnf)) | ((with_reducible refine mt_ne (fun _ => ?_) (fun _ => ?_)) <;> (conv => whnf)) | ((with_reducible refine mt_not (fun _ => ?_) (fun _ => ?_)) <;> (conv => whnf)) | ((with_reducible refine mt_any (fun _ => ?_) (fun _ => ?_)) <;> (conv => whnf)))
      refine ⟨by simp [strs]; omega, ?_⟩
      conv => whnf
      repeat' (first | ((with_reducible apply z_wrap); (focus omega); (conv => whnf)) | ((with_reducible refine mt_dec (fun _ => ?_) (fun _ => ?_)) <;> (conv => whnf)) | ((with_reducible refine mt_eq (fun _ => ?_) (fun _ => ?_)) <;> (conv => whnf)) | ((with_reducible refine mt_ne (fun _ => ?_) (fun _ => ?_)) <;> (conv => whnf)) | ((with_reducible refine mt_not (fun _ => ?_) (fun _ => ?_)) <;> (conv => whnf)) | ((with_reducible refine mt_any (fun _ => ?_) (fun _ => ?_)) <;> (conv => whnf)))
      refine ⟨k + 1, rfl, ?_, by omega, by omega⟩
      rw [List.take_add_one, ha]
      simp [strs]
    · rename_i h
      simp only [List.length_map] at h
      obtain rfl : k = xs.length := by omega
      exact ⟨by simp [strs], by simp⟩
theorem copyStrings_row (xs : List ByteArray) (hm : xs.length ≤ 8000000000) : ACalls Try.prog 94 [.d (.sl 1 (strs xs))] [] (fun av L => av = .arr 0 ∧ L = [.row 9 1 (strs xs) false]) := by
  rw [show ([.d (.sl 1 (strs xs))] : List AV) = [.d (.sl 1 (xs.map fun s => [DV.str s]))] from rfl]
  refine acalls_go ttOk zOk foOk Try.func94 rfl Try.ntmps94 rfl true rfl ?_
  conv => whnf
  refine loop_go ttOk zOk foOk (σ := Nat) (fun k => ([(0, .d (.sl 1 (xs.map fun s => [DV.str s]))), (3, .arr 0), (4, .d (.int .i64 k))], [.row 9 1 (strs (xs.take k)) false])) (fun k => k ≤ xs.length) (fun k => xs.length - k) [0, 3, 4] ?_ ?_
  · conv => whnf
    exact ⟨0, rfl, rfl, by omega⟩
  · rintro k hk
    conv => whnf
    ((with_reducible refine mt_dec (fun _ => ?_) (fun _ => ?_)) <;> (conv => whnf))
    · rename_i h
      simp only [List.length_map] at h
      obtain ⟨a, ha⟩ : ∃ a, xs[k]? = some a := ⟨_, List.getElem?_eq_getElem (by omega)⟩
      ((with_reducible refine ix_map ha ?_ ?_); (focus (first | rfl | omega)); (conv => whnf))
      repeat' (first | ((with_reducible apply z_wrap); (focus omega); (conv => whnf)) | ((with_reducible refine mt_dec (fun _ => ?_) (fun _ => ?_)) <;> (conv => whnf)) | ((with_reducible refine mt_eq (fun _ => ?_) (fun _ => ?_)) <;> (conv => whnf)) | ((with_reducible refine mt_ne (fun _ => ?_) (fun _ => ?_)) <;> (conv => whnf)) | ((with_reducible refine mt_not (fun _ => ?_) (fun _ => ?_)) <;> (conv => whnf)) | ((with_reducible refine mt_any (fun _ => ?_) (fun _ => ?_)) <;> (conv => whnf)))
      refine ⟨by simp [strs]; omega, ?_⟩
      conv => whnf
      repeat' (first | ((with_reducible apply z_wrap); (focus omega); (conv => whnf)) | ((with_reducible refine mt_dec (fun _ => ?_) (fun _ => ?_)) <;> (conv => whnf)) | ((with_reducible refine mt_eq (fun _ => ?_) (fun _ => ?_)) <;> (conv => whnf)) | ((with_reducible refine mt_ne (fun _ => ?_) (fun _ => ?_)) <;> (conv => whnf)) | ((with_reducible refine mt_not (fun _ => ?_) (fun _ => ?_)) <;> (conv => whnf)) | ((with_reducible refine mt_any (fun _ => ?_) (fun _ => ?_)) <;> (conv => whnf)))
      refine ⟨k + 1, rfl, ?_, by omega, by omega⟩
      rw [List.take_add_one, ha]
      simp [strs]
    · rename_i h
      simp only [List.length_map] at h
      obtain rfl : k = xs.length := by omega
      exact ⟨by simp [strs], by simp⟩
end Go.Proofs.Ytpedbknmkgcldaa

namespace Go.Proofs.Ytpedbknmkgcldaa
open Go.Ab Go.RowKit Go.MapKept
attribute [local irreducible] ACalls AW ADraw Into
set_option maxRecDepth 100000
theorem wrap_u64 (i : Int) : IntKind.u64.wrap i = i % 18446744073709551616 := by
  simp [IntKind.wrap, IntKind.signed, IntKind.bits]
theorem within_ok (i n : Int) (hn : 0 < n) (hn2 : n ≤ 1000000) (hi : -9223372036854775808 ≤ i ∧ i < 9223372036854775808) : ACalls Try.prog 28 [.d (.int .i64 i), .d (.int .i64 n)] [] (fun av L => av = .d (.int .i64 ((i % 18446744073709551616) % n)) ∧ L = []) := by
  refine acalls_go ttOk zOk foOk Try.func28 rfl Try.ntmps28 rfl false rfl ?_
  conv => whnf
  intro z hz
  rw [wrap_u64] at hz
  have h0 := Int.emod_nonneg i (show (18446744073709551616 : Int) ≠ 0 by decide)
  rw [← hz] at h0 ⊢
  clear hz
  conv => whnf
  intro m hm
  have hm' : m = n := by rw [hm, wrap_u64]; omega
  clear hm
  subst hm'
  conv => whnf
  refine ⟨by omega, ?_⟩
  intro r hr
  have hr' : r = z % m := by rw [hr, Int.tmod_eq_emod_of_nonneg h0]
  clear hr
  have h1 := Int.emod_nonneg z (show m ≠ 0 by omega)
  have h2 := Int.emod_lt_of_pos z hn
  rw [← hr'] at h1 h2 ⊢
  clear hr'
  conv => whnf
  intro q hq
  have hq' : q = r := by rw [hq, wrapI (by omega)]
  clear hq
  subst hq'
  conv => whnf
  exact ⟨rfl, rfl⟩
end Go.Proofs.Ytpedbknmkgcldaa

namespace Go.Proofs.Ytpedbknmkgcldaa
open Go.Ab Go.RowKit Go.MapKept
attribute [local irreducible] ACalls AW ADraw Into
set_option maxRecDepth 100000
def Act10.av (a : Act10) : AV := .agg [.d (.int .i64 a.act), .d (.str a.s), .d (.sl 1 (strs a.l)), .d (.sl 1 (nums a.picks))]
def Act10.w (a : Act10) : Int := (a.act % 18446744073709551616) % 7
def nextL (r : List ByteArray) (a : Act10) : List ByteArray × Int :=
  if a.w = 4 then (if a.l.all (fun x => decide (x.size ≤ 4096)) = false then (r, 1) else if wsum a.l > 524288 then (r, 8) else (a.l, 0))
  else if a.w = 5 ∨ a.w = 6 then (r, 0)
  else if a.s.size > 4096 then (r, 1) else if wsum r > 524288 - a.s.size - 16 then (r, 8) else (r ++ [a.s], 0)
theorem wsum_ssum (l : List ByteArray) : wsum l = 16 * l.length + ssum l := by
  induction l with
  | nil => rfl
  | cons x r ih => simp only [wsum, ssum, List.length_cons, ih]; omega
set_option maxHeartbeats 4000000 in
theorem next_ok (r : List ByteArray) (a : Act10) (ha : a.light) (hr : wsum r ≤ 524288) : ACalls Try.prog 48 [.d (.sl 1 (strs r)), a.av] [] (fun av L => av = .tup [.d (.sl 1 (strs (nextL r a).1)), .d (.int .i64 (nextL r a).2)] ∧ L = []) := by
  have hl := ha.l
  have hs := ha.s
  have hw : wsum a.l ≤ 1000000 := by rw [wsum_ssum]; have := ha.sum; omega
  have hrl := wsum_len r
  have hr0 := wsum_nonneg r
  refine acalls_go ttOk zOk foOk Try.func48 rfl Try.ntmps48 rfl false rfl ?_
  conv => whnf
  refine (within_ok a.act 7 (by decide) (by decide) ha.ok.act).mono ?_
  rintro _ _ ⟨rfl, rfl⟩
  conv => whnf
  have hwd : a.w = (a.act % 18446744073709551616) % 7 := rfl
  rw [← hwd]
  have hln : (strs a.l).length = a.l.length := strs_length a.l
  repeat' (first | ((with_reducible apply rd_intro); (focus (intro K hK; (conv => whnf); first | exact hK | (intro z hz; rw [wrapI (by omega)] at hz; subst hz; exact hK))); (conv => whnf)) | ((with_reducible apply gd_and); (focus ((conv => whnf); first | rfl | (intro K hK; (conv => whnf); first | exact hK | (intro z hz; rw [wrapI (by omega)] at hz; subst hz; exact hK)))); (conv => whnf)) | ((with_reducible apply z_wrap); (focus omega); (conv => whnf)) | ((with_reducible refine mt_dec (fun _ => ?_) (fun _ => ?_)) <;> (conv => whnf)) | ((with_reducible refine mt_eq (fun _ => ?_) (fun _ => ?_)) <;> (conv => whnf)) | ((with_reducible refine mt_ne (fun _ => ?_) (fun _ => ?_)) <;> (conv => whnf)) | ((with_reducible refine mt_not (fun _ => ?_) (fun _ => ?_)) <;> (conv => whnf)) | ((with_reducible refine mt_any (fun _ => ?_) (fun _ => ?_)) <;> (conv => whnf)))
  · rename_i h4
    refine loop_go ttOk zOk foOk (σ := Nat) (fun k => ([(0, .d (.sl 1 (strs r))), (3, .ptr 0 0), (6, .d (.int .i64 k))], [.cells [.d (.int .i64 a.act), .d (.str a.s), .d (.sl 1 (strs a.l)), .d (.sl 1 (nums a.picks))]])) (fun k => k ≤ a.l.length ∧ (a.l.take k).all (fun x => decide (x.size ≤ 4096)) = true) (fun k => a.l.length - k) [0, 3, 6] ?_ ?_
    · conv => whnf
      exact ⟨0, rfl, rfl, by simp⟩
    · rintro k ⟨hk, hall⟩
      conv => whnf
      ((with_reducible refine mt_dec (fun _ => ?_) (fun _ => ?_)) <;> (conv => whnf))
      · rename_i h
        obtain ⟨s, hss⟩ : ∃ s, a.l[k]? = some s := ⟨_, List.getElem?_eq_getElem (by omega)⟩
        refine ⟨by omega, [.str s], by rw [Int.toNat_natCast, strs, List.getElem?_map, hss]; rfl, ?_⟩
        conv => whnf
        repeat' (first | ((with_reducible apply rd_intro); (focus (intro K hK; (conv => whnf); first | exact hK | (intro z hz; rw [wrapI (by omega)] at hz; subst hz; exact hK))); (conv => whnf)) | ((with_reducible apply gd_and); (focus ((conv => whnf); first | rfl | (intro K hK; (conv => whnf); first | exact hK | (intro z hz; rw [wrapI (by omega)] at hz; subst hz; exact hK)))); (conv => whnf)) | ((with_reducible apply z_wrap); (focus omega); (conv => whnf)) | ((with_reducible refine mt_dec (fun _ => ?_) (fun _ => ?_)) <;> (conv => whnf)) | ((with_reducible refine mt_eq (fun _ => ?_) (fun _ => ?_)) <;> (conv => whnf)) | ((with_reducible refine mt_ne (fun _ => ?_) (fun _ => ?_)) <;> (conv => whnf)) | ((with_reducible refine mt_not (fun _ => ?_) (fun _ => ?_)) <;> (conv => whnf)) | ((with_reducible refine mt_any (fun _ => ?_) (fun _ => ?_)) <;> (conv => whnf)))
        · rename_i hbig
          have : a.l.all (fun x => decide (x.size ≤ 4096)) = false := by
            rw [Bool.eq_false_iff]
            intro ha
            rw [List.all_eq_true] at ha
            have := ha s (List.mem_of_getElem? hss)
            simp at this
            omega
          rw [show nextL r a = (r, 1) by simp only [nextL, if_pos h4, if_pos this]]
          exact ⟨rfl, rfl⟩
        · rename_i hbig
          refine ⟨k + 1, rfl, rfl, ⟨by omega, ?_⟩, by omega⟩
          rw [List.take_add_one, hss]
          simp only [List.all_append, hall, Option.toList, List.all_cons, List.all_nil, Bool.true_and, Bool.and_true]
          simp; omega
      · rename_i h
        obtain rfl : k = a.l.length := by omega
        rw [List.take_length] at hall
        refine (size_ok a.l (by omega)).mono ?_
        rintro _ _ ⟨rfl, rfl⟩
        conv => whnf
        repeat' (first | ((with_reducible apply rd_intro); (focus (intro K hK; (conv => whnf); first | exact hK | (intro z hz; rw [wrapI (by omega)] at hz; subst hz; exact hK))); (conv => whnf)) | ((with_reducible apply gd_and); (focus ((conv => whnf); first | rfl | (intro K hK; (conv => whnf); first | exact hK | (intro z hz; rw [wrapI (by omega)] at hz; subst hz; exact hK)))); (conv => whnf)) | ((with_reducible apply z_wrap); (focus omega); (conv => whnf)) | ((with_reducible refine mt_dec (fun _ => ?_) (fun _ => ?_)) <;> (conv => whnf)) | ((with_reducible refine mt_eq (fun _ => ?_) (fun _ => ?_)) <;> (conv => whnf)) | ((with_reducible refine mt_ne (fun _ => ?_) (fun _ => ?_)) <;> (conv => whnf)) | ((with_reducible refine mt_not (fun _ => ?_) (fun _ => ?_)) <;> (conv => whnf)) | ((with_reducible refine mt_any (fun _ => ?_) (fun _ => ?_)) <;> (conv => whnf)))
        · rename_i h5
          rw [show nextL r a = (r, 8) by simp only [nextL, if_pos h4, if_neg (show ¬ a.l.all (fun x => decide (x.size ≤ 4096)) = false by rw [hall]; decide), if_pos h5]]
          exact ⟨rfl, rfl⟩
        · rename_i h5
          refine (copyStrings_ok a.l (by omega)).mono ?_
          rintro _ _ ⟨rfl, rfl⟩
          conv => whnf
          rw [show nextL r a = (a.l, 0) by simp only [nextL, if_pos h4, if_neg (show ¬ a.l.all (fun x => decide (x.size ≤ 4096)) = false by rw [hall]; decide), if_neg h5]]
          exact ⟨rfl, rfl⟩
  · rename_i h4 h5
    rw [show nextL r a = (r, 0) by simp only [nextL, if_neg h4, h5]; simp]
    exact ⟨rfl, rfl⟩
  · rename_i h4 h5 h6
    rw [show nextL r a = (r, 0) by simp only [nextL, if_neg h4, h6]; simp]
    exact ⟨rfl, rfl⟩
  · rename_i h4 h5 h6 h7
    rw [show nextL r a = (r, 1) by simp only [nextL, if_neg h4, if_neg (show ¬ (a.w = 5 ∨ a.w = 6) by omega), if_pos (show a.s.size > 4096 by omega)]]
    exact ⟨rfl, rfl⟩
  · rename_i h4 h5 h6 h7
    have hn1 : ¬ (a.w = 5 ∨ a.w = 6) := by rintro (h | h); exact h5 h; exact h6 h
    ((with_reducible refine draw_pl ttOk zOk foOk mixedOk pl48x16 ?_ ?_); (focus kernel_rfl); (conv => whnf))
    repeat' (first | ((with_reducible apply rd_intro); (focus (intro K hK; (conv => whnf); first | exact hK | (intro z hz; rw [wrapI (by omega)] at hz; subst hz; exact hK))); (conv => whnf)) | ((with_reducible apply gd_and); (focus ((conv => whnf); first | rfl | (intro K hK; (conv => whnf); first | exact hK | (intro z hz; rw [wrapI (by omega)] at hz; subst hz; exact hK)))); (conv => whnf)) | ((with_reducible apply z_wrap); (focus omega); (conv => whnf)) | ((with_reducible refine mt_dec (fun _ => ?_) (fun _ => ?_)) <;> (conv => whnf)) | ((with_reducible refine mt_eq (fun _ => ?_) (fun _ => ?_)) <;> (conv => whnf)) | ((with_reducible refine mt_ne (fun _ => ?_) (fun _ => ?_)) <;> (conv => whnf)) | ((with_reducible refine mt_not (fun _ => ?_) (fun _ => ?_)) <;> (conv => whnf)) | ((with_reducible refine mt_any (fun _ => ?_) (fun _ => ?_)) <;> (conv => whnf)))
    refine (size_ok r (by omega)).mono ?_
    rintro _ _ ⟨rfl, rfl⟩
    conv => whnf
    repeat' (first | ((with_reducible apply rd_intro); (focus (intro K hK; (conv => whnf); first | exact hK | (intro z hz; rw [wrapI (by omega)] at hz; subst hz; exact hK))); (conv => whnf)) | ((with_reducible apply gd_and); (focus ((conv => whnf); first | rfl | (intro K hK; (conv => whnf); first | exact hK | (intro z hz; rw [wrapI (by omega)] at hz; subst hz; exact hK)))); (conv => whnf)) | ((with_reducible apply z_wrap); (focus omega); (conv => whnf)) | ((with_reducible refine mt_dec (fun _ => ?_) (fun _ => ?_)) <;> (conv => whnf)) | ((with_reducible refine mt_eq (fun _ => ?_) (fun _ => ?_)) <;> (conv => whnf)) | ((with_reducible refine mt_ne (fun _ => ?_) (fun _ => ?_)) <;> (conv => whnf)) | ((with_reducible refine mt_not (fun _ => ?_) (fun _ => ?_)) <;> (conv => whnf)) | ((with_reducible refine mt_any (fun _ => ?_) (fun _ => ?_)) <;> (conv => whnf)))
    · rename_i h8
      rw [show nextL r a = (r, 8) by simp only [nextL, if_neg h4, if_neg hn1, if_neg (show ¬ a.s.size > 4096 by omega), if_pos h8]]
      exact ⟨rfl, rfl⟩
    · rename_i h8
      rw [show nextL r a = (r ++ [a.s], 0) by simp only [nextL, if_neg h4, if_neg hn1, if_neg (show ¬ a.s.size > 4096 by omega), if_neg h8]]
      ((with_reducible refine draw_pl ttOk zOk foOk mixedOk pl48x18 ?_ ?_); (focus kernel_rfl); (conv => whnf))
      repeat' (first | ((with_reducible apply rd_intro); (focus (intro K hK; (conv => whnf); first | exact hK | (intro z hz; rw [wrapI (by omega)] at hz; subst hz; exact hK))); (conv => whnf)) | ((with_reducible apply gd_and); (focus ((conv => whnf); first | rfl | (intro K hK; (conv => whnf); first | exact hK | (intro z hz; rw [wrapI (by omega)] at hz; subst hz; exact hK)))); (conv => whnf)) | ((with_reducible apply z_wrap); (focus omega); (conv => whnf)) | ((with_reducible refine mt_dec (fun _ => ?_) (fun _ => ?_)) <;> (conv => whnf)) | ((with_reducible refine mt_eq (fun _ => ?_) (fun _ => ?_)) <;> (conv => whnf)) | ((with_reducible refine mt_ne (fun _ => ?_) (fun _ => ?_)) <;> (conv => whnf)) | ((with_reducible refine mt_not (fun _ => ?_) (fun _ => ?_)) <;> (conv => whnf)) | ((with_reducible refine mt_any (fun _ => ?_) (fun _ => ?_)) <;> (conv => whnf)))
      refine (copyStrings_row r (by omega)).mono ?_
      rintro _ _ ⟨rfl, rfl⟩
      conv => whnf
      repeat' (first | ((with_reducible apply rd_intro); (focus (intro K hK; (conv => whnf); first | exact hK | (intro z hz; rw [wrapI (by omega)] at hz; subst hz; exact hK))); (conv => whnf)) | ((with_reducible apply gd_and); (focus ((conv => whnf); first | rfl | (intro K hK; (conv => whnf); first | exact hK | (intro z hz; rw [wrapI (by omega)] at hz; subst hz; exact hK)))); (conv => whnf)) | ((with_reducible apply z_wrap); (focus omega); (conv => whnf)) | ((with_reducible refine mt_dec (fun _ => ?_) (fun _ => ?_)) <;> (conv => whnf)) | ((with_reducible refine mt_eq (fun _ => ?_) (fun _ => ?_)) <;> (conv => whnf)) | ((with_reducible refine mt_ne (fun _ => ?_) (fun _ => ?_)) <;> (conv => whnf)) | ((with_reducible refine mt_not (fun _ => ?_) (fun _ => ?_)) <;> (conv => whnf)) | ((with_reducible refine mt_any (fun _ => ?_) (fun _ => ?_)) <;> (conv => whnf)))
      refine ⟨by rw [strs_length]; (show (_ + 1) * 16 ≤ _); omega, ?_⟩
      conv => whnf
      repeat' (first | ((with_reducible apply rd_intro); (focus (intro K hK; (conv => whnf); first | exact hK | (intro z hz; rw [wrapI (by omega)] at hz; subst hz; exact hK))); (conv => whnf)) | ((with_reducible apply gd_and); (focus ((conv => whnf); first | rfl | (intro K hK; (conv => whnf); first | exact hK | (intro z hz; rw [wrapI (by omega)] at hz; subst hz; exact hK)))); (conv => whnf)) | ((with_reducible apply z_wrap); (focus omega); (conv => whnf)) | ((with_reducible refine mt_dec (fun _ => ?_) (fun _ => ?_)) <;> (conv => whnf)) | ((with_reducible refine mt_eq (fun _ => ?_) (fun _ => ?_)) <;> (conv => whnf)) | ((with_reducible refine mt_ne (fun _ => ?_) (fun _ => ?_)) <;> (conv => whnf)) | ((with_reducible refine mt_not (fun _ => ?_) (fun _ => ?_)) <;> (conv => whnf)) | ((with_reducible refine mt_any (fun _ => ?_) (fun _ => ?_)) <;> (conv => whnf)))
      rw [strs_app]
      exact ⟨rfl, rfl⟩
end Go.Proofs.Ytpedbknmkgcldaa

namespace Go.Proofs.Ytpedbknmkgcldaa
open Go.Ab Go.RowKit Go.MapKept
attribute [local irreducible] ACalls AW ADraw Into
set_option maxRecDepth 100000
theorem all_ok (l : Lg) (hl : l.recs.length ≤ 100000) : ACalls Try.prog 43 [.ptr 0 0] l.L (fun av L => av = .arr 4 ∧ L = l.L ++ [.row 9 1 (strs l.recs) false]) := by
  refine acalls_go ttOk zOk foOk Try.func43 rfl Try.ntmps43 rfl true rfl ?_
  conv => whnf
  repeat' (first | ((with_reducible apply z_wrap); (focus omega); (conv => whnf)) | ((with_reducible refine mt_dec (fun _ => ?_) (fun _ => ?_)) <;> (conv => whnf)) | ((with_reducible refine mt_eq (fun _ => ?_) (fun _ => ?_)) <;> (conv => whnf)) | ((with_reducible refine mt_ne (fun _ => ?_) (fun _ => ?_)) <;> (conv => whnf)) | ((with_reducible refine mt_not (fun _ => ?_) (fun _ => ?_)) <;> (conv => whnf)) | ((with_reducible refine mt_any (fun _ => ?_) (fun _ => ?_)) <;> (conv => whnf)))
  (refine Or.inr ?_; (conv => whnf))
  refine (cloneS_row l.recs l.sh (by omega)).mono ?_
  rintro _ _ ⟨rfl, rfl⟩
  conv => whnf
  exact ⟨rfl, rfl⟩
end Go.Proofs.Ytpedbknmkgcldaa

namespace Go.Proofs.Ytpedbknmkgcldaa
open Go.Ab Go.RowKit Go.MapKept
attribute [local irreducible] ACalls AW ADraw Into
set_option maxRecDepth 100000
theorem take_succ_eq {α : Type} {xs ys : List α} {k : Nat} {a b : α} (hx : xs[k]? = some a) (hy : ys[k]? = some b) (h : xs.take k = ys.take k) : xs.take (k + 1) = ys.take (k + 1) ↔ a = b := by
  rw [List.take_add_one, List.take_add_one, h, hx, hy]
  simp only [Option.toList_some, List.append_cancel_left_eq, List.cons.injEq, and_true]
theorem eqBytes_ok (xs ys : List UInt8) (hm : xs.length ≤ 140737488355328) : ACalls Try.prog 31 [.d (.sl 1 (u8s xs)), .d (.sl 1 (u8s ys))] [] (fun av L => av = .d (.bool (xs == ys)) ∧ L = []) := by
  refine acalls_go ttOk zOk foOk Try.func31 rfl Try.ntmps31 rfl false rfl ?_
  conv => whnf
  ((with_reducible refine mt_ne (fun _ => ?_) (fun _ => ?_)) <;> (conv => whnf))
  · rename_i h
    simp only [u8s_length] at h
    have : (xs == ys) = false := by rw [beq_eq_false_iff_ne]; intro e; exact h (by rw [e])
    rw [this]; exact ⟨rfl, rfl⟩
  · rename_i h
    simp only [u8s_length] at h
    have hl : xs.length = ys.length := by omega
    refine loop_go ttOk zOk foOk (σ := Nat) (fun k => ([(0, .d (.sl 1 (u8s xs))), (1, .d (.sl 1 (u8s ys))), (5, .d (.int .i64 k))], [])) (fun k => k ≤ xs.length ∧ xs.take k = ys.take k) (fun k => xs.length - k) [0, 1, 5] ?_ ?_
    · conv => whnf
      exact ⟨0, rfl, rfl, by simp⟩
    · rintro k ⟨hk, he⟩
      conv => whnf
      ((with_reducible refine mt_dec (fun _ => ?_) (fun _ => ?_)) <;> (conv => whnf))
      · rename_i h
        simp only [u8s_length] at h
        obtain ⟨a, ha⟩ : ∃ a, xs[k]? = some a := ⟨_, List.getElem?_eq_getElem (by omega)⟩
        obtain ⟨b, hb⟩ : ∃ b, ys[k]? = some b := ⟨_, List.getElem?_eq_getElem (by omega)⟩
        ((with_reducible refine draw_pl ttOk zOk foOk mixedOk pl31x6 ?_ ?_); (focus kernel_rfl); (conv => whnf))
        repeat' (first | ((with_reducible apply rd_intro); (focus (intro K hK; (conv => whnf); first | exact hK | (intro z hz; rw [wrapI (by omega)] at hz; subst hz; exact hK))); (conv => whnf)) | ((with_reducible apply gd_and); (focus ((conv => whnf); first | rfl | (intro K hK; (conv => whnf); first | exact hK | (intro z hz; rw [wrapI (by omega)] at hz; subst hz; exact hK)))); (conv => whnf)) | ((with_reducible apply z_wrap); (focus omega); (conv => whnf)) | ((with_reducible refine mt_dec (fun _ => ?_) (fun _ => ?_)) <;> (conv => whnf)) | ((with_reducible refine mt_eq (fun _ => ?_) (fun _ => ?_)) <;> (conv => whnf)) | ((with_reducible refine mt_ne (fun _ => ?_) (fun _ => ?_)) <;> (conv => whnf)) | ((with_reducible refine mt_not (fun _ => ?_) (fun _ => ?_)) <;> (conv => whnf)) | ((with_reducible refine mt_any (fun _ => ?_) (fun _ => ?_)) <;> (conv => whnf)))
        ((with_reducible apply rd_intro); (focus (intro K hK; (conv => whnf); exact ix_u8 ha (by first | rfl | omega) hK)); (conv => whnf))
        repeat' (first | ((with_reducible apply rd_intro); (focus (intro K hK; (conv => whnf); first | exact hK | (intro z hz; rw [wrapI (by omega)] at hz; subst hz; exact hK))); (conv => whnf)) | ((with_reducible apply gd_and); (focus ((conv => whnf); first | rfl | (intro K hK; (conv => whnf); first | exact hK | (intro z hz; rw [wrapI (by omega)] at hz; subst hz; exact hK)))); (conv => whnf)) | ((with_reducible apply z_wrap); (focus omega); (conv => whnf)) | ((with_reducible refine mt_dec (fun _ => ?_) (fun _ => ?_)) <;> (conv => whnf)) | ((with_reducible refine mt_eq (fun _ => ?_) (fun _ => ?_)) <;> (conv => whnf)) | ((with_reducible refine mt_ne (fun _ => ?_) (fun _ => ?_)) <;> (conv => whnf)) | ((with_reducible refine mt_not (fun _ => ?_) (fun _ => ?_)) <;> (conv => whnf)) | ((with_reducible refine mt_any (fun _ => ?_) (fun _ => ?_)) <;> (conv => whnf)))
        ((with_reducible apply rd_intro); (focus (intro K hK; (conv => whnf); exact ix_u8 hb (by first | rfl | omega) hK)); (conv => whnf))
        repeat' (first | ((with_reducible apply rd_intro); (focus (intro K hK; (conv => whnf); first | exact hK | (intro z hz; rw [wrapI (by omega)] at hz; subst hz; exact hK))); (conv => whnf)) | ((with_reducible apply gd_and); (focus ((conv => whnf); first | rfl | (intro K hK; (conv => whnf); first | exact hK | (intro z hz; rw [wrapI (by omega)] at hz; subst hz; exact hK)))); (conv => whnf)) | ((with_reducible apply z_wrap); (focus omega); (conv => whnf)) | ((with_reducible refine mt_dec (fun _ => ?_) (fun _ => ?_)) <;> (conv => whnf)) | ((with_reducible refine mt_eq (fun _ => ?_) (fun _ => ?_)) <;> (conv => whnf)) | ((with_reducible refine mt_ne (fun _ => ?_) (fun _ => ?_)) <;> (conv => whnf)) | ((with_reducible refine mt_not (fun _ => ?_) (fun _ => ?_)) <;> (conv => whnf)) | ((with_reducible refine mt_any (fun _ => ?_) (fun _ => ?_)) <;> (conv => whnf)))
        · rename_i h
          have h2 : a ≠ b := by intro e; rw [e] at h; exact h rfl
          have : (xs == ys) = false := by rw [beq_eq_false_iff_ne]; intro e; subst e; rw [ha] at hb; cases hb; exact h2 rfl
          rw [this]; exact ⟨rfl, rfl⟩
        · rename_i h
          have h2 : a = b := UInt8.toNat_inj.1 (by omega)
          exact ⟨k + 1, rfl, rfl, ⟨by omega, (take_succ_eq ha hb he).2 h2⟩, by omega⟩
      · rename_i h
        simp only [u8s_length] at h
        obtain rfl : k = xs.length := by omega
        have : (xs == ys) = true := by rw [List.take_length, hl, List.take_length] at he; simp [he]
        rw [this]; exact ⟨rfl, rfl⟩
end Go.Proofs.Ytpedbknmkgcldaa

namespace Go.Proofs.Ytpedbknmkgcldaa
open Go.Ab Go.RowKit Go.MapKept
attribute [local irreducible] ACalls AW ADraw Into
set_option maxRecDepth 100000
theorem eqStrings_ok (xs ys : List ByteArray) (hm : xs.length ≤ 140737488355328) : ACalls Try.prog 45 [.d (.sl 1 (strs xs)), .d (.sl 1 (strs ys))] [] (fun av L => av = .d (.bool (decide (xs = ys))) ∧ L = []) := by
  unfold strs
  refine acalls_go ttOk zOk foOk Try.func45 rfl Try.ntmps45 rfl false rfl ?_
  conv => whnf
  ((with_reducible refine mt_ne (fun _ => ?_) (fun _ => ?_)) <;> (conv => whnf))
  · rename_i h
    simp only [List.length_map] at h
    rw [decide_eq_false (fun e => h (by rw [e]))]; exact ⟨rfl, rfl⟩
  · rename_i h
    simp only [List.length_map] at h
    have hl : xs.length = ys.length := by omega
    refine loop_go ttOk zOk foOk (σ := Nat) (fun k => ([(0, .d (.sl 1 (xs.map fun s => [DV.str s]))), (1, .d (.sl 1 (ys.map fun s => [DV.str s]))), (5, .d (.int .i64 k))], [])) (fun k => k ≤ xs.length ∧ xs.take k = ys.take k) (fun k => xs.length - k) [0, 1, 5] ?_ ?_
    · conv => whnf
      exact ⟨0, rfl, rfl, by simp⟩
    · rintro k ⟨hk, he⟩
      conv => whnf
      ((with_reducible refine mt_dec (fun _ => ?_) (fun _ => ?_)) <;> (conv => whnf))
      · rename_i h
        simp only [List.length_map] at h
        obtain ⟨a, ha⟩ : ∃ a, xs[k]? = some a := ⟨_, List.getElem?_eq_getElem (by omega)⟩
        obtain ⟨b, hb⟩ : ∃ b, ys[k]? = some b := ⟨_, List.getElem?_eq_getElem (by omega)⟩
        ((with_reducible refine draw_pl ttOk zOk foOk mixedOk pl45x6 ?_ ?_); (focus kernel_rfl); (conv => whnf))
        repeat' (first | ((with_reducible apply rd_intro); (focus (intro K hK; (conv => whnf); first | exact hK | (intro z hz; rw [wrapI (by omega)] at hz; subst hz; exact hK))); (conv => whnf)) | ((with_reducible apply gd_and); (focus ((conv => whnf); first | rfl | (intro K hK; (conv => whnf); first | exact hK | (intro z hz; rw [wrapI (by omega)] at hz; subst hz; exact hK)))); (conv => whnf)) | ((with_reducible apply z_wrap); (focus omega); (conv => whnf)) | ((with_reducible refine mt_dec (fun _ => ?_) (fun _ => ?_)) <;> (conv => whnf)) | ((with_reducible refine mt_eq (fun _ => ?_) (fun _ => ?_)) <;> (conv => whnf)) | ((with_reducible refine mt_ne (fun _ => ?_) (fun _ => ?_)) <;> (conv => whnf)) | ((with_reducible refine mt_not (fun _ => ?_) (fun _ => ?_)) <;> (conv => whnf)) | ((with_reducible refine mt_any (fun _ => ?_) (fun _ => ?_)) <;> (conv => whnf)))
        ((with_reducible apply rd_intro); (focus (intro K hK; (conv => whnf); exact ix_map ha (by first | rfl | omega) hK)); (conv => whnf))
        repeat' (first | ((with_reducible apply rd_intro); (focus (intro K hK; (conv => whnf); first | exact hK | (intro z hz; rw [wrapI (by omega)] at hz; subst hz; exact hK))); (conv => whnf)) | ((with_reducible apply gd_and); (focus ((conv => whnf); first | rfl | (intro K hK; (conv => whnf); first | exact hK | (intro z hz; rw [wrapI (by omega)] at hz; subst hz; exact hK)))); (conv => whnf)) | ((with_reducible apply z_wrap); (focus omega); (conv => whnf)) | ((with_reducible refine mt_dec (fun _ => ?_) (fun _ => ?_)) <;> (conv => whnf)) | ((with_reducible refine mt_eq (fun _ => ?_) (fun _ => ?_)) <;> (conv => whnf)) | ((with_reducible refine mt_ne (fun _ => ?_) (fun _ => ?_)) <;> (conv => whnf)) | ((with_reducible refine mt_not (fun _ => ?_) (fun _ => ?_)) <;> (conv => whnf)) | ((with_reducible refine mt_any (fun _ => ?_) (fun _ => ?_)) <;> (conv => whnf)))
        ((with_reducible apply rd_intro); (focus (intro K hK; (conv => whnf); exact ix_map hb (by first | rfl | omega) hK)); (conv => whnf))
        repeat' (first | ((with_reducible apply rd_intro); (focus (intro K hK; (conv => whnf); first | exact hK | (intro z hz; rw [wrapI (by omega)] at hz; subst hz; exact hK))); (conv => whnf)) | ((with_reducible apply gd_and); (focus ((conv => whnf); first | rfl | (intro K hK; (conv => whnf); first | exact hK | (intro z hz; rw [wrapI (by omega)] at hz; subst hz; exact hK)))); (conv => whnf)) | ((with_reducible apply z_wrap); (focus omega); (conv => whnf)) | ((with_reducible refine mt_dec (fun _ => ?_) (fun _ => ?_)) <;> (conv => whnf)) | ((with_reducible refine mt_eq (fun _ => ?_) (fun _ => ?_)) <;> (conv => whnf)) | ((with_reducible refine mt_ne (fun _ => ?_) (fun _ => ?_)) <;> (conv => whnf)) | ((with_reducible refine mt_not (fun _ => ?_) (fun _ => ?_)) <;> (conv => whnf)) | ((with_reducible refine mt_any (fun _ => ?_) (fun _ => ?_)) <;> (conv => whnf)))
        · rename_i h
          have h2 : a ≠ b := by intro e; subst e; simp at h
          rw [decide_eq_false (fun e => by subst e; rw [ha] at hb; cases hb; exact h2 rfl)]; exact ⟨rfl, rfl⟩
        · rename_i h
          have h2 : a = b := by
            rcases a with ⟨⟨a⟩⟩; rcases b with ⟨⟨b⟩⟩
            simpa using h
          exact ⟨k + 1, rfl, rfl, ⟨by omega, (take_succ_eq ha hb he).2 h2⟩, by omega⟩
      · rename_i h
        simp only [List.length_map] at h
        obtain rfl : k = xs.length := by omega
        rw [decide_eq_true (by rw [List.take_length, hl, List.take_length] at he; exact he)]; exact ⟨rfl, rfl⟩
end Go.Proofs.Ytpedbknmkgcldaa

namespace Go.Proofs.Ytpedbknmkgcldaa
open Go.Ab Go.RowKit Go.MapKept
attribute [local irreducible] ACalls AW ADraw Into
set_option maxRecDepth 100000
theorem num10_ok (n : Int) : ACalls Try.prog 41 [.d (.int .i64 n)] [] (fun av L => av = .d (.int .i64 n) ∧ L = []) := by
  refine acalls_go ttOk zOk foOk Try.func41 rfl Try.ntmps41 rfl false rfl ?_
  conv => whnf
  exact ⟨rfl, rfl⟩
end Go.Proofs.Ytpedbknmkgcldaa

namespace Go.Proofs.Ytpedbknmkgcldaa
open Go.Ab Go.RowKit Go.MapKept
attribute [local irreducible] ACalls AW ADraw Into
set_option maxRecDepth 100000
def filesD (files : List FileS) : DV := .sl 2 (files.map FileS.cs)
theorem may_bad {files : List FileS} {k : Nat} (h : k < files.length) (hm : mayAt files k = false) : mayNew files = false := by
  unfold mayNew
  have : (List.range files.length).all (mayAt files) = false := by
    rw [Bool.eq_false_iff]
    intro ha
    rw [List.all_eq_true] at ha
    rw [ha k (by simpa using h)] at hm
    cases hm
  rw [this]; rfl
theorem new_bad {files : List FileS} {k : Nat} (h : k < files.length) (hm : mayAt files k = false) {A : Prop} {av : AV} {L : List AB} (ha : av = .tup [.d .nilp, .d (.int .i64 1)]) (hL : L = []) : (mayNew files = true → A) ∧ (mayNew files = false → av = .tup [.d .nilp, .d (.int .i64 1)] ∧ L = []) :=
  ⟨fun h1 => by (rw [may_bad h hm] at h1; cases h1), fun _ => ⟨ha, hL⟩⟩
attribute [local irreducible] goodS in
theorem new_ok (files : List FileS) (hp : ∀ f ∈ files, f.data.length ≤ 140737488355328) (hl : files.length ≤ 140737488355328) : ACalls Try.prog 15 [.d (filesD files)] [] (fun av L => (mayNew files = true → av = .tup [.ptr 0 0, .d (.int .i64 0)] ∧ ∃ fs, L = (Dk.mk 0 false 0 fs).L ∧ newFl fs files) ∧ (mayNew files = false → av = .tup [.d .nilp, .d (.int .i64 1)] ∧ L = [])) := by
  refine acalls_go ttOk zOk foOk Try.func15 rfl Try.ntmps15 rfl false rfl ?_
  conv => whnf
  refine loop_go2 ttOk zOk foOk (σ := Nat) (ρ := List Fl) (fun k fs => ([(0, .d (filesD files)), (4, .ptr 0 0), (10, .d (filesD files)), (11, .d (.int .i64 (files.map FileS.cs).length)), (12, .d (.int .i64 k))], (Dk.mk 0 false 0 fs).L))
    (fun k fs => k ≤ files.length ∧ (∀ i, i < k → mayAt files i = true) ∧ newFl fs (files.take k)) (fun k _ => files.length - k) [0, 4, 10, 11, 12] ?_ ?_
  · conv => whnf
    exact ⟨0, [], rfl, rfl, ⟨by omega, fun i h => by omega, by simp [newFl]⟩⟩
  · rintro k fs ⟨hk, hm, hf⟩
    conv => whnf
    refine sp_dec (fun h => ?_) (fun h => ?_) <;> simp only [List.length_map] at h
    · conv => whnf
      have hkl : k < files.length := by omega
      obtain ⟨f, hff⟩ : ∃ f, files[k]? = some f := ⟨_, List.getElem?_eq_getElem hkl⟩
      have hma := mayAt_eq hff
      ((with_reducible refine ix_map hff ?_ ?_); (focus (first | rfl | omega)); (conv => whnf))
      ((with_reducible refine draw_pl ttOk zOk foOk mixedOk pl15x5 ?_ ?_); (focus kernel_rfl); (conv => whnf))
      ((with_reducible apply rd_intro); (focus (intro K hK; (conv => whnf); first | exact hK | (intro z hz; rw [wrapI (by omega)] at hz; subst hz; exact hK))); (conv => whnf))
      ((with_reducible apply rd_intro); (focus (intro K hK; (conv => whnf); first | exact hK | (intro z hz; rw [wrapI (by omega)] at hz; subst hz; exact hK))); (conv => whnf))
      ((with_reducible refine (good_ok f.name).mono ?_); rintro _ _ ⟨rfl, rfl⟩; (conv => whnf))
      repeat' (first | ((with_reducible apply rd_intro); (focus (intro K hK; (conv => whnf); first | exact hK | (intro z hz; rw [wrapI (by omega)] at hz; subst hz; exact hK))); (conv => whnf)) | ((with_reducible apply gd_and); (focus ((conv => whnf); first | rfl | (intro K hK; (conv => whnf); first | exact hK | (intro z hz; rw [wrapI (by omega)] at hz; subst hz; exact hK)))); (conv => whnf)) | ((with_reducible apply z_wrap); (focus omega); (conv => whnf)) | ((with_reducible refine mt_dec (fun _ => ?_) (fun _ => ?_)) <;> (conv => whnf)) | ((with_reducible refine mt_eq (fun _ => ?_) (fun _ => ?_)) <;> (conv => whnf)) | ((with_reducible refine mt_ne (fun _ => ?_) (fun _ => ?_)) <;> (conv => whnf)) | ((with_reducible refine mt_not (fun _ => ?_) (fun _ => ?_)) <;> (conv => whnf)) | ((with_reducible refine mt_any (fun _ => ?_) (fun _ => ?_)) <;> (conv => whnf)))
      · exact new_bad hkl (by rw [hma]; simp [*]) rfl rfl
      · rename_i h2
        exact new_bad hkl (by rw [hma]; simp at h2; simp; omega) rfl rfl
      · obtain ⟨g, hgg⟩ : ∃ g, files[k - 1]? = some g := ⟨_, List.getElem?_eq_getElem (by omega)⟩
        rw [prevLess_eq hgg] at hma
        ((with_reducible apply rd_intro); (focus (intro K hK; (conv => whnf); exact ix_map hgg (by first | rfl | omega) hK)); (conv => whnf))
        repeat' (first | ((with_reducible apply rd_intro); (focus (intro K hK; (conv => whnf); first | exact hK | (intro z hz; rw [wrapI (by omega)] at hz; subst hz; exact hK))); (conv => whnf)) | ((with_reducible apply gd_and); (focus ((conv => whnf); first | rfl | (intro K hK; (conv => whnf); first | exact hK | (intro z hz; rw [wrapI (by omega)] at hz; subst hz; exact hK)))); (conv => whnf)) | ((with_reducible apply z_wrap); (focus omega); (conv => whnf)) | ((with_reducible refine mt_dec (fun _ => ?_) (fun _ => ?_)) <;> (conv => whnf)) | ((with_reducible refine mt_eq (fun _ => ?_) (fun _ => ?_)) <;> (conv => whnf)) | ((with_reducible refine mt_ne (fun _ => ?_) (fun _ => ?_)) <;> (conv => whnf)) | ((with_reducible refine mt_not (fun _ => ?_) (fun _ => ?_)) <;> (conv => whnf)) | ((with_reducible refine mt_any (fun _ => ?_) (fun _ => ?_)) <;> (conv => whnf)))
        · exact new_bad hkl (by rw [hma]; simp [lessS, *]; omega) rfl rfl
        · have hm2 : mayAt files k = true := by rw [hma]; simp at *; simp [lessS, *]; omega
          ((with_reducible refine draw_pl ttOk zOk foOk mixedOk pl15x7 ?_ ?_); (focus kernel_rfl); (conv => whnf))
          repeat' (first | ((with_reducible apply rd_intro); (focus (intro K hK; (conv => whnf); first | exact hK | (intro z hz; rw [wrapI (by omega)] at hz; subst hz; exact hK))); (conv => whnf)) | ((with_reducible apply gd_and); (focus ((conv => whnf); first | rfl | (intro K hK; (conv => whnf); first | exact hK | (intro z hz; rw [wrapI (by omega)] at hz; subst hz; exact hK)))); (conv => whnf)) | ((with_reducible apply z_wrap); (focus omega); (conv => whnf)) | ((with_reducible refine mt_dec (fun _ => ?_) (fun _ => ?_)) <;> (conv => whnf)) | ((with_reducible refine mt_eq (fun _ => ?_) (fun _ => ?_)) <;> (conv => whnf)) | ((with_reducible refine mt_ne (fun _ => ?_) (fun _ => ?_)) <;> (conv => whnf)) | ((with_reducible refine mt_not (fun _ => ?_) (fun _ => ?_)) <;> (conv => whnf)) | ((with_reducible refine mt_any (fun _ => ?_) (fun _ => ?_)) <;> (conv => whnf)))
          ((with_reducible refine (clone_ok f.data (hp f (List.mem_of_getElem? hff))).mono ?_); rintro _ _ ⟨rfl, rfl⟩; (conv => whnf))
          repeat' (first | ((with_reducible apply rd_intro); (focus (intro K hK; (conv => whnf); first | exact hK | (intro z hz; rw [wrapI (by omega)] at hz; subst hz; exact hK))); (conv => whnf)) | ((with_reducible apply gd_and); (focus ((conv => whnf); first | rfl | (intro K hK; (conv => whnf); first | exact hK | (intro z hz; rw [wrapI (by omega)] at hz; subst hz; exact hK)))); (conv => whnf)) | ((with_reducible apply z_wrap); (focus omega); (conv => whnf)) | ((with_reducible refine mt_dec (fun _ => ?_) (fun _ => ?_)) <;> (conv => whnf)) | ((with_reducible refine mt_eq (fun _ => ?_) (fun _ => ?_)) <;> (conv => whnf)) | ((with_reducible refine mt_ne (fun _ => ?_) (fun _ => ?_)) <;> (conv => whnf)) | ((with_reducible refine mt_not (fun _ => ?_) (fun _ => ?_)) <;> (conv => whnf)) | ((with_reducible refine mt_any (fun _ => ?_) (fun _ => ?_)) <;> (conv => whnf)))
          ((with_reducible refine (clone_ok f.data (hp f (List.mem_of_getElem? hff))).mono ?_); rintro _ _ ⟨rfl, rfl⟩; (conv => whnf))
          repeat' (first | ((with_reducible apply rd_intro); (focus (intro K hK; (conv => whnf); first | exact hK | (intro z hz; rw [wrapI (by omega)] at hz; subst hz; exact hK))); (conv => whnf)) | ((with_reducible apply gd_and); (focus ((conv => whnf); first | rfl | (intro K hK; (conv => whnf); first | exact hK | (intro z hz; rw [wrapI (by omega)] at hz; subst hz; exact hK)))); (conv => whnf)) | ((with_reducible apply z_wrap); (focus omega); (conv => whnf)) | ((with_reducible refine mt_dec (fun _ => ?_) (fun _ => ?_)) <;> (conv => whnf)) | ((with_reducible refine mt_eq (fun _ => ?_) (fun _ => ?_)) <;> (conv => whnf)) | ((with_reducible refine mt_ne (fun _ => ?_) (fun _ => ?_)) <;> (conv => whnf)) | ((with_reducible refine mt_not (fun _ => ?_) (fun _ => ?_)) <;> (conv => whnf)) | ((with_reducible refine mt_any (fun _ => ?_) (fun _ => ?_)) <;> (conv => whnf)))
          intro b
          conv => whnf
          repeat' (first | ((with_reducible apply rd_intro); (focus (intro K hK; (conv => whnf); first | exact hK | (intro z hz; rw [wrapI (by omega)] at hz; subst hz; exact hK))); (conv => whnf)) | ((with_reducible apply gd_and); (focus ((conv => whnf); first | rfl | (intro K hK; (conv => whnf); first | exact hK | (intro z hz; rw [wrapI (by omega)] at hz; subst hz; exact hK)))); (conv => whnf)) | ((with_reducible apply z_wrap); (focus omega); (conv => whnf)) | ((with_reducible refine mt_dec (fun _ => ?_) (fun _ => ?_)) <;> (conv => whnf)) | ((with_reducible refine mt_eq (fun _ => ?_) (fun _ => ?_)) <;> (conv => whnf)) | ((with_reducible refine mt_ne (fun _ => ?_) (fun _ => ?_)) <;> (conv => whnf)) | ((with_reducible refine mt_not (fun _ => ?_) (fun _ => ?_)) <;> (conv => whnf)) | ((with_reducible refine mt_any (fun _ => ?_) (fun _ => ?_)) <;> (conv => whnf)))
          refine ⟨none, 3, _, by rw [mfind_ent, new_none hf (fun i hi => by rcases Nat.lt_or_ge i k with h1 | h1; exact hm i h1; rw [show i = k by omega]; exact hm2) hff]; rfl, rfl, ?_⟩
          intro L' hL
          subst hL
          conv => whnf
          repeat' (first | ((with_reducible apply rd_intro); (focus (intro K hK; (conv => whnf); first | exact hK | (intro z hz; rw [wrapI (by omega)] at hz; subst hz; exact hK))); (conv => whnf)) | ((with_reducible apply gd_and); (focus ((conv => whnf); first | rfl | (intro K hK; (conv => whnf); first | exact hK | (intro z hz; rw [wrapI (by omega)] at hz; subst hz; exact hK)))); (conv => whnf)) | ((with_reducible apply z_wrap); (focus omega); (conv => whnf)) | ((with_reducible refine mt_dec (fun _ => ?_) (fun _ => ?_)) <;> (conv => whnf)) | ((with_reducible refine mt_eq (fun _ => ?_) (fun _ => ?_)) <;> (conv => whnf)) | ((with_reducible refine mt_ne (fun _ => ?_) (fun _ => ?_)) <;> (conv => whnf)) | ((with_reducible refine mt_not (fun _ => ?_) (fun _ => ?_)) <;> (conv => whnf)) | ((with_reducible refine mt_any (fun _ => ?_) (fun _ => ?_)) <;> (conv => whnf)))
          refine ⟨k + 1, fs ++ [⟨f.name, b, f.data, f.data⟩], rfl, ?_, ⟨by omega, fun i hi => ?_, ?_⟩, by omega⟩
          · simp [Dk.L, Fl.ent, mputAt]
          · rcases Nat.lt_or_ge i k with h1 | h1
            · exact hm i h1
            · rw [show i = k by omega]; exact hm2
          · unfold newFl at hf ⊢
            rw [List.map_append, hf, List.take_add_one, hff]
            simp
      · have hm2 : mayAt files k = true := by rw [hma]; simp at *; simp [*]; omega
        ((with_reducible refine draw_pl ttOk zOk foOk mixedOk pl15x7 ?_ ?_); (focus kernel_rfl); (conv => whnf))
        repeat' (first | ((with_reducible apply rd_intro); (focus (intro K hK; (conv => whnf); first | exact hK | (intro z hz; rw [wrapI (by omega)] at hz; subst hz; exact hK))); (conv => whnf)) | ((with_reducible apply gd_and); (focus ((conv => whnf); first | rfl | (intro K hK; (conv => whnf); first | exact hK | (intro z hz; rw [wrapI (by omega)] at hz; subst hz; exact hK)))); (conv => whnf)) | ((with_reducible apply z_wrap); (focus omega); (conv => whnf)) | ((with_reducible refine mt_dec (fun _ => ?_) (fun _ => ?_)) <;> (conv => whnf)) | ((with_reducible refine mt_eq (fun _ => ?_) (fun _ => ?_)) <;> (conv => whnf)) | ((with_reducible refine mt_ne (fun _ => ?_) (fun _ => ?_)) <;> (conv => whnf)) | ((with_reducible refine mt_not (fun _ => ?_) (fun _ => ?_)) <;> (conv => whnf)) | ((with_reducible refine mt_any (fun _ => ?_) (fun _ => ?_)) <;> (conv => whnf)))
        ((with_reducible refine (clone_ok f.data (hp f (List.mem_of_getElem? hff))).mono ?_); rintro _ _ ⟨rfl, rfl⟩; (conv => whnf))
        repeat' (first | ((with_reducible apply rd_intro); (focus (intro K hK; (conv => whnf); first | exact hK | (intro z hz; rw [wrapI (by omega)] at hz; subst hz; exact hK))); (conv => whnf)) | ((with_reducible apply gd_and); (focus ((conv => whnf); first | rfl | (intro K hK; (conv => whnf); first | exact hK | (intro z hz; rw [wrapI (by omega)] at hz; subst hz; exact hK)))); (conv => whnf)) | ((with_reducible apply z_wrap); (focus omega); (conv => whnf)) | ((with_reducible refine mt_dec (fun _ => ?_) (fun _ => ?_)) <;> (conv => whnf)) | ((with_reducible refine mt_eq (fun _ => ?_) (fun _ => ?_)) <;> (conv => whnf)) | ((with_reducible refine mt_ne (fun _ => ?_) (fun _ => ?_)) <;> (conv => whnf)) | ((with_reducible refine mt_not (fun _ => ?_) (fun _ => ?_)) <;> (conv => whnf)) | ((with_reducible refine mt_any (fun _ => ?_) (fun _ => ?_)) <;> (conv => whnf)))
        ((with_reducible refine (clone_ok f.data (hp f (List.mem_of_getElem? hff))).mono ?_); rintro _ _ ⟨rfl, rfl⟩; (conv => whnf))
        repeat' (first | ((with_reducible apply rd_intro); (focus (intro K hK; (conv => whnf); first | exact hK | (intro z hz; rw [wrapI (by omega)] at hz; subst hz; exact hK))); (conv => whnf)) | ((with_reducible apply gd_and); (focus ((conv => whnf); first | rfl | (intro K hK; (conv => whnf); first | exact hK | (intro z hz; rw [wrapI (by omega)] at hz; subst hz; exact hK)))); (conv => whnf)) | ((with_reducible apply z_wrap); (focus omega); (conv => whnf)) | ((with_reducible refine mt_dec (fun _ => ?_) (fun _ => ?_)) <;> (conv => whnf)) | ((with_reducible refine mt_eq (fun _ => ?_) (fun _ => ?_)) <;> (conv => whnf)) | ((with_reducible refine mt_ne (fun _ => ?_) (fun _ => ?_)) <;> (conv => whnf)) | ((with_reducible refine mt_not (fun _ => ?_) (fun _ => ?_)) <;> (conv => whnf)) | ((with_reducible refine mt_any (fun _ => ?_) (fun _ => ?_)) <;> (conv => whnf)))
        intro b
        conv => whnf
        repeat' (first | ((with_reducible apply rd_intro); (focus (intro K hK; (conv => whnf); first | exact hK | (intro z hz; rw [wrapI (by omega)] at hz; subst hz; exact hK))); (conv => whnf)) | ((with_reducible apply gd_and); (focus ((conv => whnf); first | rfl | (intro K hK; (conv => whnf); first | exact hK | (intro z hz; rw [wrapI (by omega)] at hz; subst hz; exact hK)))); (conv => whnf)) | ((with_reducible apply z_wrap); (focus omega); (conv => whnf)) | ((with_reducible refine mt_dec (fun _ => ?_) (fun _ => ?_)) <;> (conv => whnf)) | ((with_reducible refine mt_eq (fun _ => ?_) (fun _ => ?_)) <;> (conv => whnf)) | ((with_reducible refine mt_ne (fun _ => ?_) (fun _ => ?_)) <;> (conv => whnf)) | ((with_reducible refine mt_not (fun _ => ?_) (fun _ => ?_)) <;> (conv => whnf)) | ((with_reducible refine mt_any (fun _ => ?_) (fun _ => ?_)) <;> (conv => whnf)))
        refine ⟨none, 3, _, by rw [mfind_ent, new_none hf (fun i hi => by rcases Nat.lt_or_ge i k with h1 | h1; exact hm i h1; rw [show i = k by omega]; exact hm2) hff]; rfl, rfl, ?_⟩
        intro L' hL
        subst hL
        conv => whnf
        repeat' (first | ((with_reducible apply rd_intro); (focus (intro K hK; (conv => whnf); first | exact hK | (intro z hz; rw [wrapI (by omega)] at hz; subst hz; exact hK))); (conv => whnf)) | ((with_reducible apply gd_and); (focus ((conv => whnf); first | rfl | (intro K hK; (conv => whnf); first | exact hK | (intro z hz; rw [wrapI (by omega)] at hz; subst hz; exact hK)))); (conv => whnf)) | ((with_reducible apply z_wrap); (focus omega); (conv => whnf)) | ((with_reducible refine mt_dec (fun _ => ?_) (fun _ => ?_)) <;> (conv => whnf)) | ((with_reducible refine mt_eq (fun _ => ?_) (fun _ => ?_)) <;> (conv => whnf)) | ((with_reducible refine mt_ne (fun _ => ?_) (fun _ => ?_)) <;> (conv => whnf)) | ((with_reducible refine mt_not (fun _ => ?_) (fun _ => ?_)) <;> (conv => whnf)) | ((with_reducible refine mt_any (fun _ => ?_) (fun _ => ?_)) <;> (conv => whnf)))
        refine ⟨k + 1, fs ++ [⟨f.name, b, f.data, f.data⟩], rfl, ?_, ⟨by omega, fun i hi => ?_, ?_⟩, by omega⟩
        · simp [Dk.L, Fl.ent, mputAt]
        · rcases Nat.lt_or_ge i k with h1 | h1
          · exact hm i h1
          · rw [show i = k by omega]; exact hm2
        · unfold newFl at hf ⊢
          rw [List.map_append, hf, List.take_add_one, hff]
          simp
    · conv => whnf
      refine sp_dec (fun h16 => ?_) (fun h16 => ?_)
      · conv => whnf
        have : mayNew files = false := by unfold mayNew; simp at h16; rw [decide_eq_false (show ¬ files.length ≤ 16 by omega)]; simp
        exact ⟨fun h => by (rw [this] at h; cases h), fun _ => ⟨rfl, rfl⟩⟩
      · conv => whnf
        obtain rfl : k = files.length := by omega
        have : mayNew files = true := by
          unfold mayNew
          simp only [List.length_map] at h16
          rw [decide_eq_true (show files.length ≤ 16 by omega), Bool.and_true, List.all_eq_true]
          intro i hi
          exact hm i (by simpa using hi)
        refine ⟨fun _ => ⟨rfl, fs, rfl, by simpa using hf⟩, fun h => by (rw [this] at h; cases h)⟩
end Go.Proofs.Ytpedbknmkgcldaa

namespace Go.Proofs.Ytpedbknmkgcldaa
open Go.Ab Go.RowKit
attribute [local irreducible] ACalls AW ADraw Into
theorem num9_ok (n : Int) : ACalls Try.prog 16 [.d (.int .i64 n)] [] (fun av L => av = .d (.int .i64 n) ∧ L = []) := by
  refine acalls_go ttOk zOk foOk Try.func16 rfl Try.ntmps16 rfl false rfl ?_
  conv => whnf
  exact ⟨rfl, rfl⟩
end Go.Proofs.Ytpedbknmkgcldaa

namespace Go.Proofs.Ytpedbknmkgcldaa
open Go.Ab Go.RowKit Go.MapKept
attribute [local irreducible] ACalls AW ADraw Into
set_option maxRecDepth 100000
theorem new_nil : mayNew [] = true := by decide
theorem wakes9_ok : ACalls Try.prog 20 [] [] (fun av L => av = .d (.bool true) ∧ L = []) := by
  refine acalls_go ttOk zOk foOk Try.func20 rfl Try.ntmps20 rfl false rfl ?_
  conv => whnf
  refine (new_ok [] (by simp) (by simp)).mono ?_
  rintro _ _ ⟨h, _⟩
  obtain ⟨rfl, fs, rfl, hfs⟩ := h new_nil
  have : fs = [] := by simpa [newFl] using hfs
  subst this
  conv => whnf
  clear h hfs
  ((with_reducible refine (num9_ok 0).mono ?_); rintro _ _ ⟨rfl, rfl⟩; (conv => whnf))
  repeat' (first | ((with_reducible apply z_wrap); (focus omega); (conv => whnf)) | ((with_reducible refine mt_dec (fun _ => ?_) (fun _ => ?_)) <;> (conv => whnf)) | ((with_reducible refine mt_eq (fun _ => ?_) (fun _ => ?_)) <;> (conv => whnf)) | ((with_reducible refine mt_ne (fun _ => ?_) (fun _ => ?_)) <;> (conv => whnf)) | ((with_reducible refine mt_not (fun _ => ?_) (fun _ => ?_)) <;> (conv => whnf)) | ((with_reducible refine mt_any (fun _ => ?_) (fun _ => ?_)) <;> (conv => whnf)))
  refine ⟨by simp, ?_⟩
  conv => whnf
  repeat' (first | ((with_reducible apply z_wrap); (focus omega); (conv => whnf)) | ((with_reducible refine mt_dec (fun _ => ?_) (fun _ => ?_)) <;> (conv => whnf)) | ((with_reducible refine mt_eq (fun _ => ?_) (fun _ => ?_)) <;> (conv => whnf)) | ((with_reducible refine mt_ne (fun _ => ?_) (fun _ => ?_)) <;> (conv => whnf)) | ((with_reducible refine mt_not (fun _ => ?_) (fun _ => ?_)) <;> (conv => whnf)) | ((with_reducible refine mt_any (fun _ => ?_) (fun _ => ?_)) <;> (conv => whnf)))
  refine (append_ok (Dk.mk 0 false 0 []) ⟨by simp [Dk.dat]⟩ ⟨#[97]⟩ [97, 98, 99] (by simp)).mono ?_
  rintro _ _ ⟨d', rfl, rfl, hd'⟩
  rw [show (Dk.mk 0 false 0 []).dat.append ⟨#[97]⟩ [97, 98, 99] = (0, ⟨1, false, 0, [⟨⟨#[97]⟩, [], [97, 98, 99]⟩]⟩) by rfl] at hd' ⊢
  conv => whnf
  ((with_reducible refine (num9_ok 0).mono ?_); rintro _ _ ⟨rfl, rfl⟩; (conv => whnf))
  repeat' (first | ((with_reducible apply z_wrap); (focus omega); (conv => whnf)) | ((with_reducible refine mt_dec (fun _ => ?_) (fun _ => ?_)) <;> (conv => whnf)) | ((with_reducible refine mt_eq (fun _ => ?_) (fun _ => ?_)) <;> (conv => whnf)) | ((with_reducible refine mt_ne (fun _ => ?_) (fun _ => ?_)) <;> (conv => whnf)) | ((with_reducible refine mt_not (fun _ => ?_) (fun _ => ?_)) <;> (conv => whnf)) | ((with_reducible refine mt_any (fun _ => ?_) (fun _ => ?_)) <;> (conv => whnf)))
  have hrd : d'.dat.read ⟨#[97]⟩ = ([97, 98, 99], 0) := by rw [hd']; rfl
  refine (read_ok d' (by rw [hd']; exact ⟨by simp⟩) ⟨#[97]⟩).mono ?_
  rintro _ _ ⟨rfl, rfl⟩
  rw [hrd]
  conv => whnf
  ((with_reducible refine (num9_ok 0).mono ?_); rintro _ _ ⟨rfl, rfl⟩; (conv => whnf))
  repeat' (first | ((with_reducible apply z_wrap); (focus omega); (conv => whnf)) | ((with_reducible refine mt_dec (fun _ => ?_) (fun _ => ?_)) <;> (conv => whnf)) | ((with_reducible refine mt_eq (fun _ => ?_) (fun _ => ?_)) <;> (conv => whnf)) | ((with_reducible refine mt_ne (fun _ => ?_) (fun _ => ?_)) <;> (conv => whnf)) | ((with_reducible refine mt_not (fun _ => ?_) (fun _ => ?_)) <;> (conv => whnf)) | ((with_reducible refine mt_any (fun _ => ?_) (fun _ => ?_)) <;> (conv => whnf)))
  refine ⟨by simp, ?_⟩
  conv => whnf
  repeat' (first | ((with_reducible apply z_wrap); (focus omega); (conv => whnf)) | ((with_reducible refine mt_dec (fun _ => ?_) (fun _ => ?_)) <;> (conv => whnf)) | ((with_reducible refine mt_eq (fun _ => ?_) (fun _ => ?_)) <;> (conv => whnf)) | ((with_reducible refine mt_ne (fun _ => ?_) (fun _ => ?_)) <;> (conv => whnf)) | ((with_reducible refine mt_not (fun _ => ?_) (fun _ => ?_)) <;> (conv => whnf)) | ((with_reducible refine mt_any (fun _ => ?_) (fun _ => ?_)) <;> (conv => whnf)))
  refine (eqBytes_ok [97, 98, 99] [97, 98, 99] (by simp)).mono ?_
  rintro _ _ ⟨rfl, rfl⟩
  conv => whnf
  exact ⟨rfl, rfl⟩
end Go.Proofs.Ytpedbknmkgcldaa

namespace Go.Proofs.Ytpedbknmkgcldaa
open Go.Ab Go.RowKit Go.MapKept
attribute [local irreducible] ACalls AW ADraw Into
set_option maxRecDepth 100000
def newDk : Dk := ⟨0, false, 0, []⟩
theorem disk10_ok : ACalls Try.prog 40 [] [] (fun av L => av = .ptr 0 0 ∧ L = newDk.L) := by
  refine acalls_go ttOk zOk foOk Try.func40 rfl Try.ntmps40 rfl false rfl ?_
  conv => whnf
  refine (new_ok [] (by simp) (by simp)).mono ?_
  rintro _ _ ⟨h, _⟩
  obtain ⟨rfl, fs, rfl, hfs⟩ := h new_nil
  have : fs = [] := by simpa [newFl] using hfs
  subst this
  conv => whnf
  clear h hfs
  ((with_reducible refine (num10_ok 0).mono ?_); rintro _ _ ⟨rfl, rfl⟩; (conv => whnf))
  repeat' (first | ((with_reducible apply z_wrap); (focus omega); (conv => whnf)) | ((with_reducible refine mt_dec (fun _ => ?_) (fun _ => ?_)) <;> (conv => whnf)) | ((with_reducible refine mt_eq (fun _ => ?_) (fun _ => ?_)) <;> (conv => whnf)) | ((with_reducible refine mt_ne (fun _ => ?_) (fun _ => ?_)) <;> (conv => whnf)) | ((with_reducible refine mt_not (fun _ => ?_) (fun _ => ?_)) <;> (conv => whnf)) | ((with_reducible refine mt_any (fun _ => ?_) (fun _ => ?_)) <;> (conv => whnf)))
  exact ⟨rfl, rfl⟩
end Go.Proofs.Ytpedbknmkgcldaa

namespace Go.Proofs.Ytpedbknmkgcldaa
open Go.Ab Go.RowKit Go.MapKept
attribute [local irreducible] ACalls AW ADraw Into
set_option maxRecDepth 100000
/-! ## the calls of a log on a disk with power -/
theorem LS.pre {l : Lg} {x : LS} (hx : x.ok) (hl : l.dat = x.l) : l.d.dat.fine ∧ (0 ≤ l.size ∧ l.size ≤ 524288) ∧ l.recs.length ≤ 100000 ∧ l.recs = x.recs := by
  have e1 : l.d.dat = x.l.d := by rw [← hl]; rfl
  have e2 : l.size = wsum x.recs := by
    have : l.size = l.dat.size := rfl
    rw [this, hl]; rfl
  have e3 : l.recs = x.recs := by
    have : l.recs = l.dat.recs := rfl
    rw [this, hl]; rfl
  have h1 := wsum_nonneg x.recs
  have h2 := hx.sum
  have h3 := hx.recs
  rw [e1, e2, e3]
  exact ⟨hx.fine, ⟨h1, h2⟩, by omega, rfl⟩
theorem append_good (l : Lg) {x : LS} (hx : x.ok) (hl : l.dat = x.l) (s : ByteArray) (h1 : s.size ≤ 4096) (h2 : (s.size : Int) + 16 ≤ 524288 - wsum x.recs) : ACalls Try.prog 42 [.ptr 0 0, .d (.str s)] l.L (fun av L => ∃ l' : Lg, av = .d (.int .i64 0) ∧ L = l'.L1 ∧ l'.dat = (x.put s).l) := by
  obtain ⟨p1, p2, p3, p4⟩ := LS.pre hx hl
  refine (lappend_ok l p1.ok p2 p3 s (by omega)).mono ?_
  rintro _ _ ⟨l', rfl, rfl, hl'⟩
  rw [hl, LS.append hx h1 h2] at hl' ⊢
  exact ⟨l', rfl, rfl, hl'⟩
theorem append_long (l : Lg) {x : LS} (hx : x.ok) (hl : l.dat = x.l) (s : ByteArray) (h1 : s.size > 4096) (hs : s.size ≤ 100000000) : ACalls Try.prog 42 [.ptr 0 0, .d (.str s)] l.L (fun av L => ∃ l' : Lg, av = .d (.int .i64 1) ∧ L = l'.L ∧ l'.dat = x.l) := by
  obtain ⟨p1, p2, p3, p4⟩ := LS.pre hx hl
  refine (lappend_ok l p1.ok p2 p3 s hs).mono ?_
  rintro _ _ ⟨l', rfl, rfl, hl'⟩
  rw [hl, lapp_long (l := x.l) rfl h1] at hl' ⊢
  exact ⟨l', rfl, rfl, hl'⟩
theorem append_full (l : Lg) {x : LS} (hx : x.ok) (hl : l.dat = x.l) (s : ByteArray) (h1 : s.size ≤ 4096) (h2 : (s.size : Int) + 16 > 524288 - wsum x.recs) : ACalls Try.prog 42 [.ptr 0 0, .d (.str s)] l.L (fun av L => ∃ l' : Lg, av = .d (.int .i64 8) ∧ L = l'.L ∧ l'.dat = x.l) := by
  obtain ⟨p1, p2, p3, p4⟩ := LS.pre hx hl
  refine (lappend_ok l p1.ok p2 p3 s (by omega)).mono ?_
  rintro _ _ ⟨l', rfl, rfl, hl'⟩
  rw [hl, lapp_full (l := x.l) rfl (by omega) h2] at hl' ⊢
  exact ⟨l', rfl, rfl, hl'⟩
theorem reset_bad (l : Lg) {x : LS} (hx : x.ok) (hl : l.dat = x.l) (s : List ByteArray) (ssh : Bool) (hs : s.length ≤ 100000) (h : (counted s).2 ≠ 0) : ACalls Try.prog 44 [.ptr 0 0, .arr 1] (l.R s ssh) (fun av L => ∃ l' : Lg, av = .d (.int .i64 (counted s).2) ∧ L = l'.R s ssh ∧ l'.dat = x.l) := by
  obtain ⟨p1, p2, p3, p4⟩ := LS.pre hx hl
  refine (reset_ok l p1 s ssh hs).mono ?_
  rintro _ _ ⟨l', rfl, rfl, hl'⟩
  rw [hl, show x.l.reset s = ((counted s).2, x.l) by (have : x.l.dead = false := rfl); simp [LD.reset, this, h]] at hl' ⊢
  exact ⟨l', rfl, if_neg h, hl'⟩
theorem reset_good (l : Lg) {x : LS} (hx : x.ok) (hl : l.dat = x.l) (s : List ByteArray) (ssh : Bool) (hs : s.length ≤ 100000) (h : (counted s).2 = 0) : ACalls Try.prog 44 [.ptr 0 0, .arr 1] (l.R s ssh) (fun av L => ∃ l' : Lg, av = .d (.int .i64 0) ∧ L = l'.R1 s ssh l.recs l.sh ∧ l'.dat = (x.laid s).l) := by
  obtain ⟨p1, p2, p3, p4⟩ := LS.pre hx hl
  refine (reset_ok l p1 s ssh hs).mono ?_
  rintro _ _ ⟨l', rfl, rfl, hl'⟩
  rw [hl, LS.reset hx h] at hl' ⊢
  exact ⟨l', rfl, rfl, hl'⟩
theorem sync_good (l : Lg) {x : LS} (hx : x.ok) (hl : l.dat = x.l) : ACalls Try.prog 52 [.ptr 0 0] l.L (fun av L => ∃ l' : Lg, av = .d (.int .i64 0) ∧ L = l'.L ∧ l'.dat = if x.file = true then x.synced.l else x.l) := by
  obtain ⟨p1, p2, p3, p4⟩ := LS.pre hx hl
  refine (lsync_ok l p1).mono ?_
  rintro _ _ ⟨l', rfl, rfl, hl'⟩
  rw [hl, LS.sync hx] at hl' ⊢
  exact ⟨l', rfl, rfl, hl'⟩
def LS0 : LS := ⟨0, [], false, []⟩
theorem LS0_ok : LS0.ok := ⟨fun _ => ⟨rfl, rfl⟩, by decide, by simp [LS0], by simp [LS0]⟩
theorem new_fine : newDk.dat.fine := ⟨⟨by simp [newDk, Dk.dat]⟩, by simp [newDk, Dk.dat], by simp [newDk, Dk.dat], by simp [newDk, Dk.dat]⟩
theorem open_good : ACalls Try.prog 39 [.ptr 0 0] newDk.L (fun av L => av = .tup [.ptr 2 0, .d (.int .i64 0)] ∧ ∃ l : Lg, L = l.O ∧ l.dat = LS0.l) := by
  refine (open_new newDk new_fine.ok rfl rfl).mono ?_
  rintro _ _ ⟨rfl, l, rfl, hl⟩
  exact ⟨rfl, l, rfl, hl⟩
end Go.Proofs.Ytpedbknmkgcldaa

namespace Go.Proofs.Ytpedbknmkgcldaa
open Go.Ab Go.RowKit Go.MapKept
attribute [local irreducible] ACalls AW ADraw Into
set_option maxRecDepth 100000
set_option maxHeartbeats 4000000 in
theorem wakes10_ok : ACalls Try.prog 46 [] [] (fun av L => av = .d (.bool true) ∧ L = []) := by
  refine acalls_go ttOk zOk foOk Try.func46 rfl Try.ntmps46 rfl false rfl ?_
  conv => whnf
  ((with_reducible refine (disk10_ok).mono ?_); rintro _ _ ⟨rfl, rfl⟩; (conv => whnf))
  repeat' (first | ((with_reducible apply z_wrap); (focus omega); (conv => whnf)) | ((with_reducible refine mt_dec (fun _ => ?_) (fun _ => ?_)) <;> (conv => whnf)) | ((with_reducible refine mt_eq (fun _ => ?_) (fun _ => ?_)) <;> (conv => whnf)) | ((with_reducible refine mt_ne (fun _ => ?_) (fun _ => ?_)) <;> (conv => whnf)) | ((with_reducible refine mt_not (fun _ => ?_) (fun _ => ?_)) <;> (conv => whnf)) | ((with_reducible refine mt_any (fun _ => ?_) (fun _ => ?_)) <;> (conv => whnf)))
  refine open_good.mono ?_
  rintro _ _ ⟨rfl, l, rfl, hl⟩
  conv => whnf
  repeat' (first | ((with_reducible apply z_wrap); (focus omega); (conv => whnf)) | ((with_reducible refine mt_dec (fun _ => ?_) (fun _ => ?_)) <;> (conv => whnf)) | ((with_reducible refine mt_eq (fun _ => ?_) (fun _ => ?_)) <;> (conv => whnf)) | ((with_reducible refine mt_ne (fun _ => ?_) (fun _ => ?_)) <;> (conv => whnf)) | ((with_reducible refine mt_not (fun _ => ?_) (fun _ => ?_)) <;> (conv => whnf)) | ((with_reducible refine mt_any (fun _ => ?_) (fun _ => ?_)) <;> (conv => whnf)))
  ((with_reducible refine (num10_ok 0).mono ?_); rintro _ _ ⟨rfl, rfl⟩; (conv => whnf))
  repeat' (first | ((with_reducible apply z_wrap); (focus omega); (conv => whnf)) | ((with_reducible refine mt_dec (fun _ => ?_) (fun _ => ?_)) <;> (conv => whnf)) | ((with_reducible refine mt_eq (fun _ => ?_) (fun _ => ?_)) <;> (conv => whnf)) | ((with_reducible refine mt_ne (fun _ => ?_) (fun _ => ?_)) <;> (conv => whnf)) | ((with_reducible refine mt_not (fun _ => ?_) (fun _ => ?_)) <;> (conv => whnf)) | ((with_reducible refine mt_any (fun _ => ?_) (fun _ => ?_)) <;> (conv => whnf)))
  refine (append_good l LS0_ok hl ⟨#[97]⟩ (by decide) (by decide)).mono ?_
  rintro _ _ ⟨l1, rfl, rfl, hl1⟩
  have ok1 := LS.put_ok LS0_ok (s := ⟨#[97]⟩) (by decide) (by decide)
  conv => whnf
  repeat' (first | ((with_reducible apply z_wrap); (focus omega); (conv => whnf)) | ((with_reducible refine mt_dec (fun _ => ?_) (fun _ => ?_)) <;> (conv => whnf)) | ((with_reducible refine mt_eq (fun _ => ?_) (fun _ => ?_)) <;> (conv => whnf)) | ((with_reducible refine mt_ne (fun _ => ?_) (fun _ => ?_)) <;> (conv => whnf)) | ((with_reducible refine mt_not (fun _ => ?_) (fun _ => ?_)) <;> (conv => whnf)) | ((with_reducible refine mt_any (fun _ => ?_) (fun _ => ?_)) <;> (conv => whnf)))
  ((with_reducible refine (num10_ok 0).mono ?_); rintro _ _ ⟨rfl, rfl⟩; (conv => whnf))
  repeat' (first | ((with_reducible apply z_wrap); (focus omega); (conv => whnf)) | ((with_reducible refine mt_dec (fun _ => ?_) (fun _ => ?_)) <;> (conv => whnf)) | ((with_reducible refine mt_eq (fun _ => ?_) (fun _ => ?_)) <;> (conv => whnf)) | ((with_reducible refine mt_ne (fun _ => ?_) (fun _ => ?_)) <;> (conv => whnf)) | ((with_reducible refine mt_not (fun _ => ?_) (fun _ => ?_)) <;> (conv => whnf)) | ((with_reducible refine mt_any (fun _ => ?_) (fun _ => ?_)) <;> (conv => whnf)))
  refine (sync_good l1 ok1 hl1).mono ?_
  rintro _ _ ⟨l2, rfl, rfl, hl2⟩
  replace hl2 : l2.dat = (LS0.put ⟨#[97]⟩).synced.l := hl2
  have ok2 := LS.synced_ok ok1
  conv => whnf
  repeat' (first | ((with_reducible apply z_wrap); (focus omega); (conv => whnf)) | ((with_reducible refine mt_dec (fun _ => ?_) (fun _ => ?_)) <;> (conv => whnf)) | ((with_reducible refine mt_eq (fun _ => ?_) (fun _ => ?_)) <;> (conv => whnf)) | ((with_reducible refine mt_ne (fun _ => ?_) (fun _ => ?_)) <;> (conv => whnf)) | ((with_reducible refine mt_not (fun _ => ?_) (fun _ => ?_)) <;> (conv => whnf)) | ((with_reducible refine mt_any (fun _ => ?_) (fun _ => ?_)) <;> (conv => whnf)))
  ((with_reducible refine (num10_ok 0).mono ?_); rintro _ _ ⟨rfl, rfl⟩; (conv => whnf))
  repeat' (first | ((with_reducible apply z_wrap); (focus omega); (conv => whnf)) | ((with_reducible refine mt_dec (fun _ => ?_) (fun _ => ?_)) <;> (conv => whnf)) | ((with_reducible refine mt_eq (fun _ => ?_) (fun _ => ?_)) <;> (conv => whnf)) | ((with_reducible refine mt_ne (fun _ => ?_) (fun _ => ?_)) <;> (conv => whnf)) | ((with_reducible refine mt_not (fun _ => ?_) (fun _ => ?_)) <;> (conv => whnf)) | ((with_reducible refine mt_any (fun _ => ?_) (fun _ => ?_)) <;> (conv => whnf)))
  obtain ⟨_, _, p3, p4⟩ := LS.pre ok2 hl2
  refine (all_ok l2 p3).mono ?_
  rintro _ _ ⟨rfl, rfl⟩
  rw [show l2.recs = [⟨#[97]⟩] by rw [p4]; rfl]
  conv => whnf
  repeat' (first | ((with_reducible apply z_wrap); (focus omega); (conv => whnf)) | ((with_reducible refine mt_dec (fun _ => ?_) (fun _ => ?_)) <;> (conv => whnf)) | ((with_reducible refine mt_eq (fun _ => ?_) (fun _ => ?_)) <;> (conv => whnf)) | ((with_reducible refine mt_ne (fun _ => ?_) (fun _ => ?_)) <;> (conv => whnf)) | ((with_reducible refine mt_not (fun _ => ?_) (fun _ => ?_)) <;> (conv => whnf)) | ((with_reducible refine mt_any (fun _ => ?_) (fun _ => ?_)) <;> (conv => whnf)))
  (refine Or.inl ?_; (conv => whnf))
  refine (eqStrings_ok [⟨#[97]⟩] [⟨#[97]⟩] (by simp)).mono ?_
  rintro _ _ ⟨rfl, rfl⟩
  conv => whnf
  exact ⟨by simp, rfl⟩
end Go.Proofs.Ytpedbknmkgcldaa

namespace Go.Proofs.Ytpedbknmkgcldaa
open Go.Ab Go.RowKit Go.MapKept
attribute [local irreducible] ACalls AW ADraw Into
set_option maxRecDepth 100000
theorem spoil_ok (xs : List ByteArray) (hm : xs.length ≤ 8000000000) : ACalls Try.prog 50 [.arr 0] [.row 9 1 (strs xs) false] (fun av L => av = .tup [] ∧ L = [.dead]) := by
  refine acalls_go ttOk zOk foOk Try.func50 rfl Try.ntmps50 rfl true rfl ?_
  conv => whnf
  refine loop_go2 ttOk zOk foOk (σ := Nat) (ρ := List ByteArray) (fun k ys => ([(0, .arr 0), (2, .d (.int .i64 k))], [.row 9 1 (strs ys) false])) (fun k ys => k ≤ xs.length ∧ ys.length = xs.length) (fun k _ => xs.length - k) [0, 2] ?_ ?_
  · conv => whnf
    exact ⟨0, xs, rfl, rfl, by omega, rfl⟩
  · rintro k ys ⟨hk, hl⟩
    have hll : (strs ys).length = ys.length := by simp [strs]
    conv => whnf
    repeat' (first | ((with_reducible apply z_wrap); (focus omega); (conv => whnf)) | ((with_reducible refine mt_dec (fun _ => ?_) (fun _ => ?_)) <;> (conv => whnf)) | ((with_reducible refine mt_eq (fun _ => ?_) (fun _ => ?_)) <;> (conv => whnf)) | ((with_reducible refine mt_ne (fun _ => ?_) (fun _ => ?_)) <;> (conv => whnf)) | ((with_reducible refine mt_not (fun _ => ?_) (fun _ => ?_)) <;> (conv => whnf)) | ((with_reducible refine mt_any (fun _ => ?_) (fun _ => ?_)) <;> (conv => whnf)))
    · rename_i h
      refine ⟨by omega, by rw [hll]; show k < _; omega, ?_⟩
      conv => whnf
      obtain ⟨y, hy⟩ : ∃ y, ys[k]? = some y := ⟨_, List.getElem?_eq_getElem (by omega)⟩
      refine ⟨[.str y], by rw [Int.toNat_natCast, strs, List.getElem?_map, hy]; rfl, ?_⟩
      conv => whnf
      repeat' (first | ((with_reducible apply z_wrap); (focus omega); (conv => whnf)) | ((with_reducible refine mt_dec (fun _ => ?_) (fun _ => ?_)) <;> (conv => whnf)) | ((with_reducible refine mt_eq (fun _ => ?_) (fun _ => ?_)) <;> (conv => whnf)) | ((with_reducible refine mt_ne (fun _ => ?_) (fun _ => ?_)) <;> (conv => whnf)) | ((with_reducible refine mt_not (fun _ => ?_) (fun _ => ?_)) <;> (conv => whnf)) | ((with_reducible refine mt_any (fun _ => ?_) (fun _ => ?_)) <;> (conv => whnf)))
      refine ⟨k + 1, ys.set k ⟨#[115, 112, 111, 105, 108, 116]⟩, rfl, ?_, ⟨by omega, by simpa using hl⟩, by omega⟩
      simp [strs, List.map_set]
    · rename_i h
      refine ⟨by simp [strs]; omega, ?_⟩
      conv => whnf
      exact ⟨rfl, rfl⟩
end Go.Proofs.Ytpedbknmkgcldaa

namespace Go.Proofs.Ytpedbknmkgcldaa
open Go.Ab Go.RowKit Go.MapKept
attribute [local irreducible] ACalls AW ADraw Into
set_option maxRecDepth 100000
def Lg.L2 (l : Lg) (old : List ByteArray) (osh : Bool) : List AB := [.cells (.ptr 1 0 :: .arr 4 :: l.tail), .cells [.d (.int .i64 l.d.calls), .d (.bool l.d.off), .d (.int .i64 l.d.upto), .map 3], .row 9 1 (strs old) osh, .map (l.d.fs.map Fl.ent), .row 9 1 (strs l.recs) l.sh]
/-- what an act makes of a log, as data -/
def LD.does (l : LD) (a : Act10) : Int × LD :=
  if a.w = 4 then l.reset a.l else if a.w = 5 ∨ a.w = 6 then l.sync else l.append a.s
set_option maxHeartbeats 4000000 in
theorem does_ok (l : Lg) (a : Act10) (ha : a.light) (hd : l.d.dat.fine) (hz : 0 ≤ l.size ∧ l.size ≤ 524288) (hl : l.recs.length ≤ 100000) : ACalls Try.prog 49 [.ptr 0 0, a.av] l.L (fun av L => ∃ l' : Lg, av = .d (.int .i64 (l.dat.does a).1) ∧ (L = l'.L ∨ L = l'.L1 ∨ L = l'.L2 l.recs l.sh) ∧ l'.dat = (l.dat.does a).2) := by
  have hs := ha.s
  have hal := ha.l
  refine acalls_go ttOk zOk foOk Try.func49 rfl Try.ntmps49 rfl true rfl ?_
  conv => whnf
  refine (within_ok a.act 7 (by decide) (by decide) ha.ok.act).mono ?_
  rintro _ _ ⟨rfl, rfl⟩
  conv => whnf
  have hwd : a.w = (a.act % 18446744073709551616) % 7 := rfl
  rw [← hwd]
  repeat' (first | ((with_reducible apply z_wrap); (focus omega); (conv => whnf)) | ((with_reducible refine mt_dec (fun _ => ?_) (fun _ => ?_)) <;> (conv => whnf)) | ((with_reducible refine mt_eq (fun _ => ?_) (fun _ => ?_)) <;> (conv => whnf)) | ((with_reducible refine mt_ne (fun _ => ?_) (fun _ => ?_)) <;> (conv => whnf)) | ((with_reducible refine mt_not (fun _ => ?_) (fun _ => ?_)) <;> (conv => whnf)) | ((with_reducible refine mt_any (fun _ => ?_) (fun _ => ?_)) <;> (conv => whnf)))
  · rename_i h4
    rw [show l.dat.does a = l.dat.reset a.l by simp only [LD.does, if_pos h4]]
    refine (copyStrings_row a.l (by omega)).mono ?_
    rintro _ _ ⟨rfl, rfl⟩
    conv => whnf
    repeat' (first | ((with_reducible apply z_wrap); (focus omega); (conv => whnf)) | ((with_reducible refine mt_dec (fun _ => ?_) (fun _ => ?_)) <;> (conv => whnf)) | ((with_reducible refine mt_eq (fun _ => ?_) (fun _ => ?_)) <;> (conv => whnf)) | ((with_reducible refine mt_ne (fun _ => ?_) (fun _ => ?_)) <;> (conv => whnf)) | ((with_reducible refine mt_not (fun _ => ?_) (fun _ => ?_)) <;> (conv => whnf)) | ((with_reducible refine mt_any (fun _ => ?_) (fun _ => ?_)) <;> (conv => whnf)))
    (refine Or.inr ?_; (conv => whnf))
    refine (reset_ok l hd a.l false (by omega)).mono ?_
    rintro _ _ ⟨l', rfl, rfl, hl'⟩
    by_cases h0 : (l.dat.reset a.l).1 = 0
    · rw [if_pos h0]
      conv => whnf
      repeat' (first | ((with_reducible apply z_wrap); (focus omega); (conv => whnf)) | ((with_reducible refine mt_dec (fun _ => ?_) (fun _ => ?_)) <;> (conv => whnf)) | ((with_reducible refine mt_eq (fun _ => ?_) (fun _ => ?_)) <;> (conv => whnf)) | ((with_reducible refine mt_ne (fun _ => ?_) (fun _ => ?_)) <;> (conv => whnf)) | ((with_reducible refine mt_not (fun _ => ?_) (fun _ => ?_)) <;> (conv => whnf)) | ((with_reducible refine mt_any (fun _ => ?_) (fun _ => ?_)) <;> (conv => whnf)))
      ((with_reducible refine (num10_ok _).mono ?_); rintro _ _ ⟨rfl, rfl⟩; (conv => whnf))
      repeat' (first | ((with_reducible apply z_wrap); (focus omega); (conv => whnf)) | ((with_reducible refine mt_dec (fun _ => ?_) (fun _ => ?_)) <;> (conv => whnf)) | ((with_reducible refine mt_eq (fun _ => ?_) (fun _ => ?_)) <;> (conv => whnf)) | ((with_reducible refine mt_ne (fun _ => ?_) (fun _ => ?_)) <;> (conv => whnf)) | ((with_reducible refine mt_not (fun _ => ?_) (fun _ => ?_)) <;> (conv => whnf)) | ((with_reducible refine mt_any (fun _ => ?_) (fun _ => ?_)) <;> (conv => whnf)))
      (refine Or.inr ?_; (conv => whnf))
      refine (spoil_ok a.l (by omega)).mono ?_
      rintro _ _ ⟨rfl, rfl⟩
      conv => whnf
      exact ⟨l', rfl, .inr (.inr rfl), hl'⟩
    · rw [if_neg h0]
      conv => whnf
      repeat' (first | ((with_reducible apply z_wrap); (focus omega); (conv => whnf)) | ((with_reducible refine mt_dec (fun _ => ?_) (fun _ => ?_)) <;> (conv => whnf)) | ((with_reducible refine mt_eq (fun _ => ?_) (fun _ => ?_)) <;> (conv => whnf)) | ((with_reducible refine mt_ne (fun _ => ?_) (fun _ => ?_)) <;> (conv => whnf)) | ((with_reducible refine mt_not (fun _ => ?_) (fun _ => ?_)) <;> (conv => whnf)) | ((with_reducible refine mt_any (fun _ => ?_) (fun _ => ?_)) <;> (conv => whnf)))
      ((with_reducible refine (num10_ok _).mono ?_); rintro _ _ ⟨rfl, rfl⟩; (conv => whnf))
      repeat' (first | ((with_reducible apply z_wrap); (focus omega); (conv => whnf)) | ((with_reducible refine mt_dec (fun _ => ?_) (fun _ => ?_)) <;> (conv => whnf)) | ((with_reducible refine mt_eq (fun _ => ?_) (fun _ => ?_)) <;> (conv => whnf)) | ((with_reducible refine mt_ne (fun _ => ?_) (fun _ => ?_)) <;> (conv => whnf)) | ((with_reducible refine mt_not (fun _ => ?_) (fun _ => ?_)) <;> (conv => whnf)) | ((with_reducible refine mt_any (fun _ => ?_) (fun _ => ?_)) <;> (conv => whnf)))
      (refine Or.inr ?_; (conv => whnf))
      refine (spoil_ok a.l (by omega)).mono ?_
      rintro _ _ ⟨rfl, rfl⟩
      conv => whnf
      exact ⟨l', rfl, .inl rfl, hl'⟩
  · rename_i h4 h5
    rw [show l.dat.does a = l.dat.sync by simp only [LD.does, if_neg h4, h5]; simp]
    refine (lsync_ok l hd).mono ?_
    rintro _ _ ⟨l', rfl, rfl, hl'⟩
    conv => whnf
    repeat' (first | ((with_reducible apply z_wrap); (focus omega); (conv => whnf)) | ((with_reducible refine mt_dec (fun _ => ?_) (fun _ => ?_)) <;> (conv => whnf)) | ((with_reducible refine mt_eq (fun _ => ?_) (fun _ => ?_)) <;> (conv => whnf)) | ((with_reducible refine mt_ne (fun _ => ?_) (fun _ => ?_)) <;> (conv => whnf)) | ((with_reducible refine mt_not (fun _ => ?_) (fun _ => ?_)) <;> (conv => whnf)) | ((with_reducible refine mt_any (fun _ => ?_) (fun _ => ?_)) <;> (conv => whnf)))
    ((with_reducible refine (num10_ok _).mono ?_); rintro _ _ ⟨rfl, rfl⟩; (conv => whnf))
    repeat' (first | ((with_reducible apply z_wrap); (focus omega); (conv => whnf)) | ((with_reducible refine mt_dec (fun _ => ?_) (fun _ => ?_)) <;> (conv => whnf)) | ((with_reducible refine mt_eq (fun _ => ?_) (fun _ => ?_)) <;> (conv => whnf)) | ((with_reducible refine mt_ne (fun _ => ?_) (fun _ => ?_)) <;> (conv => whnf)) | ((with_reducible refine mt_not (fun _ => ?_) (fun _ => ?_)) <;> (conv => whnf)) | ((with_reducible refine mt_any (fun _ => ?_) (fun _ => ?_)) <;> (conv => whnf)))
    exact ⟨l', rfl, .inl rfl, hl'⟩
  · rename_i h4 h5 h6
    rw [show l.dat.does a = l.dat.sync by simp only [LD.does, if_neg h4, h6]; simp]
    refine (lsync_ok l hd).mono ?_
    rintro _ _ ⟨l', rfl, rfl, hl'⟩
    conv => whnf
    repeat' (first | ((with_reducible apply z_wrap); (focus omega); (conv => whnf)) | ((with_reducible refine mt_dec (fun _ => ?_) (fun _ => ?_)) <;> (conv => whnf)) | ((with_reducible refine mt_eq (fun _ => ?_) (fun _ => ?_)) <;> (conv => whnf)) | ((with_reducible refine mt_ne (fun _ => ?_) (fun _ => ?_)) <;> (conv => whnf)) | ((with_reducible refine mt_not (fun _ => ?_) (fun _ => ?_)) <;> (conv => whnf)) | ((with_reducible refine mt_any (fun _ => ?_) (fun _ => ?_)) <;> (conv => whnf)))
    ((with_reducible refine (num10_ok _).mono ?_); rintro _ _ ⟨rfl, rfl⟩; (conv => whnf))
    repeat' (first | ((with_reducible apply z_wrap); (focus omega); (conv => whnf)) | ((with_reducible refine mt_dec (fun _ => ?_) (fun _ => ?_)) <;> (conv => whnf)) | ((with_reducible refine mt_eq (fun _ => ?_) (fun _ => ?_)) <;> (conv => whnf)) | ((with_reducible refine mt_ne (fun _ => ?_) (fun _ => ?_)) <;> (conv => whnf)) | ((with_reducible refine mt_not (fun _ => ?_) (fun _ => ?_)) <;> (conv => whnf)) | ((with_reducible refine mt_any (fun _ => ?_) (fun _ => ?_)) <;> (conv => whnf)))
    exact ⟨l', rfl, .inl rfl, hl'⟩
  · rename_i h4 h5 h6
    rw [show l.dat.does a = l.dat.append a.s by simp only [LD.does, if_neg h4, if_neg (show ¬ (a.w = 5 ∨ a.w = 6) by rintro (h | h); exact h5 h; exact h6 h)]]
    refine (lappend_ok l hd.ok hz hl a.s (by omega)).mono ?_
    rintro _ _ ⟨l', rfl, rfl, hl'⟩
    by_cases h0 : (l.dat.append a.s).1 = 0
    · rw [if_pos h0]
      conv => whnf
      repeat' (first | ((with_reducible apply z_wrap); (focus omega); (conv => whnf)) | ((with_reducible refine mt_dec (fun _ => ?_) (fun _ => ?_)) <;> (conv => whnf)) | ((with_reducible refine mt_eq (fun _ => ?_) (fun _ => ?_)) <;> (conv => whnf)) | ((with_reducible refine mt_ne (fun _ => ?_) (fun _ => ?_)) <;> (conv => whnf)) | ((with_reducible refine mt_not (fun _ => ?_) (fun _ => ?_)) <;> (conv => whnf)) | ((with_reducible refine mt_any (fun _ => ?_) (fun _ => ?_)) <;> (conv => whnf)))
      ((with_reducible refine (num10_ok _).mono ?_); rintro _ _ ⟨rfl, rfl⟩; (conv => whnf))
      repeat' (first | ((with_reducible apply z_wrap); (focus omega); (conv => whnf)) | ((with_reducible refine mt_dec (fun _ => ?_) (fun _ => ?_)) <;> (conv => whnf)) | ((with_reducible refine mt_eq (fun _ => ?_) (fun _ => ?_)) <;> (conv => whnf)) | ((with_reducible refine mt_ne (fun _ => ?_) (fun _ => ?_)) <;> (conv => whnf)) | ((with_reducible refine mt_not (fun _ => ?_) (fun _ => ?_)) <;> (conv => whnf)) | ((with_reducible refine mt_any (fun _ => ?_) (fun _ => ?_)) <;> (conv => whnf)))
      exact ⟨l', rfl, .inr (.inl rfl), hl'⟩
    · rw [if_neg h0]
      conv => whnf
      repeat' (first | ((with_reducible apply z_wrap); (focus omega); (conv => whnf)) | ((with_reducible refine mt_dec (fun _ => ?_) (fun _ => ?_)) <;> (conv => whnf)) | ((with_reducible refine mt_eq (fun _ => ?_) (fun _ => ?_)) <;> (conv => whnf)) | ((with_reducible refine mt_ne (fun _ => ?_) (fun _ => ?_)) <;> (conv => whnf)) | ((with_reducible refine mt_not (fun _ => ?_) (fun _ => ?_)) <;> (conv => whnf)) | ((with_reducible refine mt_any (fun _ => ?_) (fun _ => ?_)) <;> (conv => whnf)))
      ((with_reducible refine (num10_ok _).mono ?_); rintro _ _ ⟨rfl, rfl⟩; (conv => whnf))
      repeat' (first | ((with_reducible apply z_wrap); (focus omega); (conv => whnf)) | ((with_reducible refine mt_dec (fun _ => ?_) (fun _ => ?_)) <;> (conv => whnf)) | ((with_reducible refine mt_eq (fun _ => ?_) (fun _ => ?_)) <;> (conv => whnf)) | ((with_reducible refine mt_ne (fun _ => ?_) (fun _ => ?_)) <;> (conv => whnf)) | ((with_reducible refine mt_not (fun _ => ?_) (fun _ => ?_)) <;> (conv => whnf)) | ((with_reducible refine mt_any (fun _ => ?_) (fun _ => ?_)) <;> (conv => whnf)))
      exact ⟨l', rfl, .inl rfl, hl'⟩
end Go.Proofs.Ytpedbknmkgcldaa

namespace Go.Proofs.Ytpedbknmkgcldaa
open Go.Ab Go.RowKit
/-- the disk of a crash behind a Sync -/
theorem crash_synced {x : LS} (hs : x.file = true → x.safe = layL x.recs) {ss : List ByteArray} (hss : ss.Perm (x.l.d.fs.map FD.name)) (picks : List Int) : newDD (crashAt (pickFs ss x.l.d.fs) picks ss.length).1 = x.crashed.l.d := by
  show newDD (crashAt (pickFs ss x.fs) picks ss.length).1 = DD.mk 0 false 0 x.crashed.fs
  have hss' : ss.Perm (x.fs.map FD.name) := hss
  cases hx : x.file with
  | false =>
    have e : x.fs = [] := by simp [LS.fs, hx]
    rw [e] at hss' ⊢
    obtain rfl : ss = [] := by simpa using hss'
    simp [pickFs, crashAt, newDD, LS.fs, LS.crashed, hx]
  | true =>
    have e : x.fs = [⟨logN, layL x.recs, layL x.recs⟩] := by simp [LS.fs, hx, hs hx]
    rw [e] at hss' ⊢
    obtain rfl : ss = [logN] := by simpa using hss'
    simp [pickFs, crashAt, newDD, LS.fs, LS.crashed, hx, getN, stepC]
end Go.Proofs.Ytpedbknmkgcldaa

namespace Go.Proofs.Ytpedbknmkgcldaa
open Go.Ab Go.RowKit
theorem does_next {x : LS} (hx : x.ok) {a : Act10} (ha : a.light) : ∃ y : LS, y.ok ∧ x.l.does a = ((nextL x.recs a).2, y.l) ∧ y.recs = (nextL x.recs a).1 ∧ (a.w = 6 → y.file = true → y.safe = layL y.recs) := by
  have hdead : x.l.dead = false := rfl
  by_cases h4 : a.w = 4
  · have e1 : x.l.does a = x.l.reset a.l := by simp only [LD.does, if_pos h4]
    have h46 : a.w = 6 → False := by omega
    rw [e1]
    have hbad : (counted a.l).2 ≠ 0 → x.l.reset a.l = ((counted a.l).2, x.l) := fun h => by simp [LD.reset, hdead, h]
    have hce := counted_eq a.l
    by_cases hall : a.l.all (fun x => decide (x.size ≤ 4096)) = false
    · rw [if_pos hall] at hce
      have en : nextL x.recs a = (x.recs, 1) := by simp only [nextL, if_pos h4, if_pos hall]
      rw [en, hbad (by rw [hce]; decide), hce]
      exact ⟨x, hx, rfl, rfl, fun h => (h46 h).elim⟩
    · rw [if_neg hall] at hce
      by_cases hw : wsum a.l > 524288
      · rw [if_pos hw] at hce
        have en : nextL x.recs a = (x.recs, 8) := by simp only [nextL, if_pos h4, if_neg hall, if_pos hw]
        rw [en, hbad (by rw [hce]; decide), hce]
        exact ⟨x, hx, rfl, rfl, fun h => (h46 h).elim⟩
      · rw [if_neg hw] at hce
        have en : nextL x.recs a = (a.l, 0) := by simp only [nextL, if_pos h4, if_neg hall, if_neg hw]
        have hc0 : (counted a.l).2 = 0 := by rw [hce]
        rw [en, LS.reset hx hc0]
        exact ⟨x.laid a.l, LS.laid_ok x hc0, rfl, rfl, fun h => (h46 h).elim⟩
  · by_cases h56 : a.w = 5 ∨ a.w = 6
    · have e1 : x.l.does a = x.l.sync := by simp only [LD.does, if_neg h4, if_pos h56]
      have en : nextL x.recs a = (x.recs, 0) := by simp only [nextL, if_neg h4, if_pos h56]
      rw [e1, en, LS.sync hx]
      cases hf : x.file with
      | false => exact ⟨x, hx, rfl, rfl, fun _ h => by rw [hf] at h; cases h⟩
      | true => exact ⟨x.synced, LS.synced_ok hx, rfl, rfl, fun _ _ => rfl⟩
    · have e1 : x.l.does a = x.l.append a.s := by simp only [LD.does, if_neg h4, if_neg h56]
      have h6 : a.w = 6 → False := fun h => h56 (.inr h)
      rw [e1]
      by_cases hb : a.s.size > 4096
      · have en : nextL x.recs a = (x.recs, 1) := by simp only [nextL, if_neg h4, if_neg h56, if_pos hb]
        rw [en, lapp_long hdead hb]
        exact ⟨x, hx, rfl, rfl, fun h => (h6 h).elim⟩
      · by_cases hw : wsum x.recs > 524288 - a.s.size - 16
        · have en : nextL x.recs a = (x.recs, 8) := by simp only [nextL, if_neg h4, if_neg h56, if_neg hb, if_pos hw]
          rw [en, lapp_full hdead hb (show _ > 524288 - wsum x.recs by omega)]
          exact ⟨x, hx, rfl, rfl, fun h => (h6 h).elim⟩
        · have en : nextL x.recs a = (x.recs ++ [a.s], 0) := by simp only [nextL, if_neg h4, if_neg h56, if_neg hb, if_neg hw]
          rw [en, LS.append hx (by omega) (by omega)]
          exact ⟨x.put a.s, LS.put_ok hx (by omega) (by omega), rfl, rfl, fun h => (h6 h).elim⟩
theorem LS.crashed_opened (x : LS) : x.crashed.opened.recs = x.recs := rfl
end Go.Proofs.Ytpedbknmkgcldaa
