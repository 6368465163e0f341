/- DiskExact: contracts. -/
import Derived.Test.YtgoejddmglgogaaDiskExactCodD
set_option linter.unusedVariables false
set_option linter.unusedSimpArgs false
namespace Go.Proofs.Ytgoejddmglgogaa
open Go.Ab Go.RowKit
theorem step_len {f : FD} {picks : List Int} {m : Nat} (h1 : f.safe.length ≤ m) (h2 : f.seen.length ≤ m) : (stepC f picks).1.length ≤ m := by
  unfold stepC
  split
  · exact h2
  · show (if _ then _ else _ : List UInt8).length ≤ m
    split
    · exact h1
    · split
      · unfold tornL; rw [List.length_take]; omega
      · exact h2
theorem crash_len {fs : List FD} {picks : List Int} {m : Nat} (h : ∀ f ∈ fs, f.safe.length ≤ m ∧ f.seen.length ≤ m) : ∀ {k : Nat}, ∀ x ∈ (crashAt fs picks k).1, x.data.length ≤ m
  | 0, x, hx => by cases hx
  | k + 1, x, hx => by
    cases hf : fs[k]? with
    | none => simp only [crashAt, hf] at hx; exact crash_len h x hx
    | some f =>
      rw [crashAt_succ hf] at hx
      rcases List.mem_append.1 hx with hx | hx
      · exact crash_len h x hx
      · simp only [List.mem_singleton] at hx
        subst hx
        have := h f (List.mem_of_getElem? hf)
        exact step_len this.1 this.2
def newDD (l : List FileS) : DD := ⟨0, false, 0, l.map fun f => ⟨f.name, f.data, f.data⟩⟩
theorem newFl_dat {fs : List Fl} {l : List FileS} (h : newFl fs l) : (Dk.mk 0 false 0 fs).dat = newDD l := by
  unfold newFl at h
  have := congrArg (List.map fun x : ByteArray × List UInt8 × List UInt8 => FD.mk x.1 x.2.1 x.2.2) h
  simp only [List.map_map] at this
  exact congrArg (DD.mk 0 false 0) this
theorem rising_nodup {l : List ByteArray} (h : risingS l) : l.Nodup := by
  refine h.imp fun h => ?_
  intro e
  subst e
  rw [lessS_irr] at h; cases h
theorem newDD_fine {l : List FileS} (h1 : ∀ f ∈ l, goodS f.name = true) (h2 : ∀ f ∈ l, f.data.length ≤ 1048576) (h3 : risingS (l.map FileS.name)) (h4 : l.length ≤ 16) : (newDD l).fine := by
  refine ⟨⟨fun f hf => ?_⟩, ?_, fun f hf => ?_, by simpa [newDD] using h4⟩
  · obtain ⟨g, hg, rfl⟩ := List.mem_map.1 hf
    exact ⟨h2 g hg, h2 g hg⟩
  · have := rising_nodup h3
    simpa [newDD, Function.comp_def] using this
  · obtain ⟨g, hg, rfl⟩ := List.mem_map.1 hf
    exact h1 g hg
end Go.Proofs.Ytgoejddmglgogaa
namespace Go.Proofs.Ytgoejddmglgogaa
open Go.Ab Go.RowKit Go.MapKept
attribute [local irreducible] ACalls AW ADraw Into fltB fnear
set_option maxRecDepth 100000
theorem rising_unique : ∀ {a b : List ByteArray}, a.Perm b → risingS a → risingS b → a = b
  | [], b, h, _, _ => (List.nil_perm.1 h).symm
  | x :: a, [], h, _, _ => absurd h.length_eq (by simp)
  | x :: a, y :: b, h, ha, hb => by
    have ha' := List.pairwise_cons.1 ha
    have hb' := List.pairwise_cons.1 hb
    have hxy : x = y := by
      have h1 : x ∈ y :: b := h.subset (by simp)
      have h2 : y ∈ x :: a := h.symm.subset (by simp)
      rcases List.mem_cons.1 h1 with e | h1
      · exact e
      rcases List.mem_cons.1 h2 with e | h2
      · exact e.symm
      have := lessS_trans (ha'.1 y h2) (hb'.1 x h1)
      rw [lessS_irr] at this
      cases this
    subst hxy
    rw [rising_unique (h.cons_inv) ha'.2 hb'.2]
theorem lessS_tot {a b : ByteArray} (h1 : lessS a b = false) (h2 : lessS b a = false) : a = b := toList_inj (bl_total _ _ h1 h2)
theorem idx_get {n : ByteArray} : ∀ {l : List FD} {i : Nat} {f : FD}, idxN n l = some i → l[i]? = some f → getN n l = some f ∧ ∀ g : FD → FD, updN n g l = l.set i (g f) ∧ delN n l = l.eraseIdx i
  | [], i, f, h, hf => by simp at hf
  | x :: r, i, f, h, hf => by
    unfold idxN at h
    rw [List.findIdx?_cons] at h
    by_cases e : x.name = n
    · rw [decide_eq_true e] at h
      simp at h
      subst h
      simp at hf
      subst hf
      exact ⟨by rw [getN, if_pos e.symm], fun g => ⟨by rw [updN, if_pos e.symm]; rfl, by rw [delN, if_pos e.symm]; rfl⟩⟩
    · rw [decide_eq_false e] at h
      simp at h
      obtain ⟨j, hj, rfl⟩ := h
      simp at hf
      have hj' : idxN n r = some j := hj
      obtain ⟨h1, h2⟩ := idx_get hj' hf
      have e' : ¬ n = x.name := fun k => e k.symm
      exact ⟨by rw [getN, if_neg e']; exact h1, fun g => ⟨by rw [updN, if_neg e', (h2 g).1]; rfl, by rw [delN, if_neg e', (h2 g).2]; rfl⟩⟩
theorem idx_none {n : ByteArray} : ∀ {l : List FD}, idxN n l = none → getN n l = none ∧ n ∉ l.map FD.name
  | [], _ => ⟨rfl, by simp⟩
  | x :: r, h => by
    unfold idxN at h
    rw [List.findIdx?_cons] at h
    by_cases e : x.name = n
    · rw [decide_eq_true e] at h; simp at h
    · rw [decide_eq_false e] at h
      simp only [Bool.false_eq_true, if_false, Option.map_eq_none_iff] at h
      obtain ⟨h1, h2⟩ := idx_none (n := n) (l := r) h
      have e' : ¬ n = x.name := fun k => e k.symm
      exact ⟨by rw [getN, if_neg e']; exact h1, by rw [List.map_cons, List.mem_cons]; exact fun h => h.elim e' h2⟩
theorem upd_map {n : ByteArray} {g : FD → FD} : ∀ {l : List FD}, (l.map FD.name).Nodup → updN n g l = l.map fun x => if n = x.name then g x else x
  | [], _ => rfl
  | x :: r, h => by
    obtain ⟨h1, h2⟩ := List.nodup_cons.1 h
    rw [updN, List.map_cons]
    split
    · rename_i e
      refine congrArg (g x :: ·) ?_
      refine ((List.map_congr_left fun y hy => ?_).trans (List.map_id r)).symm
      rw [if_neg (fun k => h1 (by rw [← e, k]; exact List.mem_map.2 ⟨y, hy, rfl⟩))]
      rfl
    · rw [upd_map h2]
theorem del_filter {n : ByteArray} : ∀ {l : List FD}, (l.map FD.name).Nodup → delN n l = l.filter fun x => !decide (n = x.name)
  | [], _ => rfl
  | x :: r, h => by
    obtain ⟨h1, h2⟩ := List.nodup_cons.1 h
    rw [delN, List.filter_cons]
    split
    · rename_i e
      rw [decide_eq_true e]
      simp only [Bool.not_true, Bool.false_eq_true, if_false]
      refine (List.filter_eq_self.2 fun y hy => ?_).symm
      simp only [Bool.not_eq_true', decide_eq_false_iff_not]
      exact fun k => h1 (by rw [← e, k]; exact List.mem_map.2 ⟨y, hy, rfl⟩)
    · rename_i e
      rw [decide_eq_false e, del_filter h2]
      simp
theorem perm_nodup {a b : List FD} (h : a.Perm b) (hn : (b.map FD.name).Nodup) : (a.map FD.name).Nodup := (h.map FD.name).nodup_iff.2 hn
theorem upd_perm {a b : List FD} (h : a.Perm b) (hn : (b.map FD.name).Nodup) (n : ByteArray) (g : FD → FD) : (updN n g a).Perm (updN n g b) := by
  rw [upd_map hn, upd_map (perm_nodup h hn)]
  exact h.map _
theorem del_perm {a b : List FD} (h : a.Perm b) (hn : (b.map FD.name).Nodup) (n : ByteArray) : (delN n a).Perm (delN n b) := by
  rw [del_filter hn, del_filter (perm_nodup h hn)]
  exact h.filter _
theorem get_perm {a b : List FD} (h : a.Perm b) (hn : (b.map FD.name).Nodup) (n : ByteArray) : getN n a = getN n b := by
  cases hg : getN n a with
  | none =>
    cases hb : getN n b with
    | none => rfl
    | some f =>
      refine absurd ?_ (getN_not hg)
      have := mem_getN hb
      exact List.mem_map.2 ⟨f, h.symm.subset this, getN_name hb⟩
  | some f =>
    have h1 := h.subset (mem_getN hg)
    have := getN_mem hn h1
    rw [getN_name hg] at this
    exact this.symm
theorem ins_perm (g : FD) (l : List FD) (k : Nat) : (insN g l k).Perm (l ++ [g]) := by
  unfold insN
  refine List.perm_middle.trans ?_
  rw [List.take_append_drop]
  exact (List.perm_append_singleton g l).symm
theorem put_split (n : ByteArray) : ∀ (l : List FD), (∀ x ∈ l.take (putK n l), lessS x.name n = true) ∧ ∀ x, (l.drop (putK n l)).head? = some x → lessS x.name n = false
  | [] => ⟨fun x h => by simp at h, fun x h => by simp at h⟩
  | y :: l => by
    unfold putK
    split
    · rename_i e
      obtain ⟨h1, h2⟩ := put_split n l
      refine ⟨fun x hx => ?_, fun x hx => h2 x (by simpa using hx)⟩
      rw [List.take_succ_cons] at hx
      rcases List.mem_cons.1 hx with rfl | hx
      · exact e
      · exact h1 x hx
    · rename_i e
      refine ⟨fun x h => by simp at h, fun x hx => ?_⟩
      simp at hx
      subst hx
      simpa using e
theorem ins_rising {g : FD} {l : List FD} (h : risingS (l.map FD.name)) (hg : g.name ∉ l.map FD.name) : risingS ((insN g l (putK g.name l)).map FD.name) := by
  obtain ⟨h1, h2⟩ := put_split g.name l
  have hs : l.take (putK g.name l) ++ l.drop (putK g.name l) = l := List.take_append_drop _ _
  unfold insN
  generalize l.take (putK g.name l) = a at *
  generalize l.drop (putK g.name l) = b at *
  subst hs
  rw [List.map_append] at h
  obtain ⟨w1, w2, w3⟩ := List.pairwise_append.1 h
  have hb : ∀ x ∈ b.map FD.name, lessS g.name x = true := by
    cases b with
    | nil => intro x hx; simp at hx
    | cons y b =>
      have h3 := h2 y rfl
      have h4 : lessS g.name y.name = true := by
        cases h5 : lessS g.name y.name with
        | true => rfl
        | false => exact absurd (by rw [lessS_tot h5 h3]; simp) hg
      intro x hx
      rcases List.mem_cons.1 hx with rfl | hx
      · exact h4
      · exact lessS_trans h4 ((List.pairwise_cons.1 w2).1 x hx)
  rw [List.map_append, List.map_cons]
  refine List.pairwise_append.2 ⟨w1, List.pairwise_cons.2 ⟨hb, w2⟩, fun x hx y hy => ?_⟩
  obtain ⟨z, hz, rfl⟩ := List.mem_map.1 hx
  rcases List.mem_cons.1 hy with rfl | hy
  · exact h1 z hz
  · exact lessS_trans (h1 z hz) (hb y hy)
theorem sub_rising {a b : List FD} (h : a.Sublist b) (hr : risingS (b.map FD.name)) : risingS (a.map FD.name) := hr.sublist (h.map _)
structure Alike (d : DD) (r : RD) : Prop where
  fine : d.fine
  perm : r.l.Perm d.fs
  rise : risingS (r.l.map FD.name)
  calls : r.calls = d.calls
  c0 : 0 ≤ d.calls
  off : r.off = d.off
  pw : d.off = true ∨ (d.upto > 0 ∧ r.left = d.upto - d.calls ∧ r.left > 0 ∧ d.upto < 9223372036854775808) ∨ (d.upto ≤ 0 ∧ (r.left ≤ 0 ∨ r.left + r.calls ≥ 9223372036854775808))
  left : -1 ≤ r.left ∧ r.left < 9223372036854775808
theorem Alike.fit {d : DD} {r : RD} (h : Alike d r) (hc : d.calls ≤ 1000000) : r.fit :=
  ⟨by rw [h.calls]; exact ⟨h.c0, hc⟩, h.left, by rw [h.perm.length_eq]; exact h.fine.few, fun f hf => h.fine.ok.len f (h.perm.subset hf)⟩
theorem Alike.call {d : DD} {r : RD} (h : Alike d r) (hc : d.calls ≤ 999999) : Alike d.spend r.call.2 ∧ r.call.1 = !d.spend.off := by
  have hw : IntKind.i64.wrap (d.calls + 1) = d.calls + 1 := wrapI (by have := h.c0; omega)
  have hsp : d.spend = { d with calls := d.calls + 1, off := d.off || (decide (d.upto > 0) && decide (d.calls + 1 ≥ d.upto)) } := by rw [DD.spend, hw]
  have hpw := h.pw
  have hcc := h.calls
  have hoo := h.off
  have hl := h.left
  have h0 := h.c0
  rw [hsp]
  unfold RD.call
  by_cases ho : d.off = true
  · rw [if_pos (by rw [hoo]; exact ho), ho]
    exact ⟨⟨⟨⟨h.fine.ok.len⟩, h.fine.nd, h.fine.good, h.fine.few⟩, h.perm, h.rise, by show r.calls + 1 = d.calls + 1; rw [hcc], by show 0 ≤ d.calls + 1; omega, by show r.off = _; rw [hoo, ho]; rfl, .inl rfl, h.left⟩, rfl⟩
  · have ho' : d.off = false := by simpa using ho
    rw [if_neg (by rw [hoo]; exact ho), ho']
    replace hpw := hpw.resolve_left ho
    by_cases hlp : r.left > 0
    · rw [if_pos hlp]
      by_cases hl1 : r.left - 1 = 0
      · rw [if_pos hl1]
        have hup : d.upto > 0 ∧ d.calls + 1 ≥ d.upto := by omega
        rw [decide_eq_true hup.1, decide_eq_true hup.2]
        exact ⟨⟨⟨⟨h.fine.ok.len⟩, h.fine.nd, h.fine.good, h.fine.few⟩, h.perm, h.rise, by show r.calls + 1 = d.calls + 1; rw [hcc], by show 0 ≤ d.calls + 1; omega, rfl, .inl rfl, by show -1 ≤ r.left - 1 ∧ r.left - 1 < _; omega⟩, rfl⟩
      · rw [if_neg hl1]
        have hup : ¬ (d.upto > 0 ∧ d.calls + 1 ≥ d.upto) := by omega
        have hup' : (decide (d.upto > 0) && decide (d.calls + 1 ≥ d.upto)) = false := by
          rw [← Bool.decide_and]; exact decide_eq_false hup
        rw [hup']
        refine ⟨⟨⟨⟨h.fine.ok.len⟩, h.fine.nd, h.fine.good, h.fine.few⟩, h.perm, h.rise, by show r.calls + 1 = d.calls + 1; rw [hcc], by show 0 ≤ d.calls + 1; omega, by show r.off = _; rw [hoo, ho']; rfl, .inr ?_, by show -1 ≤ r.left - 1 ∧ r.left - 1 < _; omega⟩, rfl⟩
        show (d.upto > 0 ∧ r.left - 1 = d.upto - (d.calls + 1) ∧ r.left - 1 > 0 ∧ d.upto < 9223372036854775808) ∨ (d.upto ≤ 0 ∧ (r.left - 1 ≤ 0 ∨ r.left - 1 + (r.calls + 1) ≥ 9223372036854775808))
        omega
    · rw [if_neg hlp]
      have hup : ¬ d.upto > 0 := by omega
      rw [decide_eq_false hup]
      refine ⟨⟨⟨⟨h.fine.ok.len⟩, h.fine.nd, h.fine.good, h.fine.few⟩, h.perm, h.rise, by show r.calls + 1 = d.calls + 1; rw [hcc], by show 0 ≤ d.calls + 1; omega, by show r.off = _; rw [hoo, ho']; rfl, .inr (.inr ⟨by show d.upto ≤ 0; omega, .inl (by show r.left ≤ 0; omega)⟩), h.left⟩, rfl⟩
theorem Alike.turn {d : DD} {r : RD} (h : Alike d r) (hc : d.calls ≤ 1000000) {n : Int} (hn : 2 < n) (hn2 : n < 9223372036854775808) : Alike (d.turn n) (r.turn n) := by
  have h0 := h.c0
  rw [DD.turn, RD.turn, if_neg (by omega), if_neg (by omega)]
  refine ⟨⟨⟨h.fine.ok.len⟩, h.fine.nd, h.fine.good, h.fine.few⟩, h.perm, h.rise, h.calls, h.c0, h.off, ?_, by show -1 ≤ n ∧ n < _; omega⟩
  show d.off = true ∨ (IntKind.i64.wrap (d.calls + n) > 0 ∧ n = IntKind.i64.wrap (d.calls + n) - d.calls ∧ n > 0 ∧ IntKind.i64.wrap (d.calls + n) < 9223372036854775808) ∨ (IntKind.i64.wrap (d.calls + n) ≤ 0 ∧ (n ≤ 0 ∨ n + r.calls ≥ 9223372036854775808))
  right
  by_cases hw : d.calls + n < 9223372036854775808
  · left
    rw [show IntKind.i64.wrap (d.calls + n) = d.calls + n from wrapI (by omega)]
    omega
  · right
    have : IntKind.i64.wrap (d.calls + n) = d.calls + n - 18446744073709551616 := by
      simp [IntKind.wrap, IntKind.bits, IntKind.signed]
      omega
    rw [this, h.calls]
    omega
theorem Alike.get {d : DD} {r : RD} (h : Alike d r) (n : ByteArray) : getN n d.fs = getN n r.l := (get_perm h.perm h.fine.nd n).symm
theorem Alike.upd {d : DD} {r : RD} (h : Alike d r) {n : ByteArray} {i : Nat} {f : FD} (hi : idxN n r.l = some i) (hf : r.l[i]? = some f) (g : FD → FD) (hg : (g f).name = f.name) (hfine : ({ d with fs := updN n g d.fs } : DD).fine) : Alike { d with fs := updN n g d.fs } (r.with (r.l.set i (g f))) := by
  obtain ⟨h1, h2⟩ := idx_get hi hf
  refine ⟨hfine, ?_, ?_, h.calls, h.c0, h.off, h.pw, h.left⟩
  · show (r.l.set i (g f)).Perm (updN n g d.fs)
    rw [← (h2 g).1]
    exact upd_perm h.perm h.fine.nd n g
  · show risingS ((r.l.set i (g f)).map FD.name)
    rw [List.map_set, hg]
    have : (r.l.map FD.name)[i]? = some f.name := by rw [List.getElem?_map, hf]; rfl
    rw [set_selfL this]
    exact h.rise
theorem Alike.del {d : DD} {r : RD} (h : Alike d r) {n : ByteArray} {i : Nat} {f : FD} (hi : idxN n r.l = some i) (hf : r.l[i]? = some f) : Alike { d with fs := delN n d.fs } (r.with (r.l.eraseIdx i)) := by
  obtain ⟨h1, h2⟩ := idx_get hi hf
  refine ⟨h.fine.del n, ?_, ?_, h.calls, h.c0, h.off, h.pw, h.left⟩
  · show (r.l.eraseIdx i).Perm (delN n d.fs)
    rw [← (h2 id).2]
    exact del_perm h.perm h.fine.nd n
  · exact sub_rising (List.eraseIdx_sublist ..) h.rise
theorem Alike.ins {d : DD} {r : RD} (h : Alike d r) {g : FD} (hg : g.name ∉ r.l.map FD.name) (hfine : ({ d with fs := d.fs ++ [g] } : DD).fine) : Alike { d with fs := d.fs ++ [g] } (r.with (insN g r.l (putK g.name r.l))) :=
  ⟨hfine, (ins_perm g r.l _).trans (h.perm.append_right [g]), ins_rising h.rise hg, h.calls, h.c0, h.off, h.pw, h.left⟩
theorem Alike.turnFs {d : DD} {r : RD} {a b : List FD} (h : Alike { d with fs := a } r) (hp : a.Perm b) (hf : ({ d with fs := b } : DD).fine) : Alike { d with fs := b } r :=
  ⟨hf, h.perm.trans hp, h.rise, h.calls, h.c0, h.off, h.pw, h.left⟩
theorem del_not {n : ByteArray} {l : List FD} (hn : (l.map FD.name).Nodup) : n ∉ (delN n l).map FD.name := by
  rw [del_filter hn]
  intro h
  obtain ⟨x, hx, e⟩ := List.mem_map.1 h
  have := (List.mem_filter.1 hx).2
  rw [decide_eq_true e.symm] at this
  cases this
theorem getN_no {n : ByteArray} {l : List FD} (h : n ∉ l.map FD.name) : getN n l = none := by
  cases hg : getN n l with
  | none => rfl
  | some f => exact absurd (List.mem_map.2 ⟨f, mem_getN hg, getN_name hg⟩) h
theorem del_back {n : ByteArray} : ∀ {l : List FD} {f : FD}, getN n l = some f → ∀ g, (updN n (fun _ => g) l).Perm (delN n l ++ [g]) ∧ l.Perm (delN n l ++ [f])
  | x :: r, f, h, g => by
    rw [getN] at h
    rw [updN, delN]
    split at h
    · rename_i e
      cases h
      rw [if_pos e, if_pos e]
      exact ⟨(List.perm_append_singleton g r).symm, (List.perm_append_singleton x r).symm⟩
    · rename_i e
      rw [if_neg e, if_neg e]
      obtain ⟨h1, h2⟩ := del_back h g
      exact ⟨h1.cons x, h2.cons x⟩
section
variable {d : DD} {r : RD} (h : Alike d r) (hc : d.calls ≤ 999999)
include h hc
theorem like_sync (n : ByteArray) : (d.sync n).1 = (r.sync n).1 ∧ Alike (d.sync n).2 (r.sync n).2 := by
  have hfn := h.fine.sync n
  obtain ⟨h1, h2⟩ := h.call hc
  rw [RD.sync]
  cases hg : goodS n with
  | false => rw [sync_bad hg, if_pos rfl]; exact ⟨rfl, h⟩
  | true =>
    rw [if_neg (by decide)]
    cases ho : d.spend.off with
    | true => rw [sync_off hg ho, some_off (by rw [h2, ho]; rfl)]; exact ⟨rfl, h1⟩
    | false =>
      have hon : r.call.1 = true := by rw [h2, ho]; rfl
      have hcl := call_l r
      cases hi : idxN n r.l with
      | none => rw [sync_none hg ho ((h.get n).trans (idx_none hi).1), some_no hon hi]; exact ⟨rfl, h1⟩
      | some i =>
        obtain ⟨f, hf, hfn2⟩ := idx_some hi
        have hgs := (h.get n).trans (idx_get hi hf).1
        rw [sync_some hg ho hgs] at hfn ⊢
        rw [some_at hon hi hf]
        exact ⟨rfl, h1.upd (by rw [hcl]; exact hi) (by rw [hcl]; exact hf) _ rfl hfn⟩
theorem like_cut (n : ByteArray) (k : Int) : (d.cut n k).1 = (r.cut n k).1 ∧ Alike (d.cut n k).2 (r.cut n k).2 := by
  have hfn := h.fine.cut n k
  obtain ⟨h1, h2⟩ := h.call hc
  rw [RD.cut]
  by_cases hb : goodS n = false ∨ k < 0
  · rw [cut_bad hb.symm, if_pos hb]; exact ⟨rfl, h⟩
  rw [if_neg hb]
  obtain ⟨hg, hk⟩ := not_or.1 hb
  replace hg : goodS n = true := by simpa using hg
  cases ho : d.spend.off with
  | true => rw [cut_off hk hg ho, some_off (by rw [h2, ho]; rfl)]; exact ⟨rfl, h1⟩
  | false =>
    have hon : r.call.1 = true := by rw [h2, ho]; rfl
    have hcl := call_l r
    cases hi : idxN n r.l with
    | none => rw [cut_none hk hg ho ((h.get n).trans (idx_none hi).1), some_no hon hi]; exact ⟨rfl, h1⟩
    | some i =>
      obtain ⟨f, hf, hfn2⟩ := idx_some hi
      have hgs := (h.get n).trans (idx_get hi hf).1
      rw [some_at hon hi hf]
      by_cases hl : (f.seen.length : Int) < k
      · rw [cut_long hk hg ho hgs hl, if_pos hl]; exact ⟨rfl, h1⟩
      · rw [cut_some hk hg ho hgs hl] at hfn ⊢
        rw [if_neg hl]
        exact ⟨rfl, h1.upd (by rw [hcl]; exact hi) (by rw [hcl]; exact hf) (fun f => { f with seen := f.seen.take k.toNat }) rfl hfn⟩
theorem like_remove (n : ByteArray) : (d.remove n).1 = (r.remove n).1 ∧ Alike (d.remove n).2 (r.remove n).2 := by
  obtain ⟨h1, h2⟩ := h.call hc
  rw [RD.remove]
  cases hg : goodS n with
  | false => rw [rem_bad hg, if_pos rfl]; exact ⟨rfl, h⟩
  | true =>
    rw [if_neg (by decide)]
    cases ho : d.spend.off with
    | true => rw [rem_off hg ho, some_off (by rw [h2, ho]; rfl)]; exact ⟨rfl, h1⟩
    | false =>
      have hon : r.call.1 = true := by rw [h2, ho]; rfl
      have hcl := call_l r
      cases hi : idxN n r.l with
      | none => rw [rem_none hg ho ((h.get n).trans (idx_none hi).1), some_no hon hi]; exact ⟨rfl, h1⟩
      | some i =>
        obtain ⟨f, hf, hfn2⟩ := idx_some hi
        have hgs := (h.get n).trans (idx_get hi hf).1
        rw [rem_some hg ho hgs, some_at hon hi hf]
        exact ⟨rfl, h1.del (by rw [hcl]; exact hi) (by rw [hcl]; exact hf)⟩
theorem like_append (n : ByteArray) (b : List UInt8) : (d.append n b).1 = (r.append n b).1 ∧ Alike (d.append n b).2 (r.append n b).2 := by
  have hfn := h.fine.append n b
  obtain ⟨h1, h2⟩ := h.call hc
  rw [RD.append]
  cases hg : goodS n with
  | false => rw [app_bad hg, if_pos rfl]; exact ⟨rfl, h⟩
  | true =>
    rw [if_neg (by decide)]
    cases ho : d.spend.off with
    | true => rw [app_off hg ho, if_pos (by rw [h2, ho]; rfl)]; exact ⟨rfl, h1⟩
    | false =>
      have hcl := call_l r
      rw [if_neg (by rw [h2, ho]; decide)]
      cases hi : idxN n r.l with
      | none =>
        have hgn := (h.get n).trans (idx_none hi).1
        have hle := h.perm.length_eq
        by_cases hl : b.length > 1048576
        · rw [app_long0 hg ho hgn hl]
          show 2 = (if b.length > 1048576 then ((2, r.call.2) : Int × RD) else _).1 ∧ Alike _ (if b.length > 1048576 then ((2, r.call.2) : Int × RD) else _).2
          rw [if_pos hl]
          exact ⟨rfl, h1⟩
        by_cases h16 : d.fs.length = 16
        · rw [app_full hg ho hgn hl h16]
          show 8 = (if b.length > 1048576 then ((2, r.call.2) : Int × RD) else if r.l.length = 16 then ((8, r.call.2) : Int × RD) else _).1 ∧ Alike _ (if b.length > 1048576 then ((2, r.call.2) : Int × RD) else if r.l.length = 16 then ((8, r.call.2) : Int × RD) else _).2
          rw [if_neg hl, if_pos (by omega)]
          exact ⟨rfl, h1⟩
        · rw [app_new hg ho hgn hl h16] at hfn ⊢
          show 0 = (if b.length > 1048576 then ((2, r.call.2) : Int × RD) else if r.l.length = 16 then ((8, r.call.2) : Int × RD) else (0, r.call.2.with (insN ⟨n, [], b⟩ r.l (putK n r.l)))).1 ∧ Alike _ (if b.length > 1048576 then ((2, r.call.2) : Int × RD) else if r.l.length = 16 then ((8, r.call.2) : Int × RD) else (0, r.call.2.with (insN ⟨n, [], b⟩ r.l (putK n r.l)))).2
          rw [if_neg hl, if_neg (by omega)]
          refine ⟨rfl, ?_⟩
          have := h1.ins (g := ⟨n, [], b⟩) (by rw [hcl]; exact (idx_none hi).2) hfn
          rw [hcl] at this
          exact this
      | some i =>
        obtain ⟨f, hf, hfn2⟩ := idx_some hi
        have hgs := (h.get n).trans (idx_get hi hf).1
        have hlen := (h.fine.ok.len f (h.perm.subset (List.mem_of_getElem? hf))).1
        by_cases hl : b.length > 1048576 - f.seen.length
        · rw [app_long hg ho hgs hl]
          show 2 = (match r.l[i]? with | none => ((3, r.call.2) : Int × RD) | Option.some f => if b.length > 1048576 - f.seen.length then ((2, r.call.2) : Int × RD) else (0, r.call.2.with (r.l.set i { f with seen := f.seen ++ b }))).1 ∧ Alike _ (match r.l[i]? with | none => ((3, r.call.2) : Int × RD) | Option.some f => if b.length > 1048576 - f.seen.length then ((2, r.call.2) : Int × RD) else (0, r.call.2.with (r.l.set i { f with seen := f.seen ++ b }))).2
          rw [hf]
          simp only [if_pos hl]
          exact ⟨trivial, h1⟩
        · rw [app_old hg ho hgs hl] at hfn ⊢
          show 0 = (match r.l[i]? with | none => ((3, r.call.2) : Int × RD) | Option.some f => if b.length > 1048576 - f.seen.length then ((2, r.call.2) : Int × RD) else (0, r.call.2.with (r.l.set i { f with seen := f.seen ++ b }))).1 ∧ Alike _ (match r.l[i]? with | none => ((3, r.call.2) : Int × RD) | Option.some f => if b.length > 1048576 - f.seen.length then ((2, r.call.2) : Int × RD) else (0, r.call.2.with (r.l.set i { f with seen := f.seen ++ b }))).2
          rw [hf]
          simp only [if_neg hl]
          refine ⟨trivial, ?_⟩
          have := h1.upd (by rw [hcl]; exact hi) (by rw [hcl]; exact hf) (fun f => { f with seen := f.seen ++ b }) rfl hfn
          rw [hcl] at this
          exact this
theorem like_rename (n t : ByteArray) : (d.rename n t).1 = (r.rename n t).1 ∧ Alike (d.rename n t).2 (r.rename n t).2 := by
  have hfn := h.fine.rename n t
  obtain ⟨h1, h2⟩ := h.call hc
  rw [RD.rename]
  by_cases hb : goodS n = false ∨ goodS t = false
  · rw [ren_bad hb.symm, if_pos hb]; exact ⟨rfl, h⟩
  rw [if_neg hb]
  obtain ⟨hg, hgt⟩ := not_or.1 hb
  replace hg : goodS n = true := by simpa using hg
  replace hgt : goodS t = true := by simpa using hgt
  cases ho : d.spend.off with
  | true => rw [ren_off hgt hg ho, some_off (by rw [h2, ho]; rfl)]; exact ⟨rfl, h1⟩
  | false =>
    have hon : r.call.1 = true := by rw [h2, ho]; rfl
    have hcl := call_l r
    cases hi : idxN n r.l with
    | none => rw [ren_none hgt hg ho ((h.get n).trans (idx_none hi).1), some_no hon hi]; exact ⟨rfl, h1⟩
    | some i =>
      obtain ⟨f, hf, hfn2⟩ := idx_some hi
      have hgs := (h.get n).trans (idx_get hi hf).1
      rw [some_at hon hi hf]
      rw [ren_some hgt hg ho hgs] at hfn ⊢
      have hnd := h.fine.nd
      have hnot := del_not (n := n) hnd
      by_cases hnt : n = t
      · rw [if_pos hnt]
        refine ⟨rfl, ?_⟩
        have e : setN { f with name := t } (delN n d.fs) = delN n d.fs ++ [f] := by
          subst hnt
          rw [setN, show getN ({ f with name := n } : FD).name (delN n d.fs) = none from getN_no hnot, show ({ f with name := n } : FD) = f by rw [← hfn2]]
        have hfn' : ({ d.spend with fs := setN { f with name := t } (delN n d.fs) } : DD).fine := hfn
        rw [e] at hfn'
        show Alike { d.spend with fs := setN { f with name := t } (delN n d.fs) } _
        rw [e]
        exact h1.turnFs (a := d.fs) (del_back hgs f).2 hfn'
      rw [if_neg hnt]
      refine ⟨rfl, ?_⟩
      have hdel := h1.del (n := n) (i := i) (f := f) (by rw [hcl]; exact hi) (by rw [hcl]; exact hf)
      have hfn' : ({ d.spend with fs := setN { f with name := t } (delN n d.fs) } : DD).fine := hfn
      show Alike { d.spend with fs := setN { f with name := t } (delN n d.fs) } _
      obtain ⟨c1, hc1⟩ : ∃ c1, r.call.2.with (r.call.2.l.eraseIdx i) = c1 := ⟨_, rfl⟩
      have hc1l : r.call.2.l.eraseIdx i = c1.l := by rw [← hc1]; rfl
      have hren : r.call.2.with (renF t i f r.call.2.l) = c1.with (insN { f with name := t } (delX t c1.l) (putK t (delX t c1.l))) := by
        rw [renF, hc1l, ← hc1]; rfl
      rw [hren]
      rw [hc1] at hdel
      clear hren hc1 hc1l
      obtain ⟨g, hg'⟩ : ∃ g : FD, ({ f with name := t } : FD) = g := ⟨_, rfl⟩
      have hgn : t = g.name := by rw [← hg']
      rw [hg'] at hfn' ⊢
      subst hgn
      cases hj : idxN g.name c1.l with
      | none =>
        obtain ⟨k1, k2⟩ := idx_none hj
        have hgs' : getN g.name (delN n d.fs) = none := (hdel.get g.name).trans k1
        have e : setN g (delN n d.fs) = delN n d.fs ++ [g] := by rw [setN, hgs']
        rw [e] at hfn' ⊢
        rw [delX_none hj]
        exact hdel.ins (g := g) k2 hfn'
      | some j =>
        obtain ⟨x, hx, hxn⟩ := idx_some hj
        have hgs' : getN g.name (delN n d.fs) = some x := (hdel.get g.name).trans (idx_get hj hx).1
        have e : setN g (delN n d.fs) = updN g.name (fun _ => g) (delN n d.fs) := by rw [setN, hgs']
        rw [e] at hfn' ⊢
        rw [delX_some hj]
        have hdel2 := hdel.del hj hx
        have hp := (del_back hgs' g).1
        have hfn2 : ({ d.spend with fs := delN g.name (delN n d.fs) ++ [g] } : DD).fine := by
          refine ⟨⟨fun y hy => hfn'.ok.len y (hp.symm.subset hy)⟩, ?_, fun y hy => hfn'.good y (hp.symm.subset hy), ?_⟩
          · exact (hp.map FD.name).nodup_iff.1 hfn'.nd
          · show (delN g.name (delN n d.fs) ++ [g]).length ≤ 16
            rw [← hp.length_eq]; exact hfn'.few
        refine (hdel2.ins (g := g) ?_ hfn2).turnFs hp.symm hfn'
        intro hm
        exact del_not (n := g.name) hdel.fine.nd (((hdel2.perm.map FD.name).mem_iff).1 hm)
end
theorem like_read {d : DD} {r : RD} (h : Alike d r) (n : ByteArray) : d.read n = r.read n := by
  rw [RD.read]
  cases hg : goodS n with
  | false => rw [read_bad hg, if_pos rfl]
  | true =>
    rw [if_neg (by decide)]
    have hoo := h.off
    cases ho : d.off with
    | true => rw [read_off hg ho, if_pos (by rw [hoo, ho])]
    | false =>
      rw [if_neg (by rw [hoo, ho]; decide)]
      cases hi : idxN n r.l with
      | none => rw [read_none hg ho ((h.get n).trans (idx_none hi).1)]
      | some i =>
        obtain ⟨f, hf, hfn2⟩ := idx_some hi
        rw [read_some hg ho ((h.get n).trans (idx_get hi hf).1)]
        show _ = match r.l[i]? with | none => (([], 3) : List UInt8 × Int) | Option.some f => (f.seen, 0)
        rw [hf]
theorem like_list {d : DD} {r : RD} (h : Alike d r) {ss : List ByteArray} (hs : d.list ss) : ss = r.list.1 ∧ (if d.off then (9 : Int) else 0) = r.list.2 := by
  have hoo := h.off
  rw [RD.list, hoo]
  obtain ⟨h1, h2, h3⟩ := hs
  cases ho : d.off with
  | true => exact ⟨h1 ho, rfl⟩
  | false => exact ⟨rising_unique ((h2 ho).trans (h.perm.map FD.name).symm) h3 h.rise, rfl⟩
theorem like_crash {d : DD} {r : RD} (h : Alike d r) {ss : List ByteArray} (hp : ss.Perm (d.fs.map FD.name)) (hr : risingS ss) : ss.length = r.l.length ∧ pickFs ss d.fs = r.l := by
  have e : ss = r.l.map FD.name := rising_unique (hp.trans (h.perm.map FD.name).symm) hr h.rise
  subst e
  refine ⟨List.length_map .., ?_⟩
  have : pickFs (r.l.map FD.name) d.fs = pickFs (r.l.map FD.name) r.l := by
    unfold pickFs
    refine congrArg (fun f => (r.l.map FD.name).filterMap f) ?_
    funext n
    exact h.get n
  rw [this, pick_self (perm_nodup h.perm h.fine.nd)]
theorem may_rising {files : List FileS} (h : mayNew files = true) : files.length ≤ 16 ∧ (∀ f ∈ files, goodS f.name = true ∧ f.data.length ≤ 1048576) ∧ risingS (files.map FileS.name) := by
  unfold mayNew at h
  obtain ⟨h1, h2⟩ := Bool.and_eq_true_iff.1 h
  have h3 : ∀ i, i < files.length → mayAt files i = true := fun i hi => List.all_eq_true.1 h1 i (by simpa using hi)
  refine ⟨by simpa using h2, fun f hf => ?_, ?_⟩
  · obtain ⟨i, hi, rfl⟩ := List.mem_iff_getElem.1 hf
    have := h3 i hi
    rw [mayAt_eq (List.getElem?_eq_getElem hi)] at this
    simp only [Bool.and_eq_true, decide_eq_true_eq] at this
    exact ⟨this.1.1, this.1.2⟩
  · refine List.pairwise_iff_getElem.2 fun i j hi hj hij => ?_
    rw [List.length_map] at hi hj
    rw [List.getElem_map, List.getElem_map]
    exact may_lt (k := 0) (fun m hm => h3 m (by omega)) hij (List.getElem?_eq_getElem hi) (List.getElem?_eq_getElem hj)
theorem like_new {files : List FileS} (h : mayNew files = true) : Alike (newDD files) (newR files) := by
  obtain ⟨h1, h2, h3⟩ := may_rising h
  refine ⟨newDD_fine (fun f hf => (h2 f hf).1) (fun f hf => (h2 f hf).2) h3 h1, List.Perm.refl _, ?_, rfl, show (0 : Int) ≤ 0 by decide, rfl, .inr (.inr ⟨show (0 : Int) ≤ 0 by decide, .inl (show (-1 : Int) ≤ 0 by decide)⟩), show (-1 : Int) ≤ -1 ∧ (-1 : Int) < 9223372036854775808 by decide⟩
  show risingS ((files.map FileS.fd).map FD.name)
  rw [List.map_map]
  exact h3
end Go.Proofs.Ytgoejddmglgogaa
namespace Go.Proofs.Ytgoejddmglgogaa
open Go.Ab Go.RowKit Go.MapKept
attribute [local irreducible] ACalls AW ADraw Into fltB fnear
set_option maxRecDepth 100000
theorem append_ok (d : Dk) (hd : d.dat.ok) (n : ByteArray) (b : List UInt8) (hb : b.length ≤ 140737488355328) : ACalls Try.prog 20 [.ptr 0 0, .d (.str n), .d (.sl 1 (u8s b))] d.L (fun av L => ∃ d' : Dk, av = .d (.int .i64 (d.dat.append n b).1) ∧ L = d'.L ∧ d'.dat = (d.dat.append n b).2) := by
  (refine acalls_go ttOk zOk foOk Try.func20 rfl Try.ntmps20 rfl false rfl ?_); (conv => whnf)
  refine (call_by d true n false).mono ?_
  rintro _ _ (⟨rfl, rfl, h | h⟩ | ⟨rfl, rfl, _, hg, ho⟩ | ⟨rfl, rfl, _, hg, ho, hf⟩ | ⟨i, f, rfl, rfl, _, hg, ho, hf⟩)
  · cases h
  · conv => whnf
    refine rdz ?_; repeat' ((with_reducible apply tw) <;> intro _)
    rw [app_bad h]
    exact ⟨d, rfl, rfl, rfl⟩
  · conv => whnf
    refine rdz ?_; repeat' ((with_reducible apply tw) <;> intro _)
    rw [app_off hg ho]
    exact ⟨d.spend, rfl, rfl, rfl⟩
  · have hgn := getN_none hf
    conv => whnf
    refine rdz ?_; repeat' ((with_reducible apply tw) <;> intro _)
    · rename_i hl
      simp only [u8s_length] at hl
      rw [app_long0 hg ho hgn (by omega)]
      exact ⟨d.spend, rfl, rfl, rfl⟩
    · rename_i hl h16
      simp only [u8s_length] at hl
      simp only [Dk.spend, List.length_map] at h16
      rw [app_full hg ho hgn (by omega) (by simp only [Dk.dat, List.length_map]; omega)]
      exact ⟨d.spend, rfl, rfl, rfl⟩
    · rename_i hl h16
      simp only [u8s_length] at hl
      simp only [Dk.spend, List.length_map] at h16
      rw [app_new hg ho hgn (by omega) (by simp only [Dk.dat, List.length_map]; omega)]
      intro b0
      conv => whnf
      refine rdz ?_; repeat' ((with_reducible apply tw) <;> intro _)
      refine ⟨none, 2, _, by rw [mfind_ent]; simp only [Dk.spend]; rw [hf]; rfl, rfl, ?_⟩
      intro L' hL
      obtain rfl : L' = [.cells [.d (.int .i64 d.spend.calls), .d (.bool d.spend.off), .d (.int .i64 d.spend.upto), .map 1], .map ((d.spend.fs ++ [Fl.mk n b0 [] []]).map Fl.ent), .dead] := by rw [hL]; simp [mputAt, Fl.ent]
      clear hL
      conv => whnf
      refine rdz ?_; repeat' ((with_reducible apply tw) <;> intro _)
      refine ⟨(Fl.mk n b0 [] []).cs, box_at (List.mem_append_right _ (List.mem_cons_self ..)), ?_⟩
      conv => whnf
      refine rdz ?_; repeat' ((with_reducible apply tw) <;> intro _)
      refine (clone_row [] (Nat.zero_le _)).mono ?_
      rintro _ _ ⟨rfl, rfl⟩
      conv => whnf
      refine rdz ?_; repeat' ((with_reducible apply tw) <;> intro _)
      refine ⟨by simp; omega, ?_⟩
      conv => whnf
      refine rdz ?_; repeat' ((with_reducible apply tw) <;> intro _)
      refine .inl ⟨1, _, d.spend.fs.length, _, _, rfl, by simp; rfl, by simp, ?_⟩
      intro L' hL
      obtain rfl : L' = [.cells [.d (.int .i64 d.spend.calls), .d (.bool d.spend.off), .d (.int .i64 d.spend.upto), .map 1], .map ((d.spend.fs ++ [Fl.mk n b0 [] b]).map Fl.ent), .dead, .dead, .row 5 1 (u8s b) true] := by rw [hL]; simp [Fl.ent, overD, norm1, List.set_append]
      clear hL
      conv => whnf
      exact ⟨{ d.spend with fs := d.spend.fs ++ [Fl.mk n b0 [] b] }, rfl, rfl, by simp [Dk.dat, Fl.dat, Dk.spend, DD.spend]⟩
  · have hgn := getN_some hf
    have hs : f.seen.length ≤ 1048576 := (hd.len f.dat (mem_getN hgn)).1
    have hu := u8s_length f.seen
    conv => whnf
    refine rdz ?_; repeat' ((with_reducible apply tw) <;> intro _)
    refine ⟨f.cs, box_at (findF_mem hf), ?_⟩
    conv => whnf
    refine rdz ?_; repeat' ((with_reducible apply tw) <;> intro _)
    · rename_i hl
      simp only [u8s_length] at hl
      rw [app_long hg ho hgn (by show b.length > 1048576 - f.seen.length; omega)]
      exact ⟨d.spend, rfl, rfl, rfl⟩
    · rename_i hl
      simp only [u8s_length] at hl
      rw [app_old hg ho hgn (by show ¬ b.length > 1048576 - f.seen.length; omega)]
      refine ⟨f.cs, box_at (findF_mem hf), ?_⟩
      conv => whnf
      refine rdz ?_; repeat' ((with_reducible apply tw) <;> intro _)
      refine (clone_row f.seen (by omega)).mono ?_
      rintro _ _ ⟨rfl, rfl⟩
      conv => whnf
      refine rdz ?_; repeat' ((with_reducible apply tw) <;> intro _)
      refine ⟨by simp; omega, ?_⟩
      conv => whnf
      refine rdz ?_; repeat' ((with_reducible apply tw) <;> intro _)
      refine .inl ⟨1, _, i, _, _, rfl, ent_at hf, by simp [Fl.cs], ?_⟩
      intro L' hL
      obtain rfl : L' = [.cells [.d (.int .i64 d.spend.calls), .d (.bool d.spend.off), .d (.int .i64 d.spend.upto), .map 1], .map ((d.spend.put i ⟨f.name, f.b, f.safe, f.seen ++ b⟩).fs.map Fl.ent), .dead, .row 5 1 (u8s f.seen ++ u8s b) true] := by rw [hL]; simp [Dk.put, List.map_set, Fl.ent, Fl.cs, overD, norm1]
      clear hL
      conv => whnf
      exact ⟨d.spend.put i ⟨f.name, f.b, f.safe, f.seen ++ b⟩, rfl, rfl, put_dat (d := d.spend) hf (fun f => { f with seen := f.seen ++ b }) _ rfl⟩
theorem sync_ok (d : Dk) (n : ByteArray) : ACalls Try.prog 27 [.ptr 0 0, .d (.str n)] d.L (fun av L => ∃ d' : Dk, av = .d (.int .i64 (d.dat.sync n).1) ∧ L = d'.L ∧ d'.dat = (d.dat.sync n).2) := by
  (refine acalls_go ttOk zOk foOk Try.func27 rfl Try.ntmps27 rfl false rfl ?_); (conv => whnf)
  refine (call_by d true n true).mono ?_
  rintro _ _ (⟨rfl, rfl, h | h⟩ | ⟨rfl, rfl, _, hg, ho⟩ | ⟨rfl, rfl, _, hg, ho, hf⟩ | ⟨i, f, rfl, rfl, _, hg, ho, hf⟩)
  · cases h
  · conv => whnf
    refine rdz ?_; repeat' ((with_reducible apply tw) <;> intro _)
    rw [sync_bad h]
    exact ⟨d, rfl, rfl, rfl⟩
  · conv => whnf
    refine rdz ?_; repeat' ((with_reducible apply tw) <;> intro _)
    rw [sync_off hg ho]
    exact ⟨d.spend, rfl, rfl, rfl⟩
  · conv => whnf
    refine rdz ?_; repeat' ((with_reducible apply tw) <;> intro _)
    rw [sync_none hg ho (getN_none hf)]
    exact ⟨d.spend, rfl, rfl, rfl⟩
  · conv => whnf
    refine rdz ?_; repeat' ((with_reducible apply tw) <;> intro _)
    rw [sync_some hg ho (getN_some hf)]
    refine ⟨f.cs, box_at (findF_mem hf), ?_⟩
    conv => whnf
    refine rdz ?_; repeat' ((with_reducible apply tw) <;> intro _)
    refine .inl ⟨1, _, i, _, _, rfl, ent_at hf, by simp [Fl.cs], ?_⟩
    intro L' hL
    obtain rfl : L' = [.cells [.d (.int .i64 d.spend.calls), .d (.bool d.spend.off), .d (.int .i64 d.spend.upto), .map 1], .map ((d.spend.put i ⟨f.name, f.b, f.seen, f.seen⟩).fs.map Fl.ent)] := by rw [hL]; simp [Dk.put, List.map_set, Fl.ent, Fl.cs, overD, norm1]
    clear hL
    conv => whnf
    exact ⟨d.spend.put i ⟨f.name, f.b, f.seen, f.seen⟩, rfl, rfl, put_dat (d := d.spend) hf (fun f => { f with safe := f.seen }) _ rfl⟩
theorem rename_ok (d : Dk) (n t : ByteArray) : ACalls Try.prog 29 [.ptr 0 0, .d (.str n), .d (.str t)] d.L (fun av L => ∃ d' : Dk, av = .d (.int .i64 (d.dat.rename n t).1) ∧ L = d'.L ∧ d'.dat = (d.dat.rename n t).2) := by
  (refine acalls_go ttOk zOk foOk Try.func29 rfl Try.ntmps29 rfl false rfl ?_); (conv => whnf)
  ((with_reducible refine (good_ok t).mono ?_); rintro _ _ ⟨rfl, rfl⟩; (conv => whnf))
  refine (call_by d _ n true).mono ?_
  rintro _ _ (⟨rfl, rfl, h⟩ | ⟨rfl, rfl, ht, hg, ho⟩ | ⟨rfl, rfl, ht, hg, ho, hf⟩ | ⟨i, f, rfl, rfl, ht, hg, ho, hf⟩)
  · conv => whnf
    refine rdz ?_; repeat' ((with_reducible apply tw) <;> intro _)
    rw [ren_bad h]
    exact ⟨d, rfl, rfl, rfl⟩
  · conv => whnf
    refine rdz ?_; repeat' ((with_reducible apply tw) <;> intro _)
    rw [ren_off ht hg ho]
    exact ⟨d.spend, rfl, rfl, rfl⟩
  · conv => whnf
    refine rdz ?_; repeat' ((with_reducible apply tw) <;> intro _)
    rw [ren_none ht hg ho (getN_none hf)]
    exact ⟨d.spend, rfl, rfl, rfl⟩
  · conv => whnf
    refine rdz ?_; repeat' ((with_reducible apply tw) <;> intro _)
    rw [ren_some ht hg ho (getN_some hf)]
    refine ⟨_, mfind_ent n d.fs 0, ?_⟩
    rw [hf]
    conv => whnf
    refine rdz ?_; repeat' ((with_reducible apply tw) <;> intro _)
    refine ⟨_, 2, _, by rw [erase_ent]; exact mfind_ent t (d.fs.eraseIdx i) 0, rfl, ?_⟩
    intro L' hL
    have hdel := getN_del hf
    cases ht' : findF t (d.fs.eraseIdx i) 0 with
    | none =>
      rw [ht'] at hL
      obtain rfl : L' = [.cells [.d (.int .i64 d.spend.calls), .d (.bool d.spend.off), .d (.int .i64 d.spend.upto), .map 1], .map ((d.fs.eraseIdx i ++ [Fl.mk t f.b f.safe f.seen]).map Fl.ent), .dead] := by rw [hL]; simp [mputAt, erase_ent, Fl.ent, Dk.spend]
      clear hL
      conv => whnf
      exact ⟨{ d.spend with fs := d.fs.eraseIdx i ++ [Fl.mk t f.b f.safe f.seen] }, rfl, rfl, by
        have hn : getN t (delN n d.dat.fs) = none := by rw [← hdel]; exact getN_none (d := { d with fs := d.fs.eraseIdx i }) ht'
        simp only [Dk.dat, Dk.spend, DD.spend, List.map_append, setN]
        simp only [Dk.dat] at hdel hn
        rw [hdel, hn]; rfl⟩
    | some q =>
      obtain ⟨m, g⟩ := q
      rw [ht'] at hL
      have hput := put_dat (d := { d with fs := d.fs.eraseIdx i }) ht' (fun _ => ⟨t, f.safe, f.seen⟩) ⟨t, f.b, f.safe, f.seen⟩ rfl
      obtain rfl : L' = [.cells [.d (.int .i64 d.spend.calls), .d (.bool d.spend.off), .d (.int .i64 d.spend.upto), .map 1], .map (((d.fs.eraseIdx i).set m (Fl.mk t f.b f.safe f.seen)).map Fl.ent), .dead] := by rw [hL]; simp [mputAt, erase_ent, Fl.ent, Dk.spend, List.map_set]
      clear hL
      conv => whnf
      exact ⟨{ d.spend with fs := (d.fs.eraseIdx i).set m (Fl.mk t f.b f.safe f.seen) }, rfl, rfl, by
        have hn : getN t (delN n d.dat.fs) = some g.dat := by rw [← hdel]; exact getN_some (d := { d with fs := d.fs.eraseIdx i }) ht'
        have h2 := congrArg DD.fs hput
        simp only [Dk.dat, Dk.put] at h2
        simp only [Dk.dat, Dk.spend, DD.spend, setN]
        simp only [Dk.dat] at hdel hn
        rw [hn, h2, hdel]; rfl⟩
def eqFile (f g : FileS) : Bool := (f.name.toList == g.name.toList) && (f.data == g.data)
theorem eqFile_ok (f g : FileS) (hm : f.data.length ≤ 140737488355328) : ACalls Try.prog 54 [.agg [.d (.str f.name), .d (.sl 1 (u8s f.data))], .agg [.d (.str g.name), .d (.sl 1 (u8s g.data))]] [] (fun av L => av = .d (.bool (eqFile f g)) ∧ L = []) := by
  (refine acalls_go ttOk zOk foOk Try.func54 rfl Try.ntmps54 rfl false rfl ?_); (conv => whnf)
  ((with_reducible refine mt_any (fun _ => ?_) (fun _ => ?_)) <;> (conv => whnf))
  · rename_i h
    ((with_reducible refine (eqBytes_ok f.data g.data hm).mono ?_); rintro _ _ ⟨rfl, rfl⟩; (conv => whnf))
    refine rdz ?_; repeat' ((with_reducible apply tw) <;> intro _)
    exact ⟨by simp [eqFile, h], rfl⟩
  · rename_i h
    exact ⟨by simp [eqFile, h, avOf1], rfl⟩
theorem eqFile_iff (f g : FileS) : eqFile f g = true ↔ f = g := by
  unfold eqFile
  rw [Bool.and_eq_true, beq_iff_eq, beq_iff_eq]
  constructor
  · rintro ⟨h1, h2⟩
    cases f; cases g
    simp only [FileS.mk.injEq]
    exact ⟨toList_inj h1, h2⟩
  · rintro rfl
    exact ⟨rfl, rfl⟩
theorem eqFiles_ok (xs ys : List FileS) (hm : xs.length ≤ 140737488355328) (hd : ∀ f ∈ xs, f.data.length ≤ 140737488355328) : ACalls Try.prog 39 [.d (.sl 2 (xs.map FileS.cs)), .d (.sl 2 (ys.map FileS.cs))] [] (fun av L => ∃ t : Bool, (t = true ↔ xs = ys) ∧ av = .d (.bool t) ∧ L = []) := by
  (refine acalls_go ttOk zOk foOk Try.func39 rfl Try.ntmps39 rfl false rfl ?_); (conv => whnf)
  ((with_reducible refine mt_ne (fun _ => ?_) (fun _ => ?_)) <;> (conv => whnf))
  · rename_i h
    simp only [List.length_map] at h
    exact ⟨false, ⟨fun h => (by cases h), fun e => absurd (by rw [e]) h⟩, rfl, rfl⟩
  · rename_i h
    simp only [List.length_map] at h
    have hl : xs.length = ys.length := by omega
    refine loop_go ttOk zOk foOk (σ := Nat) (fun k => ([(0, .d (.sl 2 (xs.map FileS.cs))), (1, .d (.sl 2 (ys.map FileS.cs))), (5, .d (.int .i64 k))], [])) (fun k => k ≤ xs.length ∧ xs.take k = ys.take k) (fun k => xs.length - k) [0, 1, 5] ?_ ?_
    · conv => whnf
      exact ⟨0, rfl, rfl, by simp⟩
    · rintro k ⟨hk, he⟩
      conv => whnf
      ((with_reducible refine mt_dec (fun _ => ?_) (fun _ => ?_)) <;> (conv => whnf))
      · rename_i h
        simp only [List.length_map] at h
        obtain ⟨a, ha⟩ : ∃ a, xs[k]? = some a := ⟨_, List.getElem?_eq_getElem (by omega)⟩
        obtain ⟨b, hb⟩ : ∃ b, ys[k]? = some b := ⟨_, List.getElem?_eq_getElem (by omega)⟩
        ((with_reducible refine draw_pl ttOk zOk foOk mixedOk pl39x6 ?_ ?_); (focus kernel_rfl); (conv => whnf))
        refine rdw ?_; repeat' ((with_reducible apply tw) <;> intro _)
        ((with_reducible apply rd_intro); (focus (intro K hK; (conv => whnf); exact ix_map ha (by first | rfl | omega) hK)); (conv => whnf))
        refine rdw ?_; repeat' ((with_reducible apply tw) <;> intro _)
        ((with_reducible apply rd_intro); (focus (intro K hK; (conv => whnf); exact ix_map hb (by first | rfl | omega) hK)); (conv => whnf))
        refine rdw ?_; repeat' ((with_reducible apply tw) <;> intro _)
        ((with_reducible refine (eqFile_ok a b (hd a (List.mem_of_getElem? ha))).mono ?_); rintro _ _ ⟨rfl, rfl⟩; (conv => whnf))
        refine rdw ?_; repeat' ((with_reducible apply tw) <;> intro _)
        · rename_i h
          refine ⟨false, ⟨fun h => (by cases h), fun e => ?_⟩, rfl, rfl⟩
          subst e
          rw [ha] at hb; cases hb
          rw [(eqFile_iff a a).2 rfl] at h; cases h
        · rename_i h
          exact ⟨k + 1, rfl, rfl, ⟨by omega, (take_succ_eq ha hb he).2 ((eqFile_iff a b).1 h)⟩, by omega⟩
      · rename_i h
        simp only [List.length_map] at h
        obtain rfl : k = xs.length := by omega
        rw [List.take_length, hl, List.take_length] at he
        exact ⟨true, ⟨fun _ => he, fun _ => rfl⟩, rfl, rfl⟩
theorem remove_ok (d : Dk) (n : ByteArray) : ACalls Try.prog 31 [.ptr 0 0, .d (.str n)] d.L (fun av L => ∃ d' : Dk, av = .d (.int .i64 (d.dat.remove n).1) ∧ L = d'.L ∧ d'.dat = (d.dat.remove n).2) := by
  (refine acalls_go ttOk zOk foOk Try.func31 rfl Try.ntmps31 rfl false rfl ?_); (conv => whnf)
  refine (call_by d true n true).mono ?_
  rintro _ _ (⟨rfl, rfl, h | h⟩ | ⟨rfl, rfl, _, hg, ho⟩ | ⟨rfl, rfl, _, hg, ho, hf⟩ | ⟨i, f, rfl, rfl, _, hg, ho, hf⟩)
  · cases h
  · conv => whnf
    refine rdz ?_; repeat' ((with_reducible apply tw) <;> intro _)
    rw [rem_bad h]
    exact ⟨d, rfl, rfl, rfl⟩
  · conv => whnf
    refine rdz ?_; repeat' ((with_reducible apply tw) <;> intro _)
    rw [rem_off hg ho]
    exact ⟨d.spend, rfl, rfl, rfl⟩
  · conv => whnf
    refine rdz ?_; repeat' ((with_reducible apply tw) <;> intro _)
    rw [rem_none hg ho (getN_none hf)]
    exact ⟨d.spend, rfl, rfl, rfl⟩
  · conv => whnf
    refine rdz ?_; repeat' ((with_reducible apply tw) <;> intro _)
    rw [rem_some hg ho (getN_some hf)]
    refine ⟨_, mfind_ent n d.fs 0, ?_⟩
    rw [hf]
    conv => whnf
    exact ⟨{ d.spend with fs := d.fs.eraseIdx i }, rfl, by rw [erase_ent]; rfl, by simp only [Dk.dat, Dk.spend, DD.spend]; rw [getN_del hf]; rfl⟩
theorem read_ok (d : Dk) (hd : d.dat.ok) (n : ByteArray) : ACalls Try.prog 21 [.ptr 0 0, .d (.str n)] d.L (fun av L => av = .tup [.d (.sl 1 (u8s (d.dat.read n).1)), .d (.int .i64 (d.dat.read n).2)] ∧ L = d.L) := by
  (refine acalls_go ttOk zOk foOk Try.func21 rfl Try.ntmps21 rfl false rfl ?_); (conv => whnf)
  refine ⟨_, mfind_ent n d.fs 0, ?_⟩
  cases hf : findF n d.fs 0 with
  | none =>
    conv => whnf
    ((with_reducible refine (good_ok n).mono ?_); rintro _ _ ⟨rfl, rfl⟩; (conv => whnf))
    refine rdz ?_; repeat' ((with_reducible apply tw) <;> intro _)
    · rename_i hg; rw [read_bad hg]; exact ⟨rfl, rfl⟩
    · rename_i hg ho; rw [read_off hg ho]; exact ⟨rfl, rfl⟩
    · rename_i hg ho; rw [read_none hg ho (getN_none hf)]; exact ⟨rfl, rfl⟩
  | some p =>
    obtain ⟨i, f⟩ := p
    conv => whnf
    ((with_reducible refine (good_ok n).mono ?_); rintro _ _ ⟨rfl, rfl⟩; (conv => whnf))
    refine rdz ?_; repeat' ((with_reducible apply tw) <;> intro _)
    · rename_i hg; rw [read_bad hg]; exact ⟨rfl, rfl⟩
    · rename_i hg ho; rw [read_off hg ho]; exact ⟨rfl, rfl⟩
    · rename_i hg ho
      rw [read_some hg ho (getN_some hf)]
      refine ⟨f.cs, box_at (findF_mem hf), ?_⟩
      have hs : f.seen.length ≤ 1048576 := (hd.len f.dat (mem_getN (getN_some hf))).1
      conv => whnf
      refine rdz ?_; repeat' ((with_reducible apply tw) <;> intro _)
      first
      | (refine (clone_ok f.seen (by omega)).mono ?_
         rintro _ _ ⟨rfl, rfl⟩
         conv => whnf
         exact ⟨rfl, rfl⟩)
      | (refine (clone_row f.seen (by omega)).mono ?_
         rintro _ _ ⟨rfl, rfl⟩
         conv => whnf
         exact ⟨rfl, rfl⟩)
theorem read_row (d : Dk) (hd : d.dat.ok) (n : ByteArray) : ACalls Try.prog 21 [.ptr 0 0, .d (.str n)] d.L (fun av L => av = .tup [.arr 2, .d (.int .i64 (d.dat.read n).2)] ∧ L = d.L ++ [.row 5 1 (u8s (d.dat.read n).1) false]) := by
  (refine acalls_go ttOk zOk foOk Try.func21 rfl Try.ntmps21 rfl true rfl ?_); (conv => whnf)
  refine ⟨_, mfind_ent n d.fs 0, ?_⟩
  cases hf : findF n d.fs 0 with
  | none =>
    conv => whnf
    ((with_reducible refine (good_ok n).mono ?_); rintro _ _ ⟨rfl, rfl⟩; (conv => whnf))
    refine rdz ?_; repeat' ((with_reducible apply tw) <;> intro _)
    · rename_i hg; rw [read_bad hg]; exact ⟨rfl, rfl⟩
    · rename_i hg ho; rw [read_off hg ho]; exact ⟨rfl, rfl⟩
    · rename_i hg ho; rw [read_none hg ho (getN_none hf)]; exact ⟨rfl, rfl⟩
  | some p =>
    obtain ⟨i, f⟩ := p
    conv => whnf
    ((with_reducible refine (good_ok n).mono ?_); rintro _ _ ⟨rfl, rfl⟩; (conv => whnf))
    refine rdz ?_; repeat' ((with_reducible apply tw) <;> intro _)
    · rename_i hg; rw [read_bad hg]; exact ⟨rfl, rfl⟩
    · rename_i hg ho; rw [read_off hg ho]; exact ⟨rfl, rfl⟩
    · rename_i hg ho
      rw [read_some hg ho (getN_some hf)]
      refine ⟨f.cs, box_at (findF_mem hf), ?_⟩
      have hs : f.seen.length ≤ 1048576 := (hd.len f.dat (mem_getN (getN_some hf))).1
      conv => whnf
      refine rdz ?_; repeat' ((with_reducible apply tw) <;> intro _)
      first
      | (refine (clone_ok f.seen (by omega)).mono ?_
         rintro _ _ ⟨rfl, rfl⟩
         conv => whnf
         exact ⟨rfl, rfl⟩)
      | (refine (clone_row f.seen (by omega)).mono ?_
         rintro _ _ ⟨rfl, rfl⟩
         conv => whnf
         exact ⟨rfl, rfl⟩)
theorem wrap_u64 (i : Int) : IntKind.u64.wrap i = i % 18446744073709551616 := by
  simp [IntKind.wrap, IntKind.signed, IntKind.bits]
theorem within_ok (i n : Int) (hn : 0 < n) (hn2 : n ≤ 1000000) (hi : -9223372036854775808 ≤ i ∧ i < 9223372036854775808) : ACalls Try.prog 24 [.d (.int .i64 i), .d (.int .i64 n)] [] (fun av L => av = .d (.int .i64 ((i % 18446744073709551616) % n)) ∧ L = []) := by
  (refine acalls_go ttOk zOk foOk Try.func24 rfl Try.ntmps24 rfl false rfl ?_); (conv => whnf)
  intro z hz
  rw [wrap_u64] at hz
  have h0 := Int.emod_nonneg i (show (18446744073709551616 : Int) ≠ 0 by decide)
  rw [← hz] at h0 ⊢
  clear hz
  conv => whnf
  intro m hm
  have hm' : m = n := by rw [hm, wrap_u64]; omega
  clear hm
  subst hm'
  conv => whnf
  refine ⟨by omega, ?_⟩
  intro r hr
  have hr' : r = z % m := by rw [hr, Int.tmod_eq_emod_of_nonneg h0]
  clear hr
  have h1 := Int.emod_nonneg z (show m ≠ 0 by omega)
  have h2 := Int.emod_lt_of_pos z hn
  rw [← hr'] at h1 h2 ⊢
  clear hr'
  conv => whnf
  intro q hq
  have hq' : q = r := by rw [hq, wrapI (by omega)]
  clear hq
  subst hq'
  conv => whnf
  exact ⟨rfl, rfl⟩
theorem cut_ok (d : Dk) (hd : d.dat.ok) (n : ByteArray) (k : Int) : ACalls Try.prog 25 [.ptr 0 0, .d (.str n), .d (.int .i64 k)] d.L (fun av L => ∃ d' : Dk, av = .d (.int .i64 (d.dat.cut n k).1) ∧ L = d'.L ∧ d'.dat = (d.dat.cut n k).2) := by
  (refine acalls_go ttOk zOk foOk Try.func25 rfl Try.ntmps25 rfl false rfl ?_); (conv => whnf)
  refine (call_by d _ n true).mono ?_
  rintro _ _ (⟨rfl, rfl, h⟩ | ⟨rfl, rfl, hk, hg, ho⟩ | ⟨rfl, rfl, hk, hg, ho, hf⟩ | ⟨i, f, rfl, rfl, hk, hg, ho, hf⟩)
  · conv => whnf
    refine rdz ?_; repeat' ((with_reducible apply tw) <;> intro _)
    rw [cut_bad (by simpa using h)]
    exact ⟨d, rfl, rfl, rfl⟩
  · conv => whnf
    refine rdz ?_; repeat' ((with_reducible apply tw) <;> intro _)
    rw [cut_off (by simpa using hk) hg ho]
    exact ⟨d.spend, rfl, rfl, rfl⟩
  · conv => whnf
    refine rdz ?_; repeat' ((with_reducible apply tw) <;> intro _)
    rw [cut_none (by simpa using hk) hg ho (getN_none hf)]
    exact ⟨d.spend, rfl, rfl, rfl⟩
  · have hk' : ¬ k < 0 := by simpa using hk
    have hs : f.seen.length ≤ 1048576 := (hd.len f.dat (mem_getN (getN_some hf))).1
    conv => whnf
    refine rdz ?_; repeat' ((with_reducible apply tw) <;> intro _)
    refine ⟨f.cs, box_at (findF_mem hf), ?_⟩
    conv => whnf
    refine rdz ?_; repeat' ((with_reducible apply tw) <;> intro _)
    · rename_i hl
      simp only [u8s_length] at hl
      rw [cut_long hk' hg ho (getN_some hf) (by show (f.seen.length : Int) < k; omega)]
      exact ⟨d.spend, rfl, rfl, rfl⟩
    · rename_i hl
      simp only [u8s_length] at hl
      rw [cut_some hk' hg ho (getN_some hf) (by show ¬ (f.seen.length : Int) < k; omega)]
      refine ⟨f.cs, box_at (findF_mem hf), ?_⟩
      conv => whnf
      refine rdz ?_; repeat' ((with_reducible apply tw) <;> intro _)
      refine ⟨by omega, by omega, by rw [u8s_length]; omega, ?_⟩
      conv => whnf
      refine rdz ?_; repeat' ((with_reducible apply tw) <;> intro _)
      have e : ((u8s f.seen).take k.toNat).drop (Int.toNat 0) = u8s (f.seen.take k.toNat) := by simp [u8s, List.map_take]
      rw [e]
      refine (clone_row (f.seen.take k.toNat) (by simp; omega)).mono ?_
      rintro _ _ ⟨rfl, rfl⟩
      conv => whnf
      refine rdz ?_; repeat' ((with_reducible apply tw) <;> intro _)
      refine .inl ⟨1, _, i, _, _, rfl, ent_at hf, by simp [Fl.cs], ?_⟩
      intro L' hL
      obtain rfl : L' = [.cells [.d (.int .i64 d.spend.calls), .d (.bool d.spend.off), .d (.int .i64 d.spend.upto), .map 1], .map ((d.spend.put i ⟨f.name, f.b, f.safe, f.seen.take k.toNat⟩).fs.map Fl.ent), .row 5 1 (u8s (f.seen.take k.toNat)) true] := by rw [hL]; simp [Dk.put, List.map_set, Fl.ent, Fl.cs, overD, norm1]
      clear hL
      conv => whnf
      exact ⟨d.spend.put i ⟨f.name, f.b, f.safe, f.seen.take k.toNat⟩, rfl, rfl, put_dat (d := d.spend) hf (fun f => { f with seen := f.seen.take k.toNat }) _ rfl⟩
theorem off_ok (d : Dk) (n : Int) : ACalls Try.prog 41 [.ptr 0 0, .d (.int .i64 n)] d.L (fun av L => ∃ d' : Dk, av = .tup [] ∧ L = d'.L ∧ d'.dat = d.dat.turn n) := by
  (refine acalls_go ttOk zOk foOk Try.func41 rfl Try.ntmps41 rfl false rfl ?_); (conv => whnf)
  ((with_reducible refine mt_dec (fun _ => ?_) (fun _ => ?_)) <;> (conv => whnf))
  · rename_i h
    exact ⟨{ d with off := true }, rfl, rfl, by simp [DD.turn, h, Dk.dat]⟩
  · rename_i h
    intro z hz
    conv => whnf
    subst hz
    exact ⟨{ d with upto := IntKind.i64.wrap (d.calls + n) }, rfl, rfl, by simp [DD.turn, h, Dk.dat]⟩
theorem calls_ok (d : Dk) : ACalls Try.prog 13 [.ptr 0 0] d.L (fun av L => av = .d (.int .i64 d.dat.calls) ∧ L = d.L) := by
  (refine acalls_go ttOk zOk foOk Try.func13 rfl Try.ntmps13 rfl false rfl ?_); (conv => whnf)
  exact ⟨rfl, rfl⟩
theorem eqStrings_row (xs ys : List ByteArray) (sh : Bool) (hm : xs.length ≤ 140737488355328) : ACalls Try.prog 36 [.arr 0, .d (.sl 1 (strs ys))] [.row 9 1 (strs xs) sh] (fun av L => av = .d (.bool (decide (xs = ys))) ∧ L = [.row 9 1 (strs xs) sh]) := by
  unfold strs
  (refine acalls_go ttOk zOk foOk Try.func36 rfl Try.ntmps36 rfl true rfl ?_); (conv => whnf)
  ((with_reducible refine mt_ne (fun _ => ?_) (fun _ => ?_)) <;> (conv => whnf))
  · rename_i h
    simp only [List.length_map] at h
    rw [decide_eq_false (fun e => h (by rw [e]))]; exact ⟨rfl, rfl⟩
  · rename_i h
    simp only [List.length_map] at h
    have hl : xs.length = ys.length := by omega
    refine loop_go ttOk zOk foOk (σ := Nat) (fun k => ([(0, .arr 0), (1, .d (.sl 1 (ys.map fun s => [DV.str s]))), (5, .d (.int .i64 k))], [.row 9 1 (xs.map fun s => [DV.str s]) sh])) (fun k => k ≤ xs.length ∧ xs.take k = ys.take k) (fun k => xs.length - k) [0, 1, 5] ?_ ?_
    · conv => whnf
      exact ⟨0, rfl, rfl, by simp⟩
    · rintro k ⟨hk, he⟩
      conv => whnf
      ((with_reducible refine mt_dec (fun _ => ?_) (fun _ => ?_)) <;> (conv => whnf))
      · rename_i h
        simp only [List.length_map] at h
        obtain ⟨a, ha⟩ : ∃ a, xs[k]? = some a := ⟨_, List.getElem?_eq_getElem (by omega)⟩
        obtain ⟨b, hb⟩ : ∃ b, ys[k]? = some b := ⟨_, List.getElem?_eq_getElem (by omega)⟩
        ((with_reducible refine draw_pl ttOk zOk foOk mixedOk pl36x6 ?_ ?_); (focus kernel_rfl); (conv => whnf))
        refine rdw ?_; repeat' ((with_reducible apply tw) <;> intro _)
        ((with_reducible apply rd_intro); (focus (intro K hK; (conv => whnf); exact ⟨by omega, by rw [List.length_map]; (show k < xs.length); omega, hK⟩)); (conv => whnf))
        refine rdw ?_; repeat' ((with_reducible apply tw) <;> intro _)
        ((with_reducible apply rd_intro); (focus (intro K hK; (conv => whnf); exact ⟨[.str a], by (show (xs.map fun s => [DV.str s])[k]? = _); rw [List.getElem?_map, ha]; rfl, hK⟩)); (conv => whnf))
        refine rdw ?_; repeat' ((with_reducible apply tw) <;> intro _)
        ((with_reducible apply rd_intro); (focus (intro K hK; (conv => whnf); exact ix_map hb (by first | rfl | omega) hK)); (conv => whnf))
        refine rdw ?_; repeat' ((with_reducible apply tw) <;> intro _)
        · rename_i h
          have h2 : a ≠ b := by intro e; subst e; simp at h
          rw [decide_eq_false (fun e => by subst e; rw [ha] at hb; cases hb; exact h2 rfl)]; exact ⟨rfl, rfl⟩
        · rename_i h
          have h2 : a = b := by
            rcases a with ⟨⟨a⟩⟩; rcases b with ⟨⟨b⟩⟩
            simpa using h
          exact ⟨k + 1, rfl, rfl, ⟨by omega, (take_succ_eq ha hb he).2 h2⟩, by omega⟩
      · rename_i h
        simp only [List.length_map] at h
        obtain rfl : k = xs.length := by omega
        rw [decide_eq_true (by rw [List.take_length, hl, List.take_length] at he; exact he)]; exact ⟨rfl, rfl⟩
theorem spoil_ok (xs : List ByteArray) (hm : xs.length ≤ 8000000000) : ACalls Try.prog 37 [.arr 0] [.row 9 1 (strs xs) false] (fun av L => av = .tup [] ∧ L = [.dead]) := by
  (refine acalls_go ttOk zOk foOk Try.func37 rfl Try.ntmps37 rfl true rfl ?_); (conv => whnf)
  refine loop_go2 ttOk zOk foOk (σ := Nat) (ρ := List ByteArray) (fun k ys => ([(0, .arr 0), (2, .d (.int .i64 k))], [.row 9 1 (strs ys) false])) (fun k ys => k ≤ xs.length ∧ ys.length = xs.length) (fun k _ => xs.length - k) [0, 2] ?_ ?_
  · conv => whnf
    exact ⟨0, xs, rfl, rfl, by omega, rfl⟩
  · rintro k ys ⟨hk, hl⟩
    have hll : (strs ys).length = ys.length := by simp [strs]
    conv => whnf
    refine rdz ?_; repeat' ((with_reducible apply tw) <;> intro _)
    · rename_i h
      refine ⟨by omega, by rw [hll]; show k < _; omega, ?_⟩
      conv => whnf
      obtain ⟨y, hy⟩ : ∃ y, ys[k]? = some y := ⟨_, List.getElem?_eq_getElem (by omega)⟩
      refine ⟨[.str y], by rw [Int.toNat_natCast, strs, List.getElem?_map, hy]; rfl, ?_⟩
      conv => whnf
      refine rdz ?_; repeat' ((with_reducible apply tw) <;> intro _)
      refine ⟨k + 1, ys.set k ⟨#[115, 112, 111, 105, 108, 116]⟩, rfl, ?_, ⟨by omega, by simpa using hl⟩, by omega⟩
      simp [strs, List.map_set]
    · rename_i h
      refine ⟨by simp [strs]; omega, ?_⟩
      conv => whnf
      exact ⟨rfl, rfl⟩
end Go.Proofs.Ytgoejddmglgogaa
namespace Go.Proofs.Ytgoejddmglgogaa
open Go.Ab Go.RowKit
attribute [local irreducible] ACalls AW ADraw Into
theorem num9_ok (n : Int) : ACalls Try.prog 9 [.d (.int .i64 n)] [] (fun av L => av = .d (.int .i64 n) ∧ L = []) := by
  (refine acalls_go ttOk zOk foOk Try.func9 rfl Try.ntmps9 rfl false rfl ?_); (conv => whnf)
  exact ⟨rfl, rfl⟩
end Go.Proofs.Ytgoejddmglgogaa
namespace Go.Proofs.Ytgoejddmglgogaa
open Go.Ab Go.RowKit Go.MapKept
attribute [local irreducible] ACalls AW ADraw Into fltB fnear
set_option maxRecDepth 100000
abbrev rw8 (b : List UInt8) : AB := .row 5 1 (u8s b) false
def Dk.Lr (d : Dk) (b : List UInt8) : List AB := [.cells [.d (.int .i64 d.calls), .d (.bool d.off), .d (.int .i64 d.upto), .map 2], rw8 b, .map (d.fs.map Fl.ent)]
theorem box_at3 {fs : List Fl} {f : Fl} (h : f ∈ fs) {x y : AB} {r : List AB} : BoxIn (x :: y :: .map (fs.map Fl.ent) :: r) f.b f.cs := ⟨2, _, rfl, boxcs_mem h⟩
theorem append_row (d : Dk) (hd : d.dat.ok) (n : ByteArray) (b : List UInt8) (hb : b.length ≤ 140737488355328) : ACalls Try.prog 20 [.ptr 0 0, .d (.str n), .arr 1] (d.Lr b) (fun av L => ∃ d' : Dk, av = .d (.int .i64 (d.dat.append n b).1) ∧ L = d'.Lr b ∧ d'.dat = (d.dat.append n b).2) := by
  (refine acalls_go ttOk zOk foOk Try.func20 rfl Try.ntmps20 rfl true rfl ?_); (conv => whnf)
  refine (call_by d true n false).mono ?_
  rintro _ _ (⟨rfl, rfl, h | h⟩ | ⟨rfl, rfl, _, hg, ho⟩ | ⟨rfl, rfl, _, hg, ho, hf⟩ | ⟨i, f, rfl, rfl, _, hg, ho, hf⟩)
  · cases h
  · conv => whnf
    refine rdz ?_; repeat' ((with_reducible apply tw) <;> intro _)
    rw [app_bad h]
    exact ⟨d, rfl, rfl, rfl⟩
  · conv => whnf
    refine rdz ?_; repeat' ((with_reducible apply tw) <;> intro _)
    rw [app_off hg ho]
    exact ⟨d.spend, rfl, rfl, rfl⟩
  · have hgn := getN_none hf
    conv => whnf
    refine rdz ?_; repeat' ((with_reducible apply tw) <;> intro _)
    · rename_i hl
      simp only [u8s_length] at hl
      rw [app_long0 hg ho hgn (by omega)]
      exact ⟨d.spend, rfl, rfl, rfl⟩
    · rename_i hl h16
      simp only [u8s_length] at hl
      simp only [Dk.spend, List.length_map] at h16
      rw [app_full hg ho hgn (by omega) (by simp only [Dk.dat, List.length_map]; omega)]
      exact ⟨d.spend, rfl, rfl, rfl⟩
    · rename_i hl h16
      simp only [u8s_length] at hl
      simp only [Dk.spend, List.length_map] at h16
      rw [app_new hg ho hgn (by omega) (by simp only [Dk.dat, List.length_map]; omega)]
      intro b0
      conv => whnf
      refine rdz ?_; repeat' ((with_reducible apply tw) <;> intro _)
      refine ⟨none, 3, _, by rw [mfind_ent]; simp only [Dk.spend]; rw [hf]; rfl, rfl, ?_⟩
      intro L' hL
      obtain rfl : L' = [.cells [.d (.int .i64 d.spend.calls), .d (.bool d.spend.off), .d (.int .i64 d.spend.upto), .map 2], rw8 b, .map ((d.spend.fs ++ [Fl.mk n b0 [] []]).map Fl.ent), .dead] := by rw [hL]; simp [mputAt, Fl.ent]
      clear hL
      conv => whnf
      refine rdz ?_; repeat' ((with_reducible apply tw) <;> intro _)
      refine ⟨(Fl.mk n b0 [] []).cs, box_at3 (List.mem_append_right _ (List.mem_cons_self ..)), ?_⟩
      conv => whnf
      refine rdz ?_; repeat' ((with_reducible apply tw) <;> intro _)
      refine (clone_row [] (Nat.zero_le _)).mono ?_
      rintro _ _ ⟨rfl, rfl⟩
      conv => whnf
      refine rdz ?_; repeat' ((with_reducible apply tw) <;> intro _)
      refine ⟨by simp; omega, ?_⟩
      conv => whnf
      refine rdz ?_; repeat' ((with_reducible apply tw) <;> intro _)
      refine .inl ⟨2, _, d.spend.fs.length, _, _, rfl, by simp; rfl, by simp, ?_⟩
      intro L' hL
      obtain rfl : L' = [.cells [.d (.int .i64 d.spend.calls), .d (.bool d.spend.off), .d (.int .i64 d.spend.upto), .map 2], rw8 b, .map ((d.spend.fs ++ [Fl.mk n b0 [] b]).map Fl.ent), .dead, .dead, .row 5 1 (u8s b) true] := by rw [hL]; simp [Fl.ent, overD, norm1, List.set_append]
      clear hL
      conv => whnf
      exact ⟨{ d.spend with fs := d.spend.fs ++ [Fl.mk n b0 [] b] }, rfl, rfl, by simp [Dk.dat, Fl.dat, Dk.spend, DD.spend]⟩
  · have hgn := getN_some hf
    have hs : f.seen.length ≤ 1048576 := (hd.len f.dat (mem_getN hgn)).1
    have hu := u8s_length f.seen
    conv => whnf
    refine rdz ?_; repeat' ((with_reducible apply tw) <;> intro _)
    refine ⟨f.cs, box_at3 (findF_mem hf), ?_⟩
    conv => whnf
    refine rdz ?_; repeat' ((with_reducible apply tw) <;> intro _)
    · rename_i hl
      simp only [u8s_length] at hl
      rw [app_long hg ho hgn (by show b.length > 1048576 - f.seen.length; omega)]
      exact ⟨d.spend, rfl, rfl, rfl⟩
    · rename_i hl
      simp only [u8s_length] at hl
      rw [app_old hg ho hgn (by show ¬ b.length > 1048576 - f.seen.length; omega)]
      refine ⟨f.cs, box_at3 (findF_mem hf), ?_⟩
      conv => whnf
      refine rdz ?_; repeat' ((with_reducible apply tw) <;> intro _)
      refine (clone_row f.seen (by omega)).mono ?_
      rintro _ _ ⟨rfl, rfl⟩
      conv => whnf
      refine rdz ?_; repeat' ((with_reducible apply tw) <;> intro _)
      refine ⟨by simp; omega, ?_⟩
      conv => whnf
      refine rdz ?_; repeat' ((with_reducible apply tw) <;> intro _)
      refine .inl ⟨2, _, i, _, _, rfl, ent_at hf, by simp [Fl.cs], ?_⟩
      intro L' hL
      obtain rfl : L' = [.cells [.d (.int .i64 d.spend.calls), .d (.bool d.spend.off), .d (.int .i64 d.spend.upto), .map 2], rw8 b, .map ((d.spend.put i ⟨f.name, f.b, f.safe, f.seen ++ b⟩).fs.map Fl.ent), .dead, .row 5 1 (u8s f.seen ++ u8s b) true] := by rw [hL]; simp [Dk.put, List.map_set, Fl.ent, Fl.cs, overD, norm1]
      clear hL
      conv => whnf
      exact ⟨d.spend.put i ⟨f.name, f.b, f.safe, f.seen ++ b⟩, rfl, rfl, put_dat (d := d.spend) hf (fun f => { f with seen := f.seen ++ b }) _ rfl⟩
end Go.Proofs.Ytgoejddmglgogaa
