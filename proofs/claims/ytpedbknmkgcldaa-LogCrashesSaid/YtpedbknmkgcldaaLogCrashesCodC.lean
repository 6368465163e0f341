/- Part of the proof of LogCrashes: the contracts of the functions. -/
import Derived.Test.YtpedbknmkgcldaaLogCrashesCodB

set_option linter.unusedVariables false
set_option linter.unusedSimpArgs false
namespace Go.Proofs.Ytpedbknmkgcldaa
open Go Go.Ab Go.RowKit Go.Maps Go.Sort Go.Shelf Go.MapKept
/-! the sorted keys of a map, lifted -/
theorem bl_lt : ∀ (x y : List UInt8), Op.bytesLess x y = true ↔ x < y
  | [], [] => by simp [Op.bytesLess]
  | [], b :: y => by simp [Op.bytesLess]
  | a :: x, [] => by simp [Op.bytesLess]
  | a :: x, b :: y => by
    rw [List.cons_lt_cons_iff]
    simp only [Op.bytesLess, Bool.or_eq_true, Bool.and_eq_true, beq_iff_eq, decide_eq_true_eq, bl_lt x y]
theorem insert_perm {H : Type} (x : Lit × DataW H) : ∀ l : List (Lit × DataW H), (DataW.insert x l).Perm (x :: l)
  | [] => List.Perm.refl _
  | y :: r => by
    unfold DataW.insert
    split
    · exact List.Perm.refl _
    · exact ((insert_perm x r).cons y).trans (List.Perm.swap x y r)
theorem foldr_perm {H : Type} : ∀ l : List (Lit × DataW H), (l.foldr DataW.insert []).Perm l
  | [] => List.Perm.refl _
  | x :: l => (insert_perm x _).trans ((foldr_perm l).cons x)
def baOf (l : List UInt8) : ByteArray := ⟨l.toArray⟩
theorem baOf_toList (b : ByteArray) : baOf b.toList = b := by
  rw [ByteArray.toList_eq]; rfl
theorem toList_baOf (l : List UInt8) : (baOf l).toList = l := by
  rw [ByteArray.toList_eq]; rfl
theorem toList_data (b : ByteArray) : b.data.toList = b.toList := by rw [ByteArray.toList_eq]
theorem vme_keys {rd : Addr → Value → Prop} {w : World} : ∀ {es : List (KV × MV)} {ns : List ByteArray} {us : List MapEntry}, es.map (·.1) = ns.map (fun n => KV.one (.str n)) → VME rd w es us → us.map (·.key) = ns.map Value.string
  | [], [], us, _, h => by simp only [VME] at h; subst h; rfl
  | [], n :: ns, _, h, _ => by simp at h
  | e :: es, [], _, h, _ => by simp at h
  | (k, m) :: es, n :: ns, us, h, hv => by
    simp only [VME] at hv
    obtain ⟨u, us', rfl, h1, _, h3⟩ := hv
    simp only [List.map_cons, List.cons.injEq] at h
    obtain ⟨rfl, h⟩ := h
    simp only [VKV, VD] at h1
    simp only [List.map_cons, h1.2, vme_keys h h3]
theorem strs_VDs {rd : Addr → Value → Prop} : ∀ (l : List ByteArray), VDs rd (strs l).flatten (l.map Value.string)
  | [] => by simp [strs, VDs, Cs]
  | b :: bs => by
    simp only [strs, List.map_cons, List.flatten_cons, List.singleton_append, VDs, Cs]
    exact ⟨_, _, rfl, rfl, by simp [VD], by simpa [strs, VDs] using strs_VDs bs⟩
/-- names in order -/
def risingS (l : List ByteArray) : Prop := l.Pairwise fun a b => lessS a b = true
set_option maxRecDepth 100000 in
theorem sorted_ok (es : List (KV × MV)) (ns : List ByteArray) (hk : es.map (·.1) = ns.map (fun n => KV.one (.str n))) (hnd : ns.Nodup) (hl : ns.length ≤ 1000000) (hsz : ∀ n ∈ ns, n.size ≤ maxLen) :
    ACalls Try.prog 69 [.fn 105 [.ptr 0 0]] [.cells [.map 1], .map es] (fun av L => av = .arr 2 ∧ ∃ ss : List ByteArray, ss.Perm ns ∧ risingS ss ∧ L = [.cells [.map 1], .map es, .row 9 1 (strs ss) false]) := by
  intro c vs hc hL0 hs hv
  simp only [VRt, VR] at hv
  obtain ⟨u, us', hvs, ⟨caps, rfl, u1, us1, hcaps, ⟨b0, hp, rfl⟩, rfl⟩, rfl⟩ := hv
  obtain ⟨ab, ha, _, hE0⟩ := hp
  have hb0 := hs.blk 0 _ rfl
  rw [hE0] at hb0
  simp only [BR] at hb0
  obtain ⟨b0', cur, e0, heq, hh0, hcs⟩ := hb0
  cases heq
  simp only [VRs, VR] at hcs
  obtain ⟨u2, us2, hcur, _, ⟨b1, hp1, rfl⟩, rfl⟩ := hcs
  obtain ⟨ab1, _, _, hE1⟩ := hp1
  have hb1 := hs.blk 1 _ rfl
  rw [hE1] at hb1
  simp only [BR] at hb1
  obtain ⟨b1', ents, clock, heq, hh1, hvme, hborn, hclock⟩ := hb1
  cases heq
  have hkeys := vme_keys hk hvme
  have hlen : ents.toList.length = ns.length := by have := congrArg List.length hkeys; simpa using this
  have hrd : ∀ x ∈ ents.toList, ∃ n ∈ ns, x.key = .string n := by
    intro x hx
    have : x.key ∈ ents.toList.map (·.key) := List.mem_map.2 ⟨x, hx, rfl⟩
    rw [hkeys] at this
    obtain ⟨n, h1, h2⟩ := List.mem_map.1 this
    exact ⟨n, h1, h2.symm⟩
  have hu9 : Try.prog.underlying 9 = some .string := Try.underlying9
  have hrd2 : ∀ x ∈ ents.toList, ∀ n, x.key = .string n → n ∈ ns → WideElems.rd (H := Unit) Try.prog 9 (fun _ => some (.nil, [])) x = some (.string n.toList, .nil) := by
    intro x hx n hn hm
    unfold WideElems.rd
    rw [hn, WideMaps.keyOf_string_mk hu9 (hsz n hm)]
    simp [toList_data]
  have hown : c.w0.ownsMap (H := Unit) Try.prog 9 (fun _ => some (.nil, [])) b1 ns.length (.map ((ents.toList.map (WideElems.rg Try.prog 9 (fun _ => some (.nil, [])))).foldr DataW.insert [])) := by
    refine ⟨ents, clock, hh1, ⟨?_, ⟨hclock, ?_, ?_⟩, ?_⟩, ?_, rfl⟩
    · have : ents.size = ns.length := by simpa using hlen
      have h2 : (1000000 : Nat) ≤ maxLen := by decide
      omega
    · exact hborn.imp fun h => Nat.ne_of_lt h
    · rw [hkeys]
      exact List.Pairwise.map _ (fun a b h e => h (by cases e; rfl)) hnd
    · intro x hx
      obtain ⟨n, h1, h2⟩ := hrd x hx
      exact ⟨_, hrd2 x hx n h2 h1⟩
    · simpa using Nat.le_of_eq hlen
  have hstr : (strKeys (H := Unit) (.map ((ents.toList.map (WideElems.rg Try.prog 9 (fun _ => some (.nil, [])))).foldr DataW.insert []))).Perm (ns.map ByteArray.toList) := by
    unfold strKeys
    refine ((foldr_perm _).map _).trans ?_
    refine List.Perm.of_eq ?_
    rw [List.map_map]
    have : ∀ (us : List MapEntry) (ms : List ByteArray), (∀ x ∈ us, x ∈ ents.toList) → (∀ n ∈ ms, n ∈ ns) → us.map (·.key) = ms.map Value.string →
        us.map ((fun p => strOf p.1) ∘ WideElems.rg (H := Unit) Try.prog 9 (fun _ => some (.nil, []))) = ms.map ByteArray.toList := by
      intro us
      induction us with
      | nil => intro ms _ _ h; cases ms with | nil => rfl | cons => simp at h
      | cons x us ih =>
        intro ms h1 h2 h
        cases ms with
        | nil => simp at h
        | cons n ms =>
          simp only [List.map_cons, List.cons.injEq] at h
          simp only [List.map_cons]
          rw [ih ms (fun y hy => h1 y (List.mem_cons_of_mem _ hy)) (fun y hy => h2 y (List.mem_cons_of_mem _ hy)) h.2]
          congr 1
          simp only [Function.comp, WideElems.rg_of (hrd2 x (h1 x (by simp)) n h.1 (h2 n (by simp)))]
          rfl
    exact this _ _ (fun _ h => h) (fun _ h => h) hkeys
  have hsize : Maps.size (H := Unit) (.map ((ents.toList.map (WideElems.rg Try.prog 9 (fun _ => some (.nil, [])))).foldr DataW.insert [])) = ns.length := by
    rw [Maps.size_eq, length_sorted, List.length_map, hlen]
  generalize hD : (DataW.map ((ents.toList.map (WideElems.rg (H := Unit) Try.prog 9 (fun _ => some (.nil, [])))).foldr DataW.insert [])) = D0 at hown hstr hsize
  have hm : (1000000 : Nat) ≤ maxLen := by decide
  have hseq := AnyZ.keys_gives (ρ := Try.keys70_ren) { Try.keys70 with } Fence.wide 2 trivial rfl (by omega) b0 b1 ns.length D0 c.w0 (by
      have := (Array.getElem?_eq_some_iff.1 hh0).1
      exact this) (by
      have hc1 : cur = #[.map (some b1)] := by cases cur; simpa using hcur
      simp [World.cell?, hh0, hc1]) hown
  have hcall := AnyZ.sorted_in Try.sorted69 Fence.wide 5 trivial trivial trivial trivial rfl (by omega) (Try.sorts69 _) (enters_of Try.func104 (by kernel_rfl) rfl) 105 #[.pointer (some ⟨b0, 0, none⟩)] trivial (enters_of Try.func105 (by kernel_rfl) rfl) _ _ (by rw [hsize]; omega) (by rw [hsize]; omega) _ hseq
  have hvs' : vs = #[.func (.func 105) #[] #[.pointer (some ⟨b0, 0, none⟩)]] := by cases vs; cases caps; simp_all
  rw [hvs']
  refine (callsIn_wide.1 hcall).mono ?_
  rintro e w' ⟨v, ss, rfl, hS, ⟨hrl, hrow⟩, hnil, hb⟩
  have hp : ss.Perm (ns.map ByteArray.toList) := hS.trans hstr
  have hpm := List.mergeSort_perm ss (fun x y => decide (x ≤ y))
  have hpw : (ss.mergeSort (fun x y => decide (x ≤ y))).Pairwise (fun x y => x ≤ y) := by
    have := List.pairwise_mergeSort (le := fun x y : List UInt8 => decide (x ≤ y)) (fun a b c h1 h2 => decide_eq_true (List.le_trans (of_decide_eq_true h1) (of_decide_eq_true h2))) (fun a b => by
      rcases List.le_total a b with h | h <;> simp [h]) ss
    exact this.imp fun h => of_decide_eq_true h
  have hnd' : (ss.mergeSort (fun x y => decide (x ≤ y))).Nodup := by
    refine (hpm.trans hp).nodup_iff.2 ?_
    exact List.Pairwise.map _ (fun a b h e => h (toList_inj e)) hnd
  generalize hms : ss.mergeSort (fun x y => decide (x ≤ y)) = ms at *
  have hlen2 : ms.length = ss.length := hpm.length_eq
  have hss : (ms.map baOf).Perm ns := by
    have := (hpm.trans hp).map baOf
    rwa [List.map_map, show (baOf ∘ ByteArray.toList) = id from funext baOf_toList, List.map_id] at this
  have hri : risingS (ms.map baOf) := by
    refine List.Pairwise.map _ (fun a b h => h) ?_
    refine (hpw.and hnd').imp ?_
    rintro a b ⟨h1, h2⟩
    show Op.bytesLess (baOf a).toList (baOf b).toList = true
    rw [toList_baOf, toList_baOf]
    cases h3 : Op.bytesLess a b with
    | true => rfl
    | false =>
      cases h4 : Op.bytesLess b a with
      | true => exact absurd ((bl_lt b a).1 h4) h1
      | false => exact absurd (bl_total a b h3 h4) h2
  have hkeep : Keeps c.w0 w' := ⟨hb.os, hb.tape, hb.output, hb.size, hb.block⟩
  have henc : ms.map encStr = (ms.map baOf).map Value.string := by rw [List.map_map]; rfl
  rcases hrow with ⟨rfl, h0⟩ | ⟨g, cap, cur, rfl, hg, hhg, hcap1, hcap2, hcs, htake⟩
  · have hm0 : ms = [] := by
      apply List.eq_nil_of_length_eq_zero; omega
    subst hm0
    refine ⟨_, .arr 2, _, Eupd c.E0 2 none, rfl, ⟨rfl, _, hss, hri, rfl⟩, hs.extend hc hkeep (.row 9 1 (strs (List.map baOf [])) false) none (fun b h => by cases h) (fun b h => by simp [AB.boxes] at h) (by simp [AB.boxes]) (fun b h => by simp [AB.boxes] at h) ?_, ?_⟩
    · simp only [BR]
      exact ⟨by omega, by simp [strs], rfl⟩
    · exact ⟨_, rfl, by simp [arRel, Eupd]⟩
  · refine ⟨_, .arr 2, _, Eupd c.E0 2 (some g), rfl, ⟨rfl, _, hss, hri, rfl⟩, hs.extend hc hkeep (.row 9 1 (strs (List.map baOf ms)) false) (some g) (fun b h => by cases h; exact hg) (fun b h => by simp [AB.boxes] at h) (by simp [AB.boxes]) (fun b h => by simp [AB.boxes] at h) ?_, ?_⟩
    · simp only [BR]
      refine ⟨by omega, by simp [strs], cap, cur, hhg, hcs, by simp [strs]; omega, hcap2, ?_⟩
      have : (cur.toList.take ((strs (List.map baOf ms)).length * 1)) = (ms.map baOf).map Value.string := by
        rw [← henc, ← htake]; congr 1; simp [strs, hlen2]
      rw [this]
      exact strs_VDs _
    · exact ⟨_, rfl, by
        simp only [arRel, Eupd]
        exact ⟨cap, cur, by simp [strs, hlen2], hhg, hcs⟩⟩
end Go.Proofs.Ytpedbknmkgcldaa

namespace Go.Proofs.Ytpedbknmkgcldaa
open Go.Ab Go.RowKit Go.MapKept
attribute [local irreducible] ACalls AW ADraw Into
set_option maxRecDepth 100000
theorem keys_ok (es : List (KV × MV)) : ACalls Try.prog 70 [.map 0] [.map es] (fun av L => av = .fn 105 [.ptr 1 0] ∧ L = [.map es, .cells [.map 0]]) := by
  refine acalls_go ttOk zOk foOk Try.func70 rfl Try.ntmps70 rfl true rfl ?_
  conv => whnf
  exact ⟨rfl, rfl⟩
end Go.Proofs.Ytpedbknmkgcldaa

namespace Go.Proofs.Ytpedbknmkgcldaa
open Go.Ab Go.RowKit Go.MapKept
attribute [local irreducible] ACalls AW ADraw Into
set_option maxRecDepth 100000
theorem ent_keys (fs : List Fl) : (fs.map Fl.ent).map (·.1) = (fs.map Fl.name).map fun n => KV.one (.str n) := by
  rw [List.map_map, List.map_map]; rfl
theorem dat_names (fs : List Fl) : (fs.map Fl.dat).map FD.name = fs.map Fl.name := by
  rw [List.map_map]; rfl
def DD.list (d : DD) (ss : List ByteArray) : Prop := (d.off = true → ss = []) ∧ (d.off = false → ss.Perm (d.fs.map FD.name)) ∧ risingS ss
theorem list_row (d : Dk) (hd : d.dat.fine) : ACalls Try.prog 26 [.ptr 0 0] d.L (fun av L => av = .tup [.arr 2, .d (.int .i64 (if d.off then 9 else 0))] ∧ ∃ ss : List ByteArray, d.dat.list ss ∧ L = d.L ++ [.row 9 1 (strs ss) false]) := by
  refine acalls_go ttOk zOk foOk Try.func26 rfl Try.ntmps26 rfl true rfl ?_
  conv => whnf
  repeat' (first | ((with_reducible apply z_wrap); (focus omega); (conv => whnf)) | ((with_reducible refine mt_dec (fun _ => ?_) (fun _ => ?_)) <;> (conv => whnf)) | ((with_reducible refine mt_eq (fun _ => ?_) (fun _ => ?_)) <;> (conv => whnf)) | ((with_reducible refine mt_ne (fun _ => ?_) (fun _ => ?_)) <;> (conv => whnf)) | ((with_reducible refine mt_not (fun _ => ?_) (fun _ => ?_)) <;> (conv => whnf)) | ((with_reducible refine mt_any (fun _ => ?_) (fun _ => ?_)) <;> (conv => whnf)))
  · rename_i ho
    refine ⟨by simp [ho, avOf1], [], ⟨fun _ => rfl, fun h => (by simp [Dk.dat, ho] at h), by simp [risingS]⟩, rfl⟩
  · rename_i ho
    ((with_reducible refine (keys_ok _).mono ?_); rintro _ _ ⟨rfl, rfl⟩; (conv => whnf))
    refine (sorted_ok _ (d.fs.map Fl.name) (ent_keys _) (by have := hd.nd; rwa [show d.dat.fs = d.fs.map Fl.dat from rfl, dat_names] at this) (by have := hd.few; simp [Dk.dat] at this ⊢; omega) ?_).mono ?_
    · intro n hn
      obtain ⟨f, hf, rfl⟩ := List.mem_map.1 hn
      have := goodS_size (hd.good f.dat (List.mem_map.2 ⟨f, hf, rfl⟩))
      have h2 : (1000 : Nat) ≤ maxLen := by decide
      exact Nat.le_trans this h2
    rintro _ _ ⟨rfl, ss, hp, hr, rfl⟩
    conv => whnf
    refine ⟨by simp [ho, avOf1], ss, ⟨fun h => (by simp [Dk.dat, ho] at h), fun _ => by rw [show d.dat.fs = d.fs.map Fl.dat from rfl, dat_names]; exact hp, hr⟩, rfl⟩
theorem list_ok (d : Dk) (hd : d.dat.fine) : ACalls Try.prog 26 [.ptr 0 0] d.L (fun av L => ∃ ss : List ByteArray, d.dat.list ss ∧ av = .tup [.d (.sl 1 (strs ss)), .d (.int .i64 (if d.off then 9 else 0))] ∧ L = d.L) := by
  refine acalls_go ttOk zOk foOk Try.func26 rfl Try.ntmps26 rfl false rfl ?_
  conv => whnf
  repeat' (first | ((with_reducible apply z_wrap); (focus omega); (conv => whnf)) | ((with_reducible refine mt_dec (fun _ => ?_) (fun _ => ?_)) <;> (conv => whnf)) | ((with_reducible refine mt_eq (fun _ => ?_) (fun _ => ?_)) <;> (conv => whnf)) | ((with_reducible refine mt_ne (fun _ => ?_) (fun _ => ?_)) <;> (conv => whnf)) | ((with_reducible refine mt_not (fun _ => ?_) (fun _ => ?_)) <;> (conv => whnf)) | ((with_reducible refine mt_any (fun _ => ?_) (fun _ => ?_)) <;> (conv => whnf)))
  · rename_i ho
    exact ⟨[], ⟨fun _ => rfl, fun h => (by simp [Dk.dat, ho] at h), by simp [risingS]⟩, by simp [ho, avOf1, strs], rfl⟩
  · rename_i ho
    ((with_reducible refine (keys_ok _).mono ?_); rintro _ _ ⟨rfl, rfl⟩; (conv => whnf))
    refine (sorted_ok _ (d.fs.map Fl.name) (ent_keys _) (by have := hd.nd; rwa [show d.dat.fs = d.fs.map Fl.dat from rfl, dat_names] at this) (by have := hd.few; simp [Dk.dat] at this ⊢; omega) ?_).mono ?_
    · intro n hn
      obtain ⟨f, hf, rfl⟩ := List.mem_map.1 hn
      have := goodS_size (hd.good f.dat (List.mem_map.2 ⟨f, hf, rfl⟩))
      have h2 : (1000 : Nat) ≤ maxLen := by decide
      exact Nat.le_trans this h2
    rintro _ _ ⟨rfl, ss, hp, hr, rfl⟩
    conv => whnf
    exact ⟨ss, ⟨fun h => (by simp [Dk.dat, ho] at h), fun _ => by rw [show d.dat.fs = d.fs.map Fl.dat from rfl, dat_names]; exact hp, hr⟩, by simp [ho, avOf1], rfl⟩
end Go.Proofs.Ytpedbknmkgcldaa

namespace Go.Proofs.Ytpedbknmkgcldaa
open Go.Ab Go.RowKit Go.MapKept
attribute [local irreducible] ACalls AW ADraw Into
set_option maxRecDepth 100000
def LD.sync (l : LD) : Int × LD :=
  if l.dead = true then (9, l) else
  if l.file = true then ((l.d.sync logN).1, ({ l with d := (l.d.sync logN).2 } : LD).did (l.d.sync logN).1) else
  (if l.d.off = true then 9 else 0, l.did (if l.d.off = true then 9 else 0))
set_option maxHeartbeats 4000000 in
theorem lsync_ok (l : Lg) (hd : l.d.dat.fine) : ACalls Try.prog 52 [.ptr 0 0] l.L (fun av L => ∃ l' : Lg, av = .d (.int .i64 (l.dat.sync).1) ∧ L = l'.L ∧ l'.dat = (l.dat.sync).2) := by
  refine acalls_go ttOk zOk foOk Try.func52 rfl Try.ntmps52 rfl false rfl ?_
  conv => whnf
  repeat' (first | ((with_reducible apply z_wrap); (focus omega); (conv => whnf)) | ((with_reducible refine mt_dec (fun _ => ?_) (fun _ => ?_)) <;> (conv => whnf)) | ((with_reducible refine mt_eq (fun _ => ?_) (fun _ => ?_)) <;> (conv => whnf)) | ((with_reducible refine mt_ne (fun _ => ?_) (fun _ => ?_)) <;> (conv => whnf)) | ((with_reducible refine mt_not (fun _ => ?_) (fun _ => ?_)) <;> (conv => whnf)) | ((with_reducible refine mt_any (fun _ => ?_) (fun _ => ?_)) <;> (conv => whnf)))
  · rename_i h
    have h' : l.dat.dead = true := h
    rw [show l.dat.sync = (9, l.dat) by simp [LD.sync, h']]
    exact ⟨l, rfl, rfl, rfl⟩
  · rename_i h hf
    have h' : l.dat.dead = false := (by simpa using h : l.dead = false)
    have hf' : l.dat.file = true := hf
    rw [show l.dat.sync = ((l.dat.d.sync logN).1, ({ l.dat with d := (l.dat.d.sync logN).2 } : LD).did (l.dat.d.sync logN).1) by simp only [LD.sync, h', hf']; rfl]
    refine (sync_ok l.d logN).mono ?_
    rintro _ _ ⟨d', rfl, rfl, hd'⟩
    conv => whnf
    repeat' (first | ((with_reducible apply z_wrap); (focus omega); (conv => whnf)) | ((with_reducible refine mt_dec (fun _ => ?_) (fun _ => ?_)) <;> (conv => whnf)) | ((with_reducible refine mt_eq (fun _ => ?_) (fun _ => ?_)) <;> (conv => whnf)) | ((with_reducible refine mt_ne (fun _ => ?_) (fun _ => ?_)) <;> (conv => whnf)) | ((with_reducible refine mt_not (fun _ => ?_) (fun _ => ?_)) <;> (conv => whnf)) | ((with_reducible refine mt_any (fun _ => ?_) (fun _ => ?_)) <;> (conv => whnf)))
    refine (did_ok { l with d := d' } _).mono ?_
    rintro _ _ ⟨rfl, rfl⟩
    conv => whnf
    refine ⟨_, rfl, rfl, ?_⟩
    simp only [Lg.dat, LD.did, hd']
    rfl
  · rename_i h hf
    have h' : l.dat.dead = false := (by simpa using h : l.dead = false)
    have hf' : l.dat.file = false := (by simpa using hf : l.file = false)
    rw [show l.dat.sync = (if l.dat.d.off = true then 9 else 0, l.dat.did (if l.dat.d.off = true then 9 else 0)) by simp only [LD.sync, h', hf']; rfl]
    refine (list_ok l.d hd).mono ?_
    rintro _ _ ⟨ss, _, rfl, rfl⟩
    conv => whnf
    repeat' (first | ((with_reducible apply z_wrap); (focus omega); (conv => whnf)) | ((with_reducible refine mt_dec (fun _ => ?_) (fun _ => ?_)) <;> (conv => whnf)) | ((with_reducible refine mt_eq (fun _ => ?_) (fun _ => ?_)) <;> (conv => whnf)) | ((with_reducible refine mt_ne (fun _ => ?_) (fun _ => ?_)) <;> (conv => whnf)) | ((with_reducible refine mt_not (fun _ => ?_) (fun _ => ?_)) <;> (conv => whnf)) | ((with_reducible refine mt_any (fun _ => ?_) (fun _ => ?_)) <;> (conv => whnf)))
    refine (did_ok l _).mono ?_
    rintro _ _ ⟨rfl, rfl⟩
    conv => whnf
    exact ⟨_, rfl, rfl, rfl⟩
end Go.Proofs.Ytpedbknmkgcldaa

namespace Go.Proofs.Ytpedbknmkgcldaa
open Go.Ab Go.RowKit Go.MapKept
attribute [local irreducible] ACalls AW ADraw Into
set_option maxRecDepth 100000
theorem load_none (l : Lg) (hd : l.d.dat.ok) (hn : (l.d.dat.read logN).2 = 3) : ACalls Try.prog 87 [.ptr 0 0] l.L (fun av L => av = .d (.int .i64 0) ∧ L = l.L) := by
  refine acalls_go ttOk zOk foOk Try.func87 rfl Try.ntmps87 rfl false rfl ?_
  conv => whnf
  repeat' (first | ((with_reducible apply z_wrap); (focus omega); (conv => whnf)) | ((with_reducible refine mt_dec (fun _ => ?_) (fun _ => ?_)) <;> (conv => whnf)) | ((with_reducible refine mt_eq (fun _ => ?_) (fun _ => ?_)) <;> (conv => whnf)) | ((with_reducible refine mt_ne (fun _ => ?_) (fun _ => ?_)) <;> (conv => whnf)) | ((with_reducible refine mt_not (fun _ => ?_) (fun _ => ?_)) <;> (conv => whnf)) | ((with_reducible refine mt_any (fun _ => ?_) (fun _ => ?_)) <;> (conv => whnf)))
  refine (read_ok l.d hd logN).mono ?_
  rintro _ _ ⟨rfl, rfl⟩
  conv => whnf
  rw [hn]
  repeat' (first | ((with_reducible apply z_wrap); (focus omega); (conv => whnf)) | ((with_reducible refine mt_dec (fun _ => ?_) (fun _ => ?_)) <;> (conv => whnf)) | ((with_reducible refine mt_eq (fun _ => ?_) (fun _ => ?_)) <;> (conv => whnf)) | ((with_reducible refine mt_ne (fun _ => ?_) (fun _ => ?_)) <;> (conv => whnf)) | ((with_reducible refine mt_not (fun _ => ?_) (fun _ => ?_)) <;> (conv => whnf)) | ((with_reducible refine mt_any (fun _ => ?_) (fun _ => ?_)) <;> (conv => whnf)))
  · exact ⟨rfl, rfl⟩
  · rename_i h; exact absurd rfl h
/-- a new log -/
def newLg (d : Dk) : Lg := ⟨d, [], false, 0, false, false⟩
def Lg.O (l : Lg) : List AB := [.cells [.d (.int .i64 l.d.calls), .d (.bool l.d.off), .d (.int .i64 l.d.upto), .map 1], .map (l.d.fs.map Fl.ent), .cells (.ptr 0 0 :: .arr 3 :: l.tail), .row 9 1 (strs l.recs) l.sh]
theorem open_new (d : Dk) (hd : d.dat.ok) (hf : (d.dat.read freshN).2 = 3) (hn : (d.dat.read logN).2 = 3) : ACalls Try.prog 39 [.ptr 0 0] d.L (fun av L => av = .tup [.ptr 2 0, .d (.int .i64 0)] ∧ ∃ l : Lg, L = l.O ∧ l.dat = (newLg d).dat) := by
  refine acalls_go ttOk zOk foOk Try.func39 rfl Try.ntmps39 rfl true rfl ?_
  conv => whnf
  repeat' (first | ((with_reducible apply z_wrap); (focus omega); (conv => whnf)) | ((with_reducible refine mt_dec (fun _ => ?_) (fun _ => ?_)) <;> (conv => whnf)) | ((with_reducible refine mt_eq (fun _ => ?_) (fun _ => ?_)) <;> (conv => whnf)) | ((with_reducible refine mt_ne (fun _ => ?_) (fun _ => ?_)) <;> (conv => whnf)) | ((with_reducible refine mt_not (fun _ => ?_) (fun _ => ?_)) <;> (conv => whnf)) | ((with_reducible refine mt_any (fun _ => ?_) (fun _ => ?_)) <;> (conv => whnf)))
  refine (sweep_ok (newLg d) hd).mono ?_
  rintro _ _ ⟨l1, rfl, rfl, hl1, hsh⟩
  conv => whnf
  rw [show (newLg d).dat.sweep = (0, (newLg d).dat) by (have : ((newLg d).dat.d.read freshN).2 = 3 := hf); simp [LD.sweep, this]] at hl1 ⊢
  repeat' (first | ((with_reducible apply z_wrap); (focus omega); (conv => whnf)) | ((with_reducible refine mt_dec (fun _ => ?_) (fun _ => ?_)) <;> (conv => whnf)) | ((with_reducible refine mt_eq (fun _ => ?_) (fun _ => ?_)) <;> (conv => whnf)) | ((with_reducible refine mt_ne (fun _ => ?_) (fun _ => ?_)) <;> (conv => whnf)) | ((with_reducible refine mt_not (fun _ => ?_) (fun _ => ?_)) <;> (conv => whnf)) | ((with_reducible refine mt_any (fun _ => ?_) (fun _ => ?_)) <;> (conv => whnf)))
  · rename_i h; exact absurd rfl h
  have hl1d : l1.d.dat = d.dat := by
    have : l1.d.dat = l1.dat.d := rfl
    rw [this, hl1]; rfl
  refine (load_none l1 (by rw [hl1d]; exact hd) (by rw [hl1d]; exact hn)).mono ?_
  rintro _ _ ⟨rfl, rfl⟩
  conv => whnf
  repeat' (first | ((with_reducible apply z_wrap); (focus omega); (conv => whnf)) | ((with_reducible refine mt_dec (fun _ => ?_) (fun _ => ?_)) <;> (conv => whnf)) | ((with_reducible refine mt_eq (fun _ => ?_) (fun _ => ?_)) <;> (conv => whnf)) | ((with_reducible refine mt_ne (fun _ => ?_) (fun _ => ?_)) <;> (conv => whnf)) | ((with_reducible refine mt_not (fun _ => ?_) (fun _ => ?_)) <;> (conv => whnf)) | ((with_reducible refine mt_any (fun _ => ?_) (fun _ => ?_)) <;> (conv => whnf)))
  exact ⟨rfl, l1, rfl, hl1⟩
end Go.Proofs.Ytpedbknmkgcldaa

namespace Go.Proofs.Ytpedbknmkgcldaa
open Go.Ab Go.RowKit
/-! ## a log on a disk with power -/
def wsum : List ByteArray → Int
  | [] => 0
  | s :: r => s.size + 16 + wsum r
theorem wsum_app (l : List ByteArray) (s : ByteArray) : wsum (l ++ [s]) = wsum l + s.size + 16 := by
  induction l with
  | nil => simp [wsum]
  | cons x r ih => simp only [List.cons_append, wsum, ih]; omega
theorem wsum_nonneg (l : List ByteArray) : 0 ≤ wsum l := by
  induction l with
  | nil => simp [wsum]
  | cons x r ih => simp only [wsum]; omega
theorem wsum_len (l : List ByteArray) : 16 * (l.length : Int) ≤ wsum l := by
  induction l with
  | nil => simp [wsum]
  | cons x r ih => simp only [wsum, List.length_cons]; omega
theorem frame_len (s : ByteArray) : (frameL s).length = s.size + 9 := by
  have : s.data.toList.length = s.size := by simp
  simp [frameL, fourL, this]
theorem lay_len (l : List ByteArray) : ((layL l).length : Int) ≤ wsum l := by
  induction l with
  | nil => simp [layL, wsum]
  | cons x r ih =>
    have h := frame_len x
    simp only [layL, List.map_cons, List.flatten_cons, List.length_append, wsum] at ih ⊢
    omega
theorem lay_app (l : List ByteArray) (s : ByteArray) : layL (l ++ [s]) = layL l ++ frameL s := by simp [layL]
theorem cnt_true (l : List ByteArray) (n : Int) : (l.foldl cntS (true, n)) = (true, n) := by
  induction l with
  | nil => rfl
  | cons x r ih => simp only [List.foldl_cons]; rw [show cntS (true, n) x = (true, n) by simp [cntS]]; exact ih
theorem cnt_sum (l : List ByteArray) : ∀ n : Int, n ≤ 524288 → ((n + wsum l ≤ 524288 → l.foldl cntS (false, n) = (false, n + wsum l)) ∧ (¬ n + wsum l ≤ 524288 → (l.foldl cntS (false, n)).1 = true)) := by
  induction l with
  | nil => intro n hn; simp [wsum, hn]
  | cons x r ih =>
    intro n hn
    have hr := wsum_nonneg r
    simp only [List.foldl_cons, wsum]
    by_cases hx : (x.size : Int) + 16 > 524288 - n
    · rw [show cntS (false, n) x = (true, n) by simp [cntS, hx]]
      refine ⟨fun h => by omega, fun _ => by rw [cnt_true]⟩
    · rw [show cntS (false, n) x = (false, n + (x.size + 16)) by simp [cntS, hx]]
      obtain ⟨h1, h2⟩ := ih (n + (x.size + 16)) (by omega)
      refine ⟨fun h => by rw [h1 (by omega)]; congr 1; omega, fun h => h2 (by omega)⟩
theorem counted_eq (l : List ByteArray) : counted l = if l.all (fun x => decide (x.size ≤ 4096)) = false then (0, 1) else if wsum l > 524288 then (0, 8) else (wsum l, 0) := by
  unfold counted
  split
  · rfl
  · obtain ⟨h1, h2⟩ := cnt_sum l 0 (by decide)
    simp only [Int.zero_add] at h1 h2
    by_cases h : wsum l ≤ 524288
    · rw [show cntL l = (false, wsum l) from h1 h, if_neg (show ¬ wsum l > 524288 by omega)]; rfl
    · rw [if_pos (show (cntL l).1 = true from h2 h), if_pos (show wsum l > 524288 by omega)]
structure LS where
  calls : Int
  recs : List ByteArray
  file : Bool
  safe : List UInt8
def LS.fs (x : LS) : List FD := if x.file = true then [⟨logN, x.safe, layL x.recs⟩] else []
def LS.l (x : LS) : LD := ⟨⟨x.calls, false, 0, x.fs⟩, x.recs, wsum x.recs, x.file, false⟩
structure LS.ok (x : LS) : Prop where
  new : x.file = false → x.recs = [] ∧ x.safe = []
  sum : wsum x.recs ≤ 524288
  small : ∀ s ∈ x.recs, s.size ≤ 4096
  safe : x.safe.length ≤ 1048576
theorem LS.ok.len {x : LS} (h : x.ok) : (layL x.recs).length ≤ 524288 := by
  have := lay_len x.recs
  have := h.sum
  omega
theorem LS.ok.recs {x : LS} (h : x.ok) : x.recs.length ≤ 32768 := by
  have := wsum_len x.recs
  have := h.sum
  omega
theorem log_good : goodS logN = true := by decide
theorem fresh_good : goodS freshN = true := by decide
theorem fresh_log : freshN ≠ logN := by decide
theorem LS.ok.fine {x : LS} (h : x.ok) : x.l.d.fine := by
  have h1 := h.len
  have h2 := h.safe
  show DD.fine ⟨x.calls, false, 0, x.fs⟩
  unfold LS.fs
  split
  · exact ⟨⟨by simp; omega⟩, by simp, by simp [log_good], by simp⟩
  · exact ⟨⟨by simp⟩, by simp, by simp, by simp⟩
def LS.spend (x : LS) : Int := IntKind.i64.wrap (x.calls + 1)
theorem LS.spend_eq (x : LS) : x.l.d.spend = ⟨x.spend, false, 0, x.fs⟩ := by simp [LS.l, DD.spend, LS.spend]
def LS.put (x : LS) (s : ByteArray) : LS := ⟨x.spend, x.recs ++ [s], true, x.safe⟩
theorem LS.put_ok {x : LS} (h : x.ok) {s : ByteArray} (h1 : s.size ≤ 4096) (h2 : (s.size : Int) + 16 ≤ 524288 - wsum x.recs) : (x.put s).ok := by
  refine ⟨fun h => (by cases h), ?_, ?_, h.safe⟩
  · show wsum (x.recs ++ [s]) ≤ _
    rw [wsum_app]; omega
  · intro t ht
    rcases List.mem_append.1 ht with ht | ht
    · exact h.small t ht
    · rw [List.mem_singleton.1 ht]; exact h1
theorem LS.append {x : LS} (h : x.ok) {s : ByteArray} (h1 : s.size ≤ 4096) (h2 : (s.size : Int) + 16 ≤ 524288 - wsum x.recs) : x.l.append s = (0, (x.put s).l) := by
  have hl := h.len
  have hf := frame_len s
  have ha : x.l.d.append logN (frameL s) = (0, (x.put s).l.d) := by
    cases hx : x.file with
    | false =>
      obtain ⟨e1, e2⟩ := h.new hx
      have e : x.fs = [] := by simp [LS.fs, hx]
      rw [app_new log_good (by rw [LS.spend_eq]) (show getN logN x.fs = none by rw [e]; rfl) (by omega) (show ¬ x.fs.length = 16 by rw [e]; simp), LS.spend_eq]
      show (0, DD.mk _ _ _ (x.fs ++ _)) = (0, DD.mk _ _ _ (LS.fs _))
      simp [hx, LS.fs, LS.put, e1, e2, layL]
    | true =>
      have e : x.fs = [⟨logN, x.safe, layL x.recs⟩] := by simp [LS.fs, hx]
      rw [app_old log_good (by rw [LS.spend_eq]) (f := ⟨logN, x.safe, layL x.recs⟩) (show getN logN x.fs = _ by rw [e]; simp [getN]) (show ¬ (frameL s).length > 1048576 - (layL x.recs).length by omega), LS.spend_eq]
      show (0, DD.mk _ _ _ (updN logN _ x.fs)) = (0, DD.mk _ _ _ (LS.fs _))
      simp [hx, LS.fs, LS.put, updN, lay_app]
  rw [lapp_ok (l := x.l) rfl (by omega) (by show ¬ _ > 524288 - wsum x.recs; omega) (by rw [ha]), ha]
  simp only [LS.l, LS.put, wsum_app]
def LS.synced (x : LS) : LS := ⟨x.spend, x.recs, true, layL x.recs⟩
theorem LS.synced_ok {x : LS} (h : x.ok) : x.synced.ok := ⟨fun h => (by cases h), h.sum, h.small, by have := h.len; show (layL x.recs).length ≤ _; omega⟩
theorem LS.sync {x : LS} (h : x.ok) : x.l.sync = (0, if x.file = true then x.synced.l else x.l) := by
  cases hx : x.file with
  | false =>
    have h2 : x.l.file = false := hx
    have h3 : x.l.dead = false := rfl
    have h4 : x.l.d.off = false := rfl
    have e : x.l.did 0 = x.l := rfl
    simp only [LD.sync, h2, h3, h4]
    simp [e]
  | true =>
    have h2 : x.l.file = true := hx
    have h3 : x.l.dead = false := rfl
    have e : x.fs = [⟨logN, x.safe, layL x.recs⟩] := by simp [LS.fs, hx]
    have hs : x.l.d.sync logN = (0, x.synced.l.d) := by
      rw [sync_some log_good (by rw [LS.spend_eq]) (f := ⟨logN, x.safe, layL x.recs⟩) (show getN logN x.fs = _ by rw [e]; simp [getN]), LS.spend_eq]
      show (0, DD.mk _ _ _ (updN logN _ x.fs)) = (0, DD.mk _ _ _ (LS.fs _))
      simp [hx, LS.fs, LS.synced, updN]
    simp only [LD.sync, h2, h3, hs]
    simp [LD.did, LS.l, LS.synced, hx]
def LS.laid (x : LS) (s : List ByteArray) : LS := ⟨IntKind.i64.wrap (IntKind.i64.wrap (x.spend + 1) + 1), s, true, layL s⟩
theorem LS.laid_ok (x : LS) {s : List ByteArray} (h : (counted s).2 = 0) : (x.laid s).ok := by
  have hs := counted_small h
  rw [counted_eq] at h
  split at h
  · cases h
  · split at h
    · cases h
    · rename_i h1 h2
      refine ⟨fun h => (by cases h), by show wsum s ≤ _; omega, hs, ?_⟩
      have := lay_len s
      show (layL s).length ≤ _
      omega
theorem LS.reset {x : LS} (h : x.ok) {s : List ByteArray} (hc : (counted s).2 = 0) : x.l.reset s = (0, (x.laid s).l) := by
  have hc1 : (counted s).1 = wsum s ∧ wsum s ≤ 524288 := by
    rw [counted_eq] at hc ⊢
    split at hc
    · cases hc
    · split at hc
      · cases hc
      · rename_i h1 h2
        rw [if_neg h1, if_neg h2]
        exact ⟨rfl, by omega⟩
  have hl := lay_len s
  have hfr : getN freshN x.fs = none := by
    unfold LS.fs
    split
    · simp [getN, fresh_log]
    · rfl
  have hrd : x.l.d.read freshN = ([], 3) := read_none fresh_good rfl hfr
  have hsw : x.l.sweep = (0, x.l) := by simp [LD.sweep, hrd]
  have hlen : ¬ x.fs.length = 16 := by
    unfold LS.fs
    split <;> simp
  have h1 : x.l.app1 s = (0, ⟨x.spend, false, 0, x.fs ++ [⟨freshN, [], layL s⟩]⟩) := by
    unfold LD.app1
    rw [hsw]
    rw [app_new fresh_good (by rw [LS.spend_eq]) hfr (by omega) hlen, LS.spend_eq]
    rfl
  have hg2 : getN freshN (x.fs ++ [⟨freshN, [], layL s⟩]) = some ⟨freshN, [], layL s⟩ := by
    unfold LS.fs
    split <;> simp [getN, fresh_log]
  have h2 : x.l.syn1 s = (0, ⟨IntKind.i64.wrap (x.spend + 1), false, 0, x.fs ++ [⟨freshN, layL s, layL s⟩]⟩) := by
    unfold LD.syn1
    rw [h1]
    rw [sync_some fresh_good (by simp [DD.spend]) hg2]
    unfold LS.fs
    split <;> simp [updN, fresh_log, DD.spend]
  have hg3 : getN freshN (x.fs ++ [⟨freshN, layL s, layL s⟩]) = some ⟨freshN, layL s, layL s⟩ := by
    unfold LS.fs
    split <;> simp [getN, fresh_log]
  have h3 : x.l.ren1 s = (0, (x.laid s).l.d) := by
    unfold LD.ren1
    rw [h2]
    rw [ren_some log_good fresh_good (by simp [DD.spend]) hg3]
    show _ = (0, DD.mk _ _ _ (LS.fs _))
    unfold LS.fs
    split <;> simp [delN, setN, getN, updN, fresh_log, DD.spend, LS.laid]
  rw [res5 rfl hc (by rw [hsw]) (by rw [h1]) (by rw [h2]) (by rw [h3]), hsw, h3, hc1.1]
  simp [LD.did, LS.l, LS.laid]
end Go.Proofs.Ytpedbknmkgcldaa

namespace Go.Proofs.Ytpedbknmkgcldaa
open Go.Ab Go.RowKit Go.MapKept
attribute [local irreducible] ACalls AW ADraw Into
set_option maxRecDepth 100000
def num4 (b : List UInt8) : Int := match b with | a :: b :: c :: d :: _ => numL a b c d | _ => 0
def scan1 (b : List UInt8) : Option ByteArray :=
  if b.length < 9 then none else
  if num4 b > 4096 ∨ num4 b > (b.length : Int) - 9 ∨ b[(num4 b).toNat + 8]? ≠ some 1 then none else
  if num4 (b.drop (4 + (num4 b).toNat)) ≠ chk ((b.drop 4).take (num4 b).toNat) then none else some ⟨((b.drop 4).take (num4 b).toNat).toArray⟩
theorem scan1_len {b : List UInt8} {s : ByteArray} (h : scan1 b = some s) : 9 ≤ b.length := by
  unfold scan1 at h
  split at h
  · cases h
  · omega
def scanL (b : List UInt8) : List ByteArray :=
  match h : scan1 b with
  | none => []
  | some s => s :: scanL (b.drop (s.size + 9))
termination_by b.length
decreasing_by
  have := scan1_len h
  simp only [List.length_drop]
  omega
theorem scanL_none {b : List UInt8} (h : scan1 b = none) : scanL b = [] := by
  rw [scanL]
  split
  · rfl
  · rename_i s hs; rw [h] at hs; cases hs
theorem scanL_some {b : List UInt8} {s : ByteArray} (h : scan1 b = some s) : scanL b = s :: scanL (b.drop (s.size + 9)) := by
  rw [scanL]
  split
  · rename_i hs; rw [h] at hs; cases hs
  · rename_i s' hs; rw [h] at hs; cases hs; rfl
theorem num4_range (b : List UInt8) : 0 ≤ num4 b ∧ num4 b < 4294967296 := by
  unfold num4
  split
  · rename_i a b c d _
    rw [numL_eq]
    have ha := a.toNat_lt
    have hb := b.toNat_lt
    have hc := c.toNat_lt
    have hd := d.toNat_lt
    omega
  · omega
theorem number4 (xs : List UInt8) (h : 4 ≤ xs.length) : ACalls Try.prog 123 [.d (.sl 1 (u8s xs))] [] (fun av L => av = .d (.int .u32 (num4 xs)) ∧ L = []) := by
  match xs, h with
  | a :: b :: c :: d :: r, _ => exact number_ok _ a b c d rfl rfl rfl rfl
theorem u8s_cut (b : List UInt8) (hi lo : Nat) : ((u8s b).take hi).drop lo = u8s ((b.take hi).drop lo) := by simp [u8s]
theorem lay_recs (l : List ByteArray) : l.length ≤ (layL l).length := by
  induction l with
  | nil => simp
  | cons x r ih =>
    have h := frame_len x
    simp only [layL, List.map_cons, List.flatten_cons, List.length_append, List.length_cons] at ih ⊢
    omega
theorem wsum_lay (l : List ByteArray) : wsum l ≤ 2 * ((layL l).length : Int) := by
  induction l with
  | nil => simp [wsum, layL]
  | cons x r ih =>
    have h := frame_len x
    simp only [layL, List.map_cons, List.flatten_cons, List.length_append, wsum] at ih ⊢
    omega
def Lg.ext (l : Lg) (rs : List ByteArray) : Lg := { l with recs := l.recs ++ rs, size := l.size + wsum rs }
def scanB (l : Lg) : List ByteArray → List AB
  | [] => l.L
  | x :: r => (l.ext (x :: r)).L1
set_option maxHeartbeats 4000000 in
theorem scan_ok (l : Lg) (b : List UInt8) (hb : b.length ≤ 1048576) (hz : 0 ≤ l.size ∧ l.size ≤ 1073741824) (hl : l.recs.length ≤ 100000) : ACalls Try.prog 115 [.ptr 0 0, .d (.sl 1 (u8s b))] l.L (fun av L => av = .d (.int .i64 (layL (scanL b)).length) ∧ L = scanB l (scanL b)) := by
  refine acalls_go ttOk zOk foOk Try.func115 rfl Try.ntmps115 rfl false rfl ?_
  conv => whnf
  refine scope_go ttOk zOk foOk (σ := List ByteArray) (fun rs => ([(0, .ptr 0 0), (1, .d (.sl 1 (u8s b))), (6, .d (.int .i64 (layL rs).length))], scanB l rs))
    (fun k rs => (k = 1 ∧ (layL rs).length ≤ b.length ∧ rs ++ scanL (b.drop (layL rs).length) = scanL b) ∨ (k = 0 ∧ rs = scanL b)) (fun k rs => if k = 1 then b.length - (layL rs).length + 1 else 0) ?_ ?_
  · rintro k rest hrest rs hi
    rcases hi with ⟨rfl, hat, hsc⟩ | ⟨rfl, hrs⟩
    · have e := Option.some.inj (show some _ = some rest from hrest)
      subst e
      clear hrest
      have hub : (u8s b).length = b.length := u8s_length _
      obtain ⟨ofs, hofs⟩ : ∃ n, n = (layL rs).length := ⟨_, rfl⟩
      rw [← hofs] at hat hsc ⊢
      rcases hrs : rs with _ | ⟨x, r⟩
      · conv => whnf
        repeat' (first | ((with_reducible apply z_wrap); (focus omega); (conv => whnf)) | ((with_reducible refine mt_dec (fun _ => ?_) (fun _ => ?_)) <;> (conv => whnf)) | ((with_reducible refine mt_eq (fun _ => ?_) (fun _ => ?_)) <;> (conv => whnf)) | ((with_reducible refine mt_ne (fun _ => ?_) (fun _ => ?_)) <;> (conv => whnf)) | ((with_reducible refine mt_not (fun _ => ?_) (fun _ => ?_)) <;> (conv => whnf)) | ((with_reducible refine mt_any (fun _ => ?_) (fun _ => ?_)) <;> (conv => whnf)))
        · rename_i h
          have hno : scan1 (b.drop ofs) = none := by unfold scan1; rw [if_pos (by rw [List.length_drop]; omega)]
          refine into_of [0, 1, 6] ?_
          conv => whnf
          exact ⟨rs, by rw [← hofs], by rw [hrs]; rfl, .inr ⟨rfl, by rw [← hsc, scanL_none hno, List.append_nil]⟩, by simp⟩
        rename_i h9
        have hlen : (b.drop ofs).length = b.length - ofs := List.length_drop
        have h9' : ¬ (b.drop ofs).length < 9 := by omega
        refine ⟨by omega, by omega, by omega, ?_⟩
        rw [show ((u8s b).take (((u8s b).length : Nat) : Int).toNat).drop ((ofs : Int)).toNat = u8s (b.drop ofs) by rw [Int.toNat_natCast, Int.toNat_natCast, u8s_cut, hub, List.take_length]]
        conv => whnf
        repeat' (first | ((with_reducible apply z_wrap); (focus omega); (conv => whnf)) | ((with_reducible refine mt_dec (fun _ => ?_) (fun _ => ?_)) <;> (conv => whnf)) | ((with_reducible refine mt_eq (fun _ => ?_) (fun _ => ?_)) <;> (conv => whnf)) | ((with_reducible refine mt_ne (fun _ => ?_) (fun _ => ?_)) <;> (conv => whnf)) | ((with_reducible refine mt_not (fun _ => ?_) (fun _ => ?_)) <;> (conv => whnf)) | ((with_reducible refine mt_any (fun _ => ?_) (fun _ => ?_)) <;> (conv => whnf)))
        refine (number4 (b.drop ofs) (by rw [List.length_drop]; omega)).mono ?_
        rintro _ _ ⟨rfl, rfl⟩
        have hr4 := num4_range (b.drop ofs)
        obtain ⟨n, hn⟩ : ∃ n : Nat, num4 (b.drop ofs) = n := ⟨(num4 (b.drop ofs)).toNat, by omega⟩
        rw [hn] at hr4 ⊢
        conv => whnf
        repeat' (first | ((with_reducible apply z_wrap); (focus omega); (conv => whnf)) | ((with_reducible refine mt_dec (fun _ => ?_) (fun _ => ?_)) <;> (conv => whnf)) | ((with_reducible refine mt_eq (fun _ => ?_) (fun _ => ?_)) <;> (conv => whnf)) | ((with_reducible refine mt_ne (fun _ => ?_) (fun _ => ?_)) <;> (conv => whnf)) | ((with_reducible refine mt_not (fun _ => ?_) (fun _ => ?_)) <;> (conv => whnf)) | ((with_reducible refine mt_any (fun _ => ?_) (fun _ => ?_)) <;> (conv => whnf)))
        · have hno : scan1 (b.drop ofs) = none := by unfold scan1; rw [if_neg h9', if_pos (by rw [hn]; left; omega)]
          refine into_of [0, 1, 6] ?_
          conv => whnf
          exact ⟨rs, by rw [← hofs], by rw [hrs]; rfl, .inr ⟨rfl, by rw [← hsc, scanL_none hno, List.append_nil]⟩, by simp⟩
        · have hno : scan1 (b.drop ofs) = none := by unfold scan1; rw [if_neg h9', if_pos (by rw [hn, hlen]; right; left; omega)]
          refine into_of [0, 1, 6] ?_
          conv => whnf
          exact ⟨rs, by rw [← hofs], by rw [hrs]; rfl, .inr ⟨rfl, by rw [← hsc, scanL_none hno, List.append_nil]⟩, by simp⟩
        obtain ⟨c, hc⟩ : ∃ c, b[ofs + n + 8]? = some c := ⟨_, List.getElem?_eq_getElem (by omega)⟩
        have hc' : (b.drop ofs)[n + 8]? = some c := by rw [List.getElem?_drop, ← hc]; congr 1
        ((with_reducible refine ix_u8 hc ?_ ?_); (focus (first | rfl | omega)); (conv => whnf))
        repeat' (first | ((with_reducible apply z_wrap); (focus omega); (conv => whnf)) | ((with_reducible refine mt_dec (fun _ => ?_) (fun _ => ?_)) <;> (conv => whnf)) | ((with_reducible refine mt_eq (fun _ => ?_) (fun _ => ?_)) <;> (conv => whnf)) | ((with_reducible refine mt_ne (fun _ => ?_) (fun _ => ?_)) <;> (conv => whnf)) | ((with_reducible refine mt_not (fun _ => ?_) (fun _ => ?_)) <;> (conv => whnf)) | ((with_reducible refine mt_any (fun _ => ?_) (fun _ => ?_)) <;> (conv => whnf)))
        · rename_i h1
          have hno : scan1 (b.drop ofs) = none := by
            unfold scan1
            rw [if_neg h9', if_pos (by rw [hn, Int.toNat_natCast, hc']; right; right; intro e; cases e; exact h1 rfl)]
          refine into_of [0, 1, 6] ?_
          conv => whnf
          exact ⟨rs, by rw [← hofs], by rw [hrs]; rfl, .inr ⟨rfl, by rw [← hsc, scanL_none hno, List.append_nil]⟩, by simp⟩
        rename_i h4096 hroom h1
        have hc1 : c = 1 := UInt8.toNat_inj.1 (show c.toNat = 1 by omega)
        obtain ⟨w, hw⟩ : ∃ w, ((b.drop ofs).drop 4).take n = w := ⟨_, rfl⟩
        have hwl : w.length = n := by rw [← hw, List.length_take, List.length_drop, hlen]; omega
        refine ⟨by omega, by omega, by omega, ?_⟩
        rw [show ((u8s b).take ((ofs : Int) + 4 + n).toNat).drop ((ofs : Int) + 4).toNat = u8s w by rw [show ((ofs : Int) + 4 + n).toNat = ofs + 4 + n by omega, show ((ofs : Int) + 4).toNat = ofs + 4 by omega, u8s_cut, ← hw, List.drop_take, List.drop_drop, show ofs + 4 + n - (ofs + 4) = n by omega]]
        conv => whnf
        repeat' (first | ((with_reducible apply z_wrap); (focus omega); (conv => whnf)) | ((with_reducible refine mt_dec (fun _ => ?_) (fun _ => ?_)) <;> (conv => whnf)) | ((with_reducible refine mt_eq (fun _ => ?_) (fun _ => ?_)) <;> (conv => whnf)) | ((with_reducible refine mt_ne (fun _ => ?_) (fun _ => ?_)) <;> (conv => whnf)) | ((with_reducible refine mt_not (fun _ => ?_) (fun _ => ?_)) <;> (conv => whnf)) | ((with_reducible refine mt_any (fun _ => ?_) (fun _ => ?_)) <;> (conv => whnf)))
        refine ⟨w, rfl, ?_⟩
        obtain ⟨s, hs⟩ : ∃ s : ByteArray, ByteArray.mk w.toArray = s := ⟨_, rfl⟩
        have hsl : s.data.toList = w := by rw [← hs]
        have hss : s.size = n := by rw [← hwl, ← hsl]; simp
        conv => whnf
        rw [hs]
        repeat' (first | ((with_reducible apply z_wrap); (focus omega); (conv => whnf)) | ((with_reducible refine mt_dec (fun _ => ?_) (fun _ => ?_)) <;> (conv => whnf)) | ((with_reducible refine mt_eq (fun _ => ?_) (fun _ => ?_)) <;> (conv => whnf)) | ((with_reducible refine mt_ne (fun _ => ?_) (fun _ => ?_)) <;> (conv => whnf)) | ((with_reducible refine mt_not (fun _ => ?_) (fun _ => ?_)) <;> (conv => whnf)) | ((with_reducible refine mt_any (fun _ => ?_) (fun _ => ?_)) <;> (conv => whnf)))
        refine ⟨by omega, by omega, by omega, ?_⟩
        rw [show ((u8s b).take (((u8s b).length : Nat) : Int).toNat).drop ((ofs : Int) + 4 + n).toNat = u8s ((b.drop ofs).drop (4 + n)) by rw [Int.toNat_natCast, show ((ofs : Int) + 4 + n).toNat = ofs + (4 + n) by omega, u8s_cut, hub, List.take_length, List.drop_drop]]
        conv => whnf
        repeat' (first | ((with_reducible apply z_wrap); (focus omega); (conv => whnf)) | ((with_reducible refine mt_dec (fun _ => ?_) (fun _ => ?_)) <;> (conv => whnf)) | ((with_reducible refine mt_eq (fun _ => ?_) (fun _ => ?_)) <;> (conv => whnf)) | ((with_reducible refine mt_ne (fun _ => ?_) (fun _ => ?_)) <;> (conv => whnf)) | ((with_reducible refine mt_not (fun _ => ?_) (fun _ => ?_)) <;> (conv => whnf)) | ((with_reducible refine mt_any (fun _ => ?_) (fun _ => ?_)) <;> (conv => whnf)))
        refine (number4 ((b.drop ofs).drop (4 + n)) (by rw [List.length_drop]; omega)).mono ?_
        rintro _ _ ⟨rfl, rfl⟩
        conv => whnf
        repeat' (first | ((with_reducible apply z_wrap); (focus omega); (conv => whnf)) | ((with_reducible refine mt_dec (fun _ => ?_) (fun _ => ?_)) <;> (conv => whnf)) | ((with_reducible refine mt_eq (fun _ => ?_) (fun _ => ?_)) <;> (conv => whnf)) | ((with_reducible refine mt_ne (fun _ => ?_) (fun _ => ?_)) <;> (conv => whnf)) | ((with_reducible refine mt_not (fun _ => ?_) (fun _ => ?_)) <;> (conv => whnf)) | ((with_reducible refine mt_any (fun _ => ?_) (fun _ => ?_)) <;> (conv => whnf)))
        refine (check_ok s (by omega)).mono ?_
        rintro _ _ ⟨rfl, rfl⟩
        rw [hsl]
        conv => whnf
        repeat' (first | ((with_reducible apply z_wrap); (focus omega); (conv => whnf)) | ((with_reducible refine mt_dec (fun _ => ?_) (fun _ => ?_)) <;> (conv => whnf)) | ((with_reducible refine mt_eq (fun _ => ?_) (fun _ => ?_)) <;> (conv => whnf)) | ((with_reducible refine mt_ne (fun _ => ?_) (fun _ => ?_)) <;> (conv => whnf)) | ((with_reducible refine mt_not (fun _ => ?_) (fun _ => ?_)) <;> (conv => whnf)) | ((with_reducible refine mt_any (fun _ => ?_) (fun _ => ?_)) <;> (conv => whnf)))
        · rename_i h2
          have hno : scan1 (b.drop ofs) = none := by
            unfold scan1
            rw [if_neg h9', if_neg (by rw [hn, hlen, Int.toNat_natCast, hc', hc1]; rintro (h | h | h) <;> first | omega | exact h rfl), if_pos (by rw [hn, Int.toNat_natCast, hw]; exact h2)]
          refine into_of [0, 1, 6] ?_
          conv => whnf
          exact ⟨rs, by rw [← hofs], by rw [hrs]; rfl, .inr ⟨rfl, by rw [← hsc, scanL_none hno, List.append_nil]⟩, by simp⟩
        rename_i h2
        have hsome : scan1 (b.drop ofs) = some s := by
          unfold scan1
          rw [if_neg h9', if_neg (by rw [hn, hlen, Int.toNat_natCast, hc', hc1]; rintro (h | h | h) <;> first | omega | exact h rfl), if_neg (by rw [hn, Int.toNat_natCast, hw]; intro h; exact h (by simpa using h2)), hn, Int.toNat_natCast, hw, hs]
        have hnew : (layL (rs ++ [s])).length = ofs + (n + 9) := by rw [lay_app, List.length_append, frame_len, hss, ← hofs]
        have hfit : ofs + (n + 9) ≤ b.length := by omega
        have hrl : (l.ext rs).recs.length = l.recs.length + rs.length := by simp [Lg.ext]
        have hrz : (l.ext rs).size = l.size + wsum rs := rfl
        have hrn := lay_recs rs
        have hrw := wsum_lay rs
        have hr0 := wsum_nonneg rs
        rw [← hofs] at hrn hrw
        rw [hrs] at hrl hrn hrz hrw hr0
        refine ⟨by rw [strs_length]; (show (_ + 1) * 16 ≤ _); omega, ?_⟩
        conv => whnf
        repeat' (first | ((with_reducible apply z_wrap); (focus omega); (conv => whnf)) | ((with_reducible refine mt_dec (fun _ => ?_) (fun _ => ?_)) <;> (conv => whnf)) | ((with_reducible refine mt_eq (fun _ => ?_) (fun _ => ?_)) <;> (conv => whnf)) | ((with_reducible refine mt_ne (fun _ => ?_) (fun _ => ?_)) <;> (conv => whnf)) | ((with_reducible refine mt_not (fun _ => ?_) (fun _ => ?_)) <;> (conv => whnf)) | ((with_reducible refine mt_any (fun _ => ?_) (fun _ => ?_)) <;> (conv => whnf)))
        refine into_of [0, 1, 6] ?_
        conv => whnf
        refine ⟨rs ++ [s], by rw [hnew, show ((ofs + (n + 9) : Nat) : Int) = (ofs : Int) + (4 + n + 5) by omega], ?_, .inl ⟨rfl, by rw [hnew]; exact hfit, ?_⟩, by rw [hnew]; simp; omega⟩
        · rw [hrs, strs_app]
          simp [scanB, Lg.L1, Lg.ext, Lg.tail, wsum, hss]
        · rw [hnew, ← hsc, scanL_some hsome, hss, List.drop_drop, List.append_assoc]
          rfl
      · conv => whnf
        repeat' (first | ((with_reducible apply z_wrap); (focus omega); (conv => whnf)) | ((with_reducible refine mt_dec (fun _ => ?_) (fun _ => ?_)) <;> (conv => whnf)) | ((with_reducible refine mt_eq (fun _ => ?_) (fun _ => ?_)) <;> (conv => whnf)) | ((with_reducible refine mt_ne (fun _ => ?_) (fun _ => ?_)) <;> (conv => whnf)) | ((with_reducible refine mt_not (fun _ => ?_) (fun _ => ?_)) <;> (conv => whnf)) | ((with_reducible refine mt_any (fun _ => ?_) (fun _ => ?_)) <;> (conv => whnf)))
        · rename_i h
          have hno : scan1 (b.drop ofs) = none := by unfold scan1; rw [if_pos (by rw [List.length_drop]; omega)]
          refine into_of [0, 1, 6] ?_
          conv => whnf
          exact ⟨rs, by rw [← hofs], by rw [hrs]; rfl, .inr ⟨rfl, by rw [← hsc, scanL_none hno, List.append_nil]⟩, by simp⟩
        rename_i h9
        have hlen : (b.drop ofs).length = b.length - ofs := List.length_drop
        have h9' : ¬ (b.drop ofs).length < 9 := by omega
        refine ⟨by omega, by omega, by omega, ?_⟩
        rw [show ((u8s b).take (((u8s b).length : Nat) : Int).toNat).drop ((ofs : Int)).toNat = u8s (b.drop ofs) by rw [Int.toNat_natCast, Int.toNat_natCast, u8s_cut, hub, List.take_length]]
        conv => whnf
        repeat' (first | ((with_reducible apply z_wrap); (focus omega); (conv => whnf)) | ((with_reducible refine mt_dec (fun _ => ?_) (fun _ => ?_)) <;> (conv => whnf)) | ((with_reducible refine mt_eq (fun _ => ?_) (fun _ => ?_)) <;> (conv => whnf)) | ((with_reducible refine mt_ne (fun _ => ?_) (fun _ => ?_)) <;> (conv => whnf)) | ((with_reducible refine mt_not (fun _ => ?_) (fun _ => ?_)) <;> (conv => whnf)) | ((with_reducible refine mt_any (fun _ => ?_) (fun _ => ?_)) <;> (conv => whnf)))
        refine (number4 (b.drop ofs) (by rw [List.length_drop]; omega)).mono ?_
        rintro _ _ ⟨rfl, rfl⟩
        have hr4 := num4_range (b.drop ofs)
        obtain ⟨n, hn⟩ : ∃ n : Nat, num4 (b.drop ofs) = n := ⟨(num4 (b.drop ofs)).toNat, by omega⟩
        rw [hn] at hr4 ⊢
        conv => whnf
        repeat' (first | ((with_reducible apply z_wrap); (focus omega); (conv => whnf)) | ((with_reducible refine mt_dec (fun _ => ?_) (fun _ => ?_)) <;> (conv => whnf)) | ((with_reducible refine mt_eq (fun _ => ?_) (fun _ => ?_)) <;> (conv => whnf)) | ((with_reducible refine mt_ne (fun _ => ?_) (fun _ => ?_)) <;> (conv => whnf)) | ((with_reducible refine mt_not (fun _ => ?_) (fun _ => ?_)) <;> (conv => whnf)) | ((with_reducible refine mt_any (fun _ => ?_) (fun _ => ?_)) <;> (conv => whnf)))
        · have hno : scan1 (b.drop ofs) = none := by unfold scan1; rw [if_neg h9', if_pos (by rw [hn]; left; omega)]
          refine into_of [0, 1, 6] ?_
          conv => whnf
          exact ⟨rs, by rw [← hofs], by rw [hrs]; rfl, .inr ⟨rfl, by rw [← hsc, scanL_none hno, List.append_nil]⟩, by simp⟩
        · have hno : scan1 (b.drop ofs) = none := by unfold scan1; rw [if_neg h9', if_pos (by rw [hn, hlen]; right; left; omega)]
          refine into_of [0, 1, 6] ?_
          conv => whnf
          exact ⟨rs, by rw [← hofs], by rw [hrs]; rfl, .inr ⟨rfl, by rw [← hsc, scanL_none hno, List.append_nil]⟩, by simp⟩
        obtain ⟨c, hc⟩ : ∃ c, b[ofs + n + 8]? = some c := ⟨_, List.getElem?_eq_getElem (by omega)⟩
        have hc' : (b.drop ofs)[n + 8]? = some c := by rw [List.getElem?_drop, ← hc]; congr 1
        ((with_reducible refine ix_u8 hc ?_ ?_); (focus (first | rfl | omega)); (conv => whnf))
        repeat' (first | ((with_reducible apply z_wrap); (focus omega); (conv => whnf)) | ((with_reducible refine mt_dec (fun _ => ?_) (fun _ => ?_)) <;> (conv => whnf)) | ((with_reducible refine mt_eq (fun _ => ?_) (fun _ => ?_)) <;> (conv => whnf)) | ((with_reducible refine mt_ne (fun _ => ?_) (fun _ => ?_)) <;> (conv => whnf)) | ((with_reducible refine mt_not (fun _ => ?_) (fun _ => ?_)) <;> (conv => whnf)) | ((with_reducible refine mt_any (fun _ => ?_) (fun _ => ?_)) <;> (conv => whnf)))
        · rename_i h1
          have hno : scan1 (b.drop ofs) = none := by
            unfold scan1
            rw [if_neg h9', if_pos (by rw [hn, Int.toNat_natCast, hc']; right; right; intro e; cases e; exact h1 rfl)]
          refine into_of [0, 1, 6] ?_
          conv => whnf
          exact ⟨rs, by rw [← hofs], by rw [hrs]; rfl, .inr ⟨rfl, by rw [← hsc, scanL_none hno, List.append_nil]⟩, by simp⟩
        rename_i h4096 hroom h1
        have hc1 : c = 1 := UInt8.toNat_inj.1 (show c.toNat = 1 by omega)
        obtain ⟨w, hw⟩ : ∃ w, ((b.drop ofs).drop 4).take n = w := ⟨_, rfl⟩
        have hwl : w.length = n := by rw [← hw, List.length_take, List.length_drop, hlen]; omega
        refine ⟨by omega, by omega, by omega, ?_⟩
        rw [show ((u8s b).take ((ofs : Int) + 4 + n).toNat).drop ((ofs : Int) + 4).toNat = u8s w by rw [show ((ofs : Int) + 4 + n).toNat = ofs + 4 + n by omega, show ((ofs : Int) + 4).toNat = ofs + 4 by omega, u8s_cut, ← hw, List.drop_take, List.drop_drop, show ofs + 4 + n - (ofs + 4) = n by omega]]
        conv => whnf
        repeat' (first | ((with_reducible apply z_wrap); (focus omega); (conv => whnf)) | ((with_reducible refine mt_dec (fun _ => ?_) (fun _ => ?_)) <;> (conv => whnf)) | ((with_reducible refine mt_eq (fun _ => ?_) (fun _ => ?_)) <;> (conv => whnf)) | ((with_reducible refine mt_ne (fun _ => ?_) (fun _ => ?_)) <;> (conv => whnf)) | ((with_reducible refine mt_not (fun _ => ?_) (fun _ => ?_)) <;> (conv => whnf)) | ((with_reducible refine mt_any (fun _ => ?_) (fun _ => ?_)) <;> (conv => whnf)))
        refine ⟨w, rfl, ?_⟩
        obtain ⟨s, hs⟩ : ∃ s : ByteArray, ByteArray.mk w.toArray = s := ⟨_, rfl⟩
        have hsl : s.data.toList = w := by rw [← hs]
        have hss : s.size = n := by rw [← hwl, ← hsl]; simp
        conv => whnf
        rw [hs]
        repeat' (first | ((with_reducible apply z_wrap); (focus omega); (conv => whnf)) | ((with_reducible refine mt_dec (fun _ => ?_) (fun _ => ?_)) <;> (conv => whnf)) | ((with_reducible refine mt_eq (fun _ => ?_) (fun _ => ?_)) <;> (conv => whnf)) | ((with_reducible refine mt_ne (fun _ => ?_) (fun _ => ?_)) <;> (conv => whnf)) | ((with_reducible refine mt_not (fun _ => ?_) (fun _ => ?_)) <;> (conv => whnf)) | ((with_reducible refine mt_any (fun _ => ?_) (fun _ => ?_)) <;> (conv => whnf)))
        refine ⟨by omega, by omega, by omega, ?_⟩
        rw [show ((u8s b).take (((u8s b).length : Nat) : Int).toNat).drop ((ofs : Int) + 4 + n).toNat = u8s ((b.drop ofs).drop (4 + n)) by rw [Int.toNat_natCast, show ((ofs : Int) + 4 + n).toNat = ofs + (4 + n) by omega, u8s_cut, hub, List.take_length, List.drop_drop]]
        conv => whnf
        repeat' (first | ((with_reducible apply z_wrap); (focus omega); (conv => whnf)) | ((with_reducible refine mt_dec (fun _ => ?_) (fun _ => ?_)) <;> (conv => whnf)) | ((with_reducible refine mt_eq (fun _ => ?_) (fun _ => ?_)) <;> (conv => whnf)) | ((with_reducible refine mt_ne (fun _ => ?_) (fun _ => ?_)) <;> (conv => whnf)) | ((with_reducible refine mt_not (fun _ => ?_) (fun _ => ?_)) <;> (conv => whnf)) | ((with_reducible refine mt_any (fun _ => ?_) (fun _ => ?_)) <;> (conv => whnf)))
        refine (number4 ((b.drop ofs).drop (4 + n)) (by rw [List.length_drop]; omega)).mono ?_
        rintro _ _ ⟨rfl, rfl⟩
        conv => whnf
        repeat' (first | ((with_reducible apply z_wrap); (focus omega); (conv => whnf)) | ((with_reducible refine mt_dec (fun _ => ?_) (fun _ => ?_)) <;> (conv => whnf)) | ((with_reducible refine mt_eq (fun _ => ?_) (fun _ => ?_)) <;> (conv => whnf)) | ((with_reducible refine mt_ne (fun _ => ?_) (fun _ => ?_)) <;> (conv => whnf)) | ((with_reducible refine mt_not (fun _ => ?_) (fun _ => ?_)) <;> (conv => whnf)) | ((with_reducible refine mt_any (fun _ => ?_) (fun _ => ?_)) <;> (conv => whnf)))
        refine (check_ok s (by omega)).mono ?_
        rintro _ _ ⟨rfl, rfl⟩
        rw [hsl]
        conv => whnf
        repeat' (first | ((with_reducible apply z_wrap); (focus omega); (conv => whnf)) | ((with_reducible refine mt_dec (fun _ => ?_) (fun _ => ?_)) <;> (conv => whnf)) | ((with_reducible refine mt_eq (fun _ => ?_) (fun _ => ?_)) <;> (conv => whnf)) | ((with_reducible refine mt_ne (fun _ => ?_) (fun _ => ?_)) <;> (conv => whnf)) | ((with_reducible refine mt_not (fun _ => ?_) (fun _ => ?_)) <;> (conv => whnf)) | ((with_reducible refine mt_any (fun _ => ?_) (fun _ => ?_)) <;> (conv => whnf)))
        · rename_i h2
          have hno : scan1 (b.drop ofs) = none := by
            unfold scan1
            rw [if_neg h9', if_neg (by rw [hn, hlen, Int.toNat_natCast, hc', hc1]; rintro (h | h | h) <;> first | omega | exact h rfl), if_pos (by rw [hn, Int.toNat_natCast, hw]; exact h2)]
          refine into_of [0, 1, 6] ?_
          conv => whnf
          exact ⟨rs, by rw [← hofs], by rw [hrs]; rfl, .inr ⟨rfl, by rw [← hsc, scanL_none hno, List.append_nil]⟩, by simp⟩
        rename_i h2
        have hsome : scan1 (b.drop ofs) = some s := by
          unfold scan1
          rw [if_neg h9', if_neg (by rw [hn, hlen, Int.toNat_natCast, hc', hc1]; rintro (h | h | h) <;> first | omega | exact h rfl), if_neg (by rw [hn, Int.toNat_natCast, hw]; intro h; exact h (by simpa using h2)), hn, Int.toNat_natCast, hw, hs]
        have hnew : (layL (rs ++ [s])).length = ofs + (n + 9) := by rw [lay_app, List.length_append, frame_len, hss, ← hofs]
        have hfit : ofs + (n + 9) ≤ b.length := by omega
        have hrl : (l.ext rs).recs.length = l.recs.length + rs.length := by simp [Lg.ext]
        have hrz : (l.ext rs).size = l.size + wsum rs := rfl
        have hrn := lay_recs rs
        have hrw := wsum_lay rs
        have hr0 := wsum_nonneg rs
        rw [← hofs] at hrn hrw
        rw [hrs] at hrl hrn hrz hrw hr0
        refine ⟨by rw [strs_length]; (show (_ + 1) * 16 ≤ _); omega, ?_⟩
        conv => whnf
        repeat' (first | ((with_reducible apply z_wrap); (focus omega); (conv => whnf)) | ((with_reducible refine mt_dec (fun _ => ?_) (fun _ => ?_)) <;> (conv => whnf)) | ((with_reducible refine mt_eq (fun _ => ?_) (fun _ => ?_)) <;> (conv => whnf)) | ((with_reducible refine mt_ne (fun _ => ?_) (fun _ => ?_)) <;> (conv => whnf)) | ((with_reducible refine mt_not (fun _ => ?_) (fun _ => ?_)) <;> (conv => whnf)) | ((with_reducible refine mt_any (fun _ => ?_) (fun _ => ?_)) <;> (conv => whnf)))
        refine into_of [0, 1, 6] ?_
        conv => whnf
        refine ⟨rs ++ [s], by rw [hnew, show ((ofs + (n + 9) : Nat) : Int) = (ofs : Int) + (4 + n + 5) by omega], ?_, .inl ⟨rfl, by rw [hnew]; exact hfit, ?_⟩, by rw [hnew]; simp; omega⟩
        · rw [hrs, strs_app]
          have e : wsum (x :: (r ++ [s])) = wsum (x :: r) + s.size + 16 := wsum_app (x :: r) s
          simp [scanB, Lg.L1, Lg.ext, Lg.tail, e, hss]
          omega
        · rw [hnew, ← hsc, scanL_some hsome, hss, List.drop_drop, List.append_assoc]
          rfl
    · have e := Option.some.inj (show some _ = some rest from hrest)
      subst e
      clear hrest
      subst hrs
      rcases h : scanL b with _ | ⟨x, r⟩
      · conv => whnf
        exact ⟨rfl, rfl⟩
      · conv => whnf
        exact ⟨rfl, rfl⟩
  · intro pass
    conv => whnf
    refine aw_at (σ := Unit) (fun _ => ([(0, .ptr 0 0), (1, .d (.sl 1 (u8s b))), (6, .d (.int .i64 (0 : Nat)))], scanB l [])) (fun _ => True) [0, 1, 6] ?_ ?_
    · conv => whnf
      exact ⟨(), rfl, rfl, trivial⟩
    · intro _ _
      exact pass 1 _ rfl [] (.inl ⟨rfl, Nat.zero_le _, rfl⟩)
end Go.Proofs.Ytpedbknmkgcldaa

namespace Go.Proofs.Ytpedbknmkgcldaa
open Go.Ab Go.RowKit Go.MapKept
attribute [local irreducible] ACalls AW ADraw Into
set_option maxRecDepth 100000
theorem cut_ok (d : Dk) (hd : d.dat.ok) (n : ByteArray) (k : Int) : ACalls Try.prog 29 [.ptr 0 0, .d (.str n), .d (.int .i64 k)] d.L (fun av L => ∃ d' : Dk, av = .d (.int .i64 (d.dat.cut n k).1) ∧ L = d'.L ∧ d'.dat = (d.dat.cut n k).2) := by
  refine acalls_go ttOk zOk foOk Try.func29 rfl Try.ntmps29 rfl false rfl ?_
  conv => whnf
  refine (call_by d _ n true).mono ?_
  rintro _ _ (⟨rfl, rfl, h⟩ | ⟨rfl, rfl, hk, hg, ho⟩ | ⟨rfl, rfl, hk, hg, ho, hf⟩ | ⟨i, f, rfl, rfl, hk, hg, ho, hf⟩)
  · conv => whnf
    repeat' (first | ((with_reducible apply z_wrap); (focus omega); (conv => whnf)) | ((with_reducible refine mt_dec (fun _ => ?_) (fun _ => ?_)) <;> (conv => whnf)) | ((with_reducible refine mt_eq (fun _ => ?_) (fun _ => ?_)) <;> (conv => whnf)) | ((with_reducible refine mt_ne (fun _ => ?_) (fun _ => ?_)) <;> (conv => whnf)) | ((with_reducible refine mt_not (fun _ => ?_) (fun _ => ?_)) <;> (conv => whnf)) | ((with_reducible refine mt_any (fun _ => ?_) (fun _ => ?_)) <;> (conv => whnf)))
    rw [cut_bad (by simpa using h)]
    exact ⟨d, rfl, rfl, rfl⟩
  · conv => whnf
    repeat' (first | ((with_reducible apply z_wrap); (focus omega); (conv => whnf)) | ((with_reducible refine mt_dec (fun _ => ?_) (fun _ => ?_)) <;> (conv => whnf)) | ((with_reducible refine mt_eq (fun _ => ?_) (fun _ => ?_)) <;> (conv => whnf)) | ((with_reducible refine mt_ne (fun _ => ?_) (fun _ => ?_)) <;> (conv => whnf)) | ((with_reducible refine mt_not (fun _ => ?_) (fun _ => ?_)) <;> (conv => whnf)) | ((with_reducible refine mt_any (fun _ => ?_) (fun _ => ?_)) <;> (conv => whnf)))
    rw [cut_off (by simpa using hk) hg ho]
    exact ⟨d.spend, rfl, rfl, rfl⟩
  · conv => whnf
    repeat' (first | ((with_reducible apply z_wrap); (focus omega); (conv => whnf)) | ((with_reducible refine mt_dec (fun _ => ?_) (fun _ => ?_)) <;> (conv => whnf)) | ((with_reducible refine mt_eq (fun _ => ?_) (fun _ => ?_)) <;> (conv => whnf)) | ((with_reducible refine mt_ne (fun _ => ?_) (fun _ => ?_)) <;> (conv => whnf)) | ((with_reducible refine mt_not (fun _ => ?_) (fun _ => ?_)) <;> (conv => whnf)) | ((with_reducible refine mt_any (fun _ => ?_) (fun _ => ?_)) <;> (conv => whnf)))
    rw [cut_none (by simpa using hk) hg ho (getN_none hf)]
    exact ⟨d.spend, rfl, rfl, rfl⟩
  · have hk' : ¬ k < 0 := by simpa using hk
    have hs : f.seen.length ≤ 1048576 := (hd.len f.dat (mem_getN (getN_some hf))).1
    conv => whnf
    repeat' (first | ((with_reducible apply z_wrap); (focus omega); (conv => whnf)) | ((with_reducible refine mt_dec (fun _ => ?_) (fun _ => ?_)) <;> (conv => whnf)) | ((with_reducible refine mt_eq (fun _ => ?_) (fun _ => ?_)) <;> (conv => whnf)) | ((with_reducible refine mt_ne (fun _ => ?_) (fun _ => ?_)) <;> (conv => whnf)) | ((with_reducible refine mt_not (fun _ => ?_) (fun _ => ?_)) <;> (conv => whnf)) | ((with_reducible refine mt_any (fun _ => ?_) (fun _ => ?_)) <;> (conv => whnf)))
    refine ⟨f.cs, box_at (findF_mem hf), ?_⟩
    conv => whnf
    repeat' (first | ((with_reducible apply z_wrap); (focus omega); (conv => whnf)) | ((with_reducible refine mt_dec (fun _ => ?_) (fun _ => ?_)) <;> (conv => whnf)) | ((with_reducible refine mt_eq (fun _ => ?_) (fun _ => ?_)) <;> (conv => whnf)) | ((with_reducible refine mt_ne (fun _ => ?_) (fun _ => ?_)) <;> (conv => whnf)) | ((with_reducible refine mt_not (fun _ => ?_) (fun _ => ?_)) <;> (conv => whnf)) | ((with_reducible refine mt_any (fun _ => ?_) (fun _ => ?_)) <;> (conv => whnf)))
    · rename_i hl
      simp only [u8s_length] at hl
      rw [cut_long hk' hg ho (getN_some hf) (by show (f.seen.length : Int) < k; omega)]
      exact ⟨d.spend, rfl, rfl, rfl⟩
    · rename_i hl
      simp only [u8s_length] at hl
      rw [cut_some hk' hg ho (getN_some hf) (by show ¬ (f.seen.length : Int) < k; omega)]
      refine ⟨f.cs, box_at (findF_mem hf), ?_⟩
      conv => whnf
      repeat' (first | ((with_reducible apply z_wrap); (focus omega); (conv => whnf)) | ((with_reducible refine mt_dec (fun _ => ?_) (fun _ => ?_)) <;> (conv => whnf)) | ((with_reducible refine mt_eq (fun _ => ?_) (fun _ => ?_)) <;> (conv => whnf)) | ((with_reducible refine mt_ne (fun _ => ?_) (fun _ => ?_)) <;> (conv => whnf)) | ((with_reducible refine mt_not (fun _ => ?_) (fun _ => ?_)) <;> (conv => whnf)) | ((with_reducible refine mt_any (fun _ => ?_) (fun _ => ?_)) <;> (conv => whnf)))
      refine ⟨by omega, by omega, by rw [u8s_length]; omega, ?_⟩
      conv => whnf
      repeat' (first | ((with_reducible apply z_wrap); (focus omega); (conv => whnf)) | ((with_reducible refine mt_dec (fun _ => ?_) (fun _ => ?_)) <;> (conv => whnf)) | ((with_reducible refine mt_eq (fun _ => ?_) (fun _ => ?_)) <;> (conv => whnf)) | ((with_reducible refine mt_ne (fun _ => ?_) (fun _ => ?_)) <;> (conv => whnf)) | ((with_reducible refine mt_not (fun _ => ?_) (fun _ => ?_)) <;> (conv => whnf)) | ((with_reducible refine mt_any (fun _ => ?_) (fun _ => ?_)) <;> (conv => whnf)))
      have e : ((u8s f.seen).take k.toNat).drop (Int.toNat 0) = u8s (f.seen.take k.toNat) := by simp [u8s, List.map_take]
      rw [e]
      refine (clone_row (f.seen.take k.toNat) (by simp; omega)).mono ?_
      rintro _ _ ⟨rfl, rfl⟩
      conv => whnf
      repeat' (first | ((with_reducible apply z_wrap); (focus omega); (conv => whnf)) | ((with_reducible refine mt_dec (fun _ => ?_) (fun _ => ?_)) <;> (conv => whnf)) | ((with_reducible refine mt_eq (fun _ => ?_) (fun _ => ?_)) <;> (conv => whnf)) | ((with_reducible refine mt_ne (fun _ => ?_) (fun _ => ?_)) <;> (conv => whnf)) | ((with_reducible refine mt_not (fun _ => ?_) (fun _ => ?_)) <;> (conv => whnf)) | ((with_reducible refine mt_any (fun _ => ?_) (fun _ => ?_)) <;> (conv => whnf)))
      refine .inl ⟨1, _, i, _, _, rfl, ent_at hf, by simp [Fl.cs], ?_⟩
      intro L' hL
      obtain rfl : L' = [.cells [.d (.int .i64 d.spend.calls), .d (.bool d.spend.off), .d (.int .i64 d.spend.upto), .map 1], .map ((d.spend.put i ⟨f.name, f.b, f.safe, f.seen.take k.toNat⟩).fs.map Fl.ent), .row 5 1 (u8s (f.seen.take k.toNat)) true] := by rw [hL]; simp [Dk.put, List.map_set, Fl.ent, Fl.cs, overD, norm1]
      clear hL
      conv => whnf
      exact ⟨d.spend.put i ⟨f.name, f.b, f.safe, f.seen.take k.toNat⟩, rfl, rfl, put_dat (d := d.spend) hf (fun f => { f with seen := f.seen.take k.toNat }) _ rfl⟩
end Go.Proofs.Ytpedbknmkgcldaa

namespace Go.Proofs.Ytpedbknmkgcldaa
open Go.Ab Go.RowKit Go.MapKept
attribute [local irreducible] ACalls AW ADraw Into
set_option maxRecDepth 100000
def LD.got (l : LD) (rs : List ByteArray) : LD := { l with file := true, recs := l.recs ++ rs, size := l.size + wsum rs }
def LD.load (l : LD) : Int × LD :=
  if (l.d.read logN).2 = 3 then (0, l) else
  if (l.d.read logN).2 ≠ 0 then ((l.d.read logN).2, l) else
  if ((layL (scanL (l.d.read logN).1)).length : Int) = (l.d.read logN).1.length then ((l.d.sync logN).1, { l.got (scanL (l.d.read logN).1) with d := (l.d.sync logN).2 }) else
  if (l.d.cut logN (layL (scanL (l.d.read logN).1)).length).1 ≠ 0 then ((l.d.cut logN (layL (scanL (l.d.read logN).1)).length).1, { l.got (scanL (l.d.read logN).1) with d := (l.d.cut logN (layL (scanL (l.d.read logN).1)).length).2 }) else
  (((l.d.cut logN (layL (scanL (l.d.read logN).1)).length).2.sync logN).1, { l.got (scanL (l.d.read logN).1) with d := ((l.d.cut logN (layL (scanL (l.d.read logN).1)).length).2.sync logN).2 })
set_option maxHeartbeats 4000000 in
theorem load_ok (l : Lg) (hd : l.d.dat.fine) (hz : 0 ≤ l.size ∧ l.size ≤ 1073741824) (hl : l.recs.length ≤ 100000) : ACalls Try.prog 87 [.ptr 0 0] l.L (fun av L => ∃ l' : Lg, av = .d (.int .i64 (l.dat.load).1) ∧ (L = l'.L ∨ L = l'.L1) ∧ l'.dat = (l.dat.load).2) := by
  refine acalls_go ttOk zOk foOk Try.func87 rfl Try.ntmps87 rfl false rfl ?_
  conv => whnf
  repeat' (first | ((with_reducible apply z_wrap); (focus omega); (conv => whnf)) | ((with_reducible refine mt_dec (fun _ => ?_) (fun _ => ?_)) <;> (conv => whnf)) | ((with_reducible refine mt_eq (fun _ => ?_) (fun _ => ?_)) <;> (conv => whnf)) | ((with_reducible refine mt_ne (fun _ => ?_) (fun _ => ?_)) <;> (conv => whnf)) | ((with_reducible refine mt_not (fun _ => ?_) (fun _ => ?_)) <;> (conv => whnf)) | ((with_reducible refine mt_any (fun _ => ?_) (fun _ => ?_)) <;> (conv => whnf)))
  refine (read_ok l.d hd.ok logN).mono ?_
  rintro _ _ ⟨rfl, rfl⟩
  conv => whnf
  repeat' (first | ((with_reducible apply z_wrap); (focus omega); (conv => whnf)) | ((with_reducible refine mt_dec (fun _ => ?_) (fun _ => ?_)) <;> (conv => whnf)) | ((with_reducible refine mt_eq (fun _ => ?_) (fun _ => ?_)) <;> (conv => whnf)) | ((with_reducible refine mt_ne (fun _ => ?_) (fun _ => ?_)) <;> (conv => whnf)) | ((with_reducible refine mt_not (fun _ => ?_) (fun _ => ?_)) <;> (conv => whnf)) | ((with_reducible refine mt_any (fun _ => ?_) (fun _ => ?_)) <;> (conv => whnf)))
  · rename_i h3
    have h3' : (l.dat.d.read logN).2 = 3 := h3
    rw [show l.dat.load = (0, l.dat) by simp only [LD.load, if_pos h3']]
    exact ⟨l, rfl, .inl rfl, rfl⟩
  · rename_i h3 h0
    have h3' : ¬ (l.dat.d.read logN).2 = 3 := h3
    have h0' : (l.dat.d.read logN).2 ≠ 0 := h0
    rw [show l.dat.load = ((l.dat.d.read logN).2, l.dat) by simp only [LD.load, if_neg h3', if_pos h0']]
    exact ⟨l, rfl, .inl rfl, rfl⟩
  rename_i h3 h0
  have h3' : ¬ (l.dat.d.read logN).2 = 3 := h3
  have h0'' : ¬ (l.dat.d.read logN).2 ≠ 0 := fun h => h (by simpa using h0 : (l.d.dat.read logN).2 = 0)
  obtain ⟨b, hrd⟩ : ∃ b, (l.d.dat.read logN).1 = b := ⟨_, rfl⟩
  have hrd' : (l.dat.d.read logN).1 = b := hrd
  have hub : (u8s b).length = b.length := u8s_length b
  have hb : b.length ≤ 1048576 := by
    rw [← hrd]
    unfold DD.read
    split
    · simp
    · split
      · simp
      · split
        · simp
        · rename_i f hf
          exact (hd.ok.len f (mem_getN hf)).1
  rw [hrd]
  conv => whnf
  refine (scan_ok { l with file := true } b hb hz hl).mono ?_
  rintro _ _ ⟨rfl, rfl⟩
  rcases hsc : scanL b with _ | ⟨x, r⟩
  · conv => whnf
    repeat' (first | ((with_reducible apply z_wrap); (focus omega); (conv => whnf)) | ((with_reducible refine mt_dec (fun _ => ?_) (fun _ => ?_)) <;> (conv => whnf)) | ((with_reducible refine mt_eq (fun _ => ?_) (fun _ => ?_)) <;> (conv => whnf)) | ((with_reducible refine mt_ne (fun _ => ?_) (fun _ => ?_)) <;> (conv => whnf)) | ((with_reducible refine mt_not (fun _ => ?_) (fun _ => ?_)) <;> (conv => whnf)) | ((with_reducible refine mt_any (fun _ => ?_) (fun _ => ?_)) <;> (conv => whnf)))
    · rename_i hn
      rw [hub] at hn
      have hn' : ((layL []).length : Int) = b.length := hn
      rw [show l.dat.load = ((l.dat.d.sync logN).1, { l.dat.got [] with d := (l.dat.d.sync logN).2 }) by simp only [LD.load, if_neg h3', if_neg h0'', hrd', hsc, if_pos hn']]
      refine (sync_ok l.d logN).mono ?_
      rintro _ _ ⟨d', rfl, rfl, hd'⟩
      conv => whnf
      exact ⟨{ { l with file := true } with d := d' }, rfl, .inl rfl, by simp only [Lg.dat, hd', LD.got, Lg.ext, List.append_nil, wsum, Int.add_zero]⟩
    rename_i hn
    rw [hub] at hn
    have hn' : ¬ ((layL []).length : Int) = b.length := hn
    refine (cut_ok l.d hd.ok logN (layL []).length).mono ?_
    rintro _ _ ⟨d1, rfl, rfl, hd1⟩
    conv => whnf
    repeat' (first | ((with_reducible apply z_wrap); (focus omega); (conv => whnf)) | ((with_reducible refine mt_dec (fun _ => ?_) (fun _ => ?_)) <;> (conv => whnf)) | ((with_reducible refine mt_eq (fun _ => ?_) (fun _ => ?_)) <;> (conv => whnf)) | ((with_reducible refine mt_ne (fun _ => ?_) (fun _ => ?_)) <;> (conv => whnf)) | ((with_reducible refine mt_not (fun _ => ?_) (fun _ => ?_)) <;> (conv => whnf)) | ((with_reducible refine mt_any (fun _ => ?_) (fun _ => ?_)) <;> (conv => whnf)))
    · rename_i hc
      have hc' : (l.dat.d.cut logN (layL []).length).1 ≠ 0 := hc
      rw [show l.dat.load = ((l.dat.d.cut logN (layL []).length).1, { l.dat.got [] with d := (l.dat.d.cut logN (layL []).length).2 }) by simp only [LD.load, if_neg h3', if_neg h0'', hrd', hsc, if_neg hn', if_pos hc']]
      exact ⟨{ { l with file := true } with d := d1 }, rfl, .inl rfl, by simp only [Lg.dat, hd1, LD.got, Lg.ext, List.append_nil, wsum, Int.add_zero]⟩
    rename_i hc
    have hc' : ¬ (l.dat.d.cut logN (layL []).length).1 ≠ 0 := fun h => h (by simpa using hc : (l.d.dat.cut logN (layL []).length).1 = 0)
    rw [show l.dat.load = (((l.dat.d.cut logN (layL []).length).2.sync logN).1, { l.dat.got [] with d := ((l.dat.d.cut logN (layL []).length).2.sync logN).2 }) by simp only [LD.load, if_neg h3', if_neg h0'', hrd', hsc, if_neg hn', if_neg hc']]
    refine (sync_ok d1 logN).mono ?_
    rintro _ _ ⟨d', rfl, rfl, hd'⟩
    rw [hd1] at hd' ⊢
    conv => whnf
    exact ⟨{ { l with file := true } with d := d' }, rfl, .inl rfl, by simp only [Lg.dat, hd', LD.got, Lg.ext, List.append_nil, wsum, Int.add_zero]⟩
  · conv => whnf
    repeat' (first | ((with_reducible apply z_wrap); (focus omega); (conv => whnf)) | ((with_reducible refine mt_dec (fun _ => ?_) (fun _ => ?_)) <;> (conv => whnf)) | ((with_reducible refine mt_eq (fun _ => ?_) (fun _ => ?_)) <;> (conv => whnf)) | ((with_reducible refine mt_ne (fun _ => ?_) (fun _ => ?_)) <;> (conv => whnf)) | ((with_reducible refine mt_not (fun _ => ?_) (fun _ => ?_)) <;> (conv => whnf)) | ((with_reducible refine mt_any (fun _ => ?_) (fun _ => ?_)) <;> (conv => whnf)))
    · rename_i hn
      rw [hub] at hn
      have hn' : ((layL (x :: r)).length : Int) = b.length := hn
      rw [show l.dat.load = ((l.dat.d.sync logN).1, { l.dat.got (x :: r) with d := (l.dat.d.sync logN).2 }) by simp only [LD.load, if_neg h3', if_neg h0'', hrd', hsc, if_pos hn']]
      refine (sync_ok l.d logN).mono ?_
      rintro _ _ ⟨d', rfl, rfl, hd'⟩
      conv => whnf
      exact ⟨{ ({ l with file := true } : Lg).ext (x :: r) with d := d' }, rfl, .inr rfl, by simp only [Lg.dat, hd', LD.got, Lg.ext, List.append_nil, wsum, Int.add_zero]⟩
    rename_i hn
    rw [hub] at hn
    have hn' : ¬ ((layL (x :: r)).length : Int) = b.length := hn
    refine (cut_ok l.d hd.ok logN (layL (x :: r)).length).mono ?_
    rintro _ _ ⟨d1, rfl, rfl, hd1⟩
    conv => whnf
    repeat' (first | ((with_reducible apply z_wrap); (focus omega); (conv => whnf)) | ((with_reducible refine mt_dec (fun _ => ?_) (fun _ => ?_)) <;> (conv => whnf)) | ((with_reducible refine mt_eq (fun _ => ?_) (fun _ => ?_)) <;> (conv => whnf)) | ((with_reducible refine mt_ne (fun _ => ?_) (fun _ => ?_)) <;> (conv => whnf)) | ((with_reducible refine mt_not (fun _ => ?_) (fun _ => ?_)) <;> (conv => whnf)) | ((with_reducible refine mt_any (fun _ => ?_) (fun _ => ?_)) <;> (conv => whnf)))
    · rename_i hc
      have hc' : (l.dat.d.cut logN (layL (x :: r)).length).1 ≠ 0 := hc
      rw [show l.dat.load = ((l.dat.d.cut logN (layL (x :: r)).length).1, { l.dat.got (x :: r) with d := (l.dat.d.cut logN (layL (x :: r)).length).2 }) by simp only [LD.load, if_neg h3', if_neg h0'', hrd', hsc, if_neg hn', if_pos hc']]
      exact ⟨{ ({ l with file := true } : Lg).ext (x :: r) with d := d1 }, rfl, .inr rfl, by simp only [Lg.dat, hd1, LD.got, Lg.ext, List.append_nil, wsum, Int.add_zero]⟩
    rename_i hc
    have hc' : ¬ (l.dat.d.cut logN (layL (x :: r)).length).1 ≠ 0 := fun h => h (by simpa using hc : (l.d.dat.cut logN (layL (x :: r)).length).1 = 0)
    rw [show l.dat.load = (((l.dat.d.cut logN (layL (x :: r)).length).2.sync logN).1, { l.dat.got (x :: r) with d := ((l.dat.d.cut logN (layL (x :: r)).length).2.sync logN).2 }) by simp only [LD.load, if_neg h3', if_neg h0'', hrd', hsc, if_neg hn', if_neg hc']]
    refine (sync_ok d1 logN).mono ?_
    rintro _ _ ⟨d', rfl, rfl, hd'⟩
    rw [hd1] at hd' ⊢
    conv => whnf
    exact ⟨{ ({ l with file := true } : Lg).ext (x :: r) with d := d' }, rfl, .inr rfl, by simp only [Lg.dat, hd', LD.got, Lg.ext, List.append_nil, wsum, Int.add_zero]⟩
end Go.Proofs.Ytpedbknmkgcldaa

namespace Go.Proofs.Ytpedbknmkgcldaa
open Go.Ab Go.RowKit Go.MapKept
attribute [local irreducible] ACalls AW ADraw Into
set_option maxRecDepth 100000
def LD.opn (d : DD) : Int × LD :=
  if (LD.mk d [] 0 false false).sweep.1 ≠ 0 then (LD.mk d [] 0 false false).sweep else (LD.mk d [] 0 false false).sweep.2.load
theorem load_end (l : LD) : l.load.1 = 0 ∨ l.load.1 ≠ 0 := by omega
set_option maxHeartbeats 4000000 in
theorem open_ok (d : Dk) (hd : d.dat.fine) : ACalls Try.prog 39 [.ptr 0 0] d.L (fun av L => ∃ l : Lg, l.dat = (LD.opn d.dat).2 ∧ (((LD.opn d.dat).1 = 0 ∧ av = .tup [.ptr 2 0, .d (.int .i64 0)] ∧ L = l.O) ∨ ((LD.opn d.dat).1 ≠ 0 ∧ av = .tup [.d .nilp, .d (.int .i64 (LD.opn d.dat).1)] ∧ L = l.d.L))) := by
  refine acalls_go ttOk zOk foOk Try.func39 rfl Try.ntmps39 rfl true rfl ?_
  conv => whnf
  repeat' (first | ((with_reducible apply z_wrap); (focus omega); (conv => whnf)) | ((with_reducible refine mt_dec (fun _ => ?_) (fun _ => ?_)) <;> (conv => whnf)) | ((with_reducible refine mt_eq (fun _ => ?_) (fun _ => ?_)) <;> (conv => whnf)) | ((with_reducible refine mt_ne (fun _ => ?_) (fun _ => ?_)) <;> (conv => whnf)) | ((with_reducible refine mt_not (fun _ => ?_) (fun _ => ?_)) <;> (conv => whnf)) | ((with_reducible refine mt_any (fun _ => ?_) (fun _ => ?_)) <;> (conv => whnf)))
  refine (sweep_ok (newLg d) hd.ok).mono ?_
  rintro _ _ ⟨l1, rfl, rfl, hl1, hsh⟩
  have e0 : (newLg d).dat = LD.mk d.dat [] 0 false false := rfl
  rw [e0] at hl1 ⊢
  conv => whnf
  repeat' (first | ((with_reducible apply z_wrap); (focus omega); (conv => whnf)) | ((with_reducible refine mt_dec (fun _ => ?_) (fun _ => ?_)) <;> (conv => whnf)) | ((with_reducible refine mt_eq (fun _ => ?_) (fun _ => ?_)) <;> (conv => whnf)) | ((with_reducible refine mt_ne (fun _ => ?_) (fun _ => ?_)) <;> (conv => whnf)) | ((with_reducible refine mt_not (fun _ => ?_) (fun _ => ?_)) <;> (conv => whnf)) | ((with_reducible refine mt_any (fun _ => ?_) (fun _ => ?_)) <;> (conv => whnf)))
  · rename_i h
    have e : LD.opn d.dat = (LD.mk d.dat [] 0 false false).sweep := by unfold LD.opn; rw [if_pos h]
    rw [e]
    exact ⟨l1, hl1, .inr ⟨h, rfl, rfl⟩⟩
  · rename_i h
    have e : LD.opn d.dat = (LD.mk d.dat [] 0 false false).sweep.2.load := by unfold LD.opn; rw [if_neg (fun h2 => h2 (by simpa using h))]
    have hf1 : l1.d.dat.fine := by
      have : l1.d.dat = l1.dat.d := rfl
      rw [this, hl1]
      exact sweep_fine (l := LD.mk d.dat [] 0 false false) hd
    have hr1 : l1.recs = [] := by
      have : l1.recs = l1.dat.recs := rfl
      rw [this, hl1, sweep_recs]
    have hz1 : l1.size = 0 := by
      have : l1.size = l1.dat.size := rfl
      rw [this, hl1]
      unfold LD.sweep
      split
      · rfl
      · split <;> rfl
    refine (load_ok l1 hf1 (by rw [hz1]; decide) (by rw [hr1]; decide)).mono ?_
    rintro _ _ ⟨l2, rfl, rfl | rfl, hl2⟩
    · rw [hl1] at hl2 ⊢
      rw [← e] at hl2 ⊢
      conv => whnf
      repeat' (first | ((with_reducible apply z_wrap); (focus omega); (conv => whnf)) | ((with_reducible refine mt_dec (fun _ => ?_) (fun _ => ?_)) <;> (conv => whnf)) | ((with_reducible refine mt_eq (fun _ => ?_) (fun _ => ?_)) <;> (conv => whnf)) | ((with_reducible refine mt_ne (fun _ => ?_) (fun _ => ?_)) <;> (conv => whnf)) | ((with_reducible refine mt_not (fun _ => ?_) (fun _ => ?_)) <;> (conv => whnf)) | ((with_reducible refine mt_any (fun _ => ?_) (fun _ => ?_)) <;> (conv => whnf)))
      · rename_i h2
        exact ⟨l2, hl2, .inr ⟨h2, rfl, rfl⟩⟩
      · rename_i h2
        exact ⟨l2, hl2, .inl ⟨by simpa using h2, rfl, rfl⟩⟩
    · rw [hl1] at hl2 ⊢
      rw [← e] at hl2 ⊢
      conv => whnf
      repeat' (first | ((with_reducible apply z_wrap); (focus omega); (conv => whnf)) | ((with_reducible refine mt_dec (fun _ => ?_) (fun _ => ?_)) <;> (conv => whnf)) | ((with_reducible refine mt_eq (fun _ => ?_) (fun _ => ?_)) <;> (conv => whnf)) | ((with_reducible refine mt_ne (fun _ => ?_) (fun _ => ?_)) <;> (conv => whnf)) | ((with_reducible refine mt_not (fun _ => ?_) (fun _ => ?_)) <;> (conv => whnf)) | ((with_reducible refine mt_any (fun _ => ?_) (fun _ => ?_)) <;> (conv => whnf)))
      · rename_i h2
        exact ⟨l2, hl2, .inr ⟨h2, rfl, rfl⟩⟩
      · rename_i h2
        exact ⟨l2, hl2, .inl ⟨by simpa using h2, rfl, rfl⟩⟩
theorem open_nil : ACalls Try.prog 39 [.d .nilp] [] (fun av L => av = .tup [.d .nilp, .d (.int .i64 1)] ∧ L = []) := by
  refine acalls_go ttOk zOk foOk Try.func39 rfl Try.ntmps39 rfl false rfl ?_
  conv => whnf
  exact ⟨rfl, rfl⟩
end Go.Proofs.Ytpedbknmkgcldaa

namespace Go.Proofs.Ytpedbknmkgcldaa
open Go.Ab Go.RowKit
/-! ## what is read of frames -/
theorem scan1_frame (s : ByteArray) (rest : List UInt8) (hs : s.size ≤ 4096) : scan1 (frameL s ++ rest) = some s := by
  have hds : s.data.toList.length = s.size := by simp
  have hc := chk_range s.data.toList
  have e : frameL s ++ rest = fourL s.size ++ (s.data.toList ++ (fourL (chk s.data.toList) ++ ([1] ++ rest))) := by simp [frameL]
  have hlen : (frameL s ++ rest).length = s.size + 9 + rest.length := by rw [List.length_append, frame_len]
  have hn : num4 (frameL s ++ rest) = (s.size : Int) := by
    rw [e]
    show numL _ _ _ _ = _
    exact num_four _ (by omega)
  have hd4 : (frameL s ++ rest).drop 4 = s.data.toList ++ (fourL (chk s.data.toList) ++ ([1] ++ rest)) := by rw [e]; rfl
  have hw : ((frameL s ++ rest).drop 4).take s.size = s.data.toList := by rw [hd4, ← hds, List.take_left]
  have hd2 : (frameL s ++ rest).drop (4 + s.size) = fourL (chk s.data.toList) ++ ([1] ++ rest) := by
    rw [← List.drop_drop, hd4, ← hds, List.drop_left]
  have h1 : (frameL s ++ rest)[s.size + 8]? = some 1 := by
    have : (frameL s ++ rest)[4 + s.size + 4]? = ((frameL s ++ rest).drop (4 + s.size))[4]? := by rw [List.getElem?_drop]
    rw [show s.size + 8 = 4 + s.size + 4 by omega, this, hd2]
    rfl
  have hn2 : num4 ((frameL s ++ rest).drop (4 + s.size)) = chk s.data.toList := by
    rw [hd2]
    show numL _ _ _ _ = _
    exact num_four _ hc
  unfold scan1
  rw [hn, Int.toNat_natCast, hw, hn2, h1, hlen, if_neg (by omega), if_neg (by rintro (h | h | h) <;> first | omega | exact h rfl), if_neg (by simp)]
theorem scan_lay (l : List ByteArray) (rest : List UInt8) (hs : ∀ s ∈ l, s.size ≤ 4096) : scanL (layL l ++ rest) = l ++ scanL rest := by
  induction l with
  | nil => rfl
  | cons x r ih =>
    have e : layL (x :: r) ++ rest = frameL x ++ (layL r ++ rest) := by simp [layL]
    rw [e, scanL_some (scan1_frame x _ (hs x (by simp))), ← frame_len x, List.drop_left, ih fun s h => hs s (by simp [h])]
    rfl
theorem scanL_nil : scanL [] = [] := scanL_none (by simp [scan1])
theorem scan_all (l : List ByteArray) (hs : ∀ s ∈ l, s.size ≤ 4096) : scanL (layL l) = l := by
  have := scan_lay l [] hs
  rw [List.append_nil, scanL_nil, List.append_nil] at this
  exact this
/-- a disk of a crash where all was safe -/
def LS.crashed (x : LS) : LS := ⟨0, x.recs, x.file, if x.file = true then layL x.recs else []⟩
def LS.opened (x : LS) : LS := ⟨if x.file = true then IntKind.i64.wrap (x.calls + 1) else x.calls, x.recs, x.file, if x.file = true then layL x.recs else []⟩
theorem LS.crashed_ok {x : LS} (h : x.ok) : x.crashed.ok := by
  refine ⟨fun hf => ?_, h.sum, h.small, ?_⟩
  · have hf' : x.file = false := hf
    exact ⟨(h.new hf').1, by simp [LS.crashed, hf']⟩
  · show (if x.file = true then layL x.recs else []).length ≤ _
    have := h.len
    split <;> simp <;> omega
theorem LS.opened_ok {x : LS} (h : x.ok) : x.opened.ok := by
  have := LS.crashed_ok h
  exact ⟨this.new, this.sum, this.small, this.safe⟩
theorem LS.opn {x : LS} (h : x.ok) : LD.opn x.l.d = (0, x.opened.l) := by
  have hfr : getN freshN x.fs = none := by
    unfold LS.fs
    split
    · simp [getN, fresh_log]
    · rfl
  have hrd : x.l.d.read freshN = ([], 3) := read_none fresh_good rfl hfr
  have hsw : (LD.mk x.l.d [] 0 false false).sweep = (0, LD.mk x.l.d [] 0 false false) := by simp [LD.sweep, hrd]
  unfold LD.opn
  rw [hsw, if_neg (by simp)]
  cases hx : x.file with
  | false =>
    have e : x.fs = [] := by simp [LS.fs, hx]
    have hn : x.l.d.read logN = ([], 3) := read_none log_good rfl (show getN logN x.fs = none by rw [e]; rfl)
    have hr := (h.new hx).1
    unfold LD.load
    rw [if_pos (by rw [hn])]
    simp only [LS.l, LS.opened, hx, hr]
    simp [LS.fs, hx, wsum]
  | true =>
    have e : x.fs = [⟨logN, x.safe, layL x.recs⟩] := by simp [LS.fs, hx]
    have hn : x.l.d.read logN = (layL x.recs, 0) := read_some (f := ⟨logN, x.safe, layL x.recs⟩) log_good rfl (show getN logN x.fs = _ by rw [e]; simp [getN])
    have hs : x.l.d.sync logN = (0, x.synced.l.d) := by
      rw [sync_some log_good (by rw [LS.spend_eq]) (f := ⟨logN, x.safe, layL x.recs⟩) (show getN logN x.fs = _ by rw [e]; simp [getN]), LS.spend_eq]
      show (0, DD.mk _ _ _ (updN logN _ x.fs)) = (0, DD.mk _ _ _ (LS.fs _))
      simp [hx, LS.fs, LS.synced, updN]
    have hsc := scan_all x.recs h.small
    unfold LD.load
    simp only [hn, hsc, hs]
    simp [LD.got, LS.l, LS.opened, LS.synced, hx, LS.spend, LS.fs]
end Go.Proofs.Ytpedbknmkgcldaa

namespace Go.Proofs.Ytpedbknmkgcldaa
open Go.Ab Go.RowKit
/-! crashes, as data -/
def padTo (n : Nat) (l : List UInt8) : List UInt8 := l ++ List.replicate (n - l.length) 0
def tornN (safe seen : List UInt8) (p : Int) : Nat := min ((p % (((max safe.length seen.length + 31) / 32 : Nat) + 1 : Int)).toNat * 32) (max safe.length seen.length)
def tornL (safe seen : List UInt8) (p : Int) : List UInt8 :=
  ((padTo (max safe.length seen.length) seen).take (tornN safe seen p) ++ (padTo (max safe.length seen.length) safe).drop (tornN safe seen p)).take seen.length
def headP : List Int → Int
  | [] => 0
  | p :: _ => p
def stepC (f : FD) (picks : List Int) : List UInt8 × List Int :=
  if f.safe = f.seen then (f.seen, picks) else
  (if headP picks % 3 = 0 then f.safe else if headP picks % 3 = 2 then tornL f.safe f.seen (headP picks / 3) else f.seen, picks.tail)
def crashAt (fs : List FD) (picks : List Int) : Nat → List FileS × List Int
  | 0 => ([], picks)
  | k + 1 => match fs[k]? with
    | none => crashAt fs picks k
    | some f => ((crashAt fs picks k).1 ++ [⟨f.name, (stepC f (crashAt fs picks k).2).1⟩], (stepC f (crashAt fs picks k).2).2)
theorem crashAt_succ {fs : List FD} {picks : List Int} {k : Nat} {f : FD} (h : fs[k]? = some f) : crashAt fs picks (k + 1) = ((crashAt fs picks k).1 ++ [⟨f.name, (stepC f (crashAt fs picks k).2).1⟩], (stepC f (crashAt fs picks k).2).2) := by
  simp only [crashAt, h]
theorem crash_length {fs : List FD} {picks : List Int} : ∀ {k : Nat}, k ≤ fs.length → (crashAt fs picks k).1.length = k
  | 0, _ => rfl
  | k + 1, h => by
    rw [crashAt_succ (List.getElem?_eq_getElem (show k < fs.length by omega))]
    simp [crash_length (show k ≤ fs.length by omega)]
theorem step_sub (f : FD) (picks : List Int) : (stepC f picks).2 = picks ∨ (stepC f picks).2 = picks.tail := by
  unfold stepC
  split
  · exact .inl rfl
  · exact .inr rfl
theorem crash_picks {fs : List FD} {picks : List Int} : ∀ {k : Nat}, ∀ x ∈ (crashAt fs picks k).2, x ∈ picks
  | 0, x, h => h
  | k + 1, x, h => by
    cases hf : fs[k]? with
    | none => simp only [crashAt, hf] at h; exact crash_picks x h
    | some f =>
      rw [crashAt_succ hf] at h
      rcases step_sub f (crashAt fs picks k).2 with e | e
      · simp only [e] at h; exact crash_picks x h
      · simp only [e] at h; exact crash_picks x (List.mem_of_mem_tail h)
theorem crash_plen {fs : List FD} {picks : List Int} : ∀ {k : Nat}, (crashAt fs picks k).2.length ≤ picks.length
  | 0 => Nat.le_refl _
  | k + 1 => by
    cases hf : fs[k]? with
    | none => simp only [crashAt, hf]; exact crash_plen
    | some f =>
      rw [crashAt_succ hf]
      rcases step_sub f (crashAt fs picks k).2 with e | e
      · simp only [e]; exact crash_plen
      · simp only [e, List.length_tail]; exact Nat.le_trans (Nat.sub_le _ _) crash_plen
/-- the files by the order of names -/
def pickFs (ss : List ByteArray) (fs : List FD) : List FD := ss.filterMap fun n => getN n fs
theorem pick_names {fs : List FD} : ∀ {ss : List ByteArray}, (∀ n ∈ ss, n ∈ fs.map FD.name) → (pickFs ss fs).map FD.name = ss
  | [], _ => rfl
  | n :: r, h => by
    cases hg : getN n fs with
    | none => exact absurd (h n (by simp)) (getN_not hg)
    | some f =>
      have := pick_names (fs := fs) (ss := r) fun m hm => h m (by simp [hm])
      simp only [pickFs] at this
      simp only [pickFs, List.filterMap_cons, hg, List.map_cons, getN_name hg, this]
theorem getN_mem : ∀ {fs : List FD}, (fs.map FD.name).Nodup → ∀ {f : FD}, f ∈ fs → getN f.name fs = some f
  | [], _, _, h => by simp at h
  | x :: r, hn, f, h => by
    simp only [getN]
    split
    · rename_i he
      exact congrArg some (inj_name hn (by simp) h he.symm)
    · rename_i he
      rcases List.mem_cons.1 h with rfl | h
      · exact absurd rfl he
      · exact getN_mem (List.nodup_cons.1 hn).2 h
theorem pick_self {fs : List FD} (hn : (fs.map FD.name).Nodup) : pickFs (fs.map FD.name) fs = fs := by
  have : ∀ l : List FD, (∀ f ∈ l, f ∈ fs) → pickFs (l.map FD.name) fs = l := by
    intro l
    induction l with
    | nil => intro _; rfl
    | cons x r ih =>
      intro h
      have := ih fun f hf => h f (by simp [hf])
      simp only [pickFs] at this
      simp only [pickFs, List.map_cons, List.filterMap_cons, getN_mem hn (h x (by simp)), this]
  exact this fs fun f hf => hf
theorem pick_perm {ss : List ByteArray} {fs : List FD} (hn : (fs.map FD.name).Nodup) (h : ss.Perm (fs.map FD.name)) : (pickFs ss fs).Perm fs := by
  have := h.filterMap (fun n => getN n fs)
  have e := pick_self hn
  unfold pickFs at e
  rw [e] at this
  exact this
theorem pick_get {ss : List ByteArray} {fs : List FD} (h : ∀ n ∈ ss, n ∈ fs.map FD.name) {k : Nat} {f : FD} (hk : (pickFs ss fs)[k]? = some f) : ss[k]? = some f.name ∧ getN f.name fs = some f := by
  constructor
  · have := congrArg (fun l => l[k]?) (pick_names h)
    simp only [List.getElem?_map, hk, Option.map_some] at this
    exact this.symm
  · have := List.mem_of_getElem? hk
    unfold pickFs at this
    obtain ⟨n, _, hg⟩ := List.mem_filterMap.1 this
    rw [getN_name hg]; exact hg
theorem findF_of_get {n : ByteArray} {d : Dk} {g : FD} (h : getN n d.dat.fs = some g) : ∃ i f, findF n d.fs 0 = some (i, f) ∧ f.dat = g := by
  have := findF_get (n := n) (fs := d.fs) (j := 0)
  rw [show getN n (d.fs.map Fl.dat) = some g from h] at this
  cases hf : findF n d.fs 0 with
  | none => rw [hf] at this; cases this
  | some p => rw [hf] at this; exact ⟨p.1, p.2, rfl, by simpa using this⟩
end Go.Proofs.Ytpedbknmkgcldaa

namespace Go.Proofs.Ytpedbknmkgcldaa
open Go.Ab Go.RowKit
/-! ## what is read of a torn log -/
theorem scan1_none {b : List UInt8} (h : b[(num4 b).toNat + 8]? ≠ some 1) : scan1 b = none := by
  unfold scan1
  split
  · rfl
  · rw [if_pos (.inr (.inr h))]
theorem zeros_not (m j : Nat) : (List.replicate m (0 : UInt8))[j]? ≠ some 1 := by
  rw [List.getElem?_replicate]
  split
  · decide
  · simp
theorem num4_frame (s : ByteArray) (hs : s.size ≤ 4096) {u : Nat} (h4 : 4 ≤ u) (z : List UInt8) : num4 ((frameL s).take u ++ z) = s.size := by
  have e : frameL s = fourL s.size ++ (s.data.toList ++ (fourL (chk s.data.toList) ++ [1])) := by simp [frameL]
  obtain ⟨k, rfl⟩ : ∃ k, u = k + 4 := ⟨u - 4, by omega⟩
  rw [e]
  show numL _ _ _ _ = _
  exact num_four _ (by omega)
theorem scan_cut : ∀ (q : List ByteArray) (u m : Nat), u ≤ (layL q).length → (∀ s ∈ q, s.size ≤ 4096) → ∃ t, t <+: q ∧ scanL ((layL q).take u ++ List.replicate m 0) = t
  | [], u, m, hu, _ => by
    refine ⟨[], List.prefix_refl _, scanL_none (scan1_none ?_)⟩
    rw [show (layL []).take u = ([] : List UInt8) by simp [layL], List.nil_append]
    exact zeros_not _ _
  | s :: q, u, m, hu, hs => by
    have hs0 := hs s (by simp)
    have hf := frame_len s
    have e : layL (s :: q) = frameL s ++ layL q := by simp [layL]
    by_cases hc : (frameL s).length ≤ u
    · obtain ⟨t, h1, h2⟩ := scan_cut q (u - (frameL s).length) m (by rw [e, List.length_append] at hu; omega) (fun x hx => hs x (by simp [hx]))
      refine ⟨s :: t, by simpa using h1, ?_⟩
      rw [e, List.take_append, List.take_of_length_le hc, List.append_assoc, scanL_some (scan1_frame s _ hs0), ← frame_len s, List.drop_left, h2]
    · refine ⟨[], List.nil_prefix, scanL_none (scan1_none ?_)⟩
      have hl : ((frameL s).take u).length = u := by rw [List.length_take]; omega
      rw [e, List.take_append_of_le_length (by omega)]
      have hj : u ≤ (num4 ((frameL s).take u ++ List.replicate m 0)).toNat + 8 := by
        by_cases h4 : 4 ≤ u
        · rw [num4_frame s hs0 h4, Int.toNat_natCast]; omega
        · omega
      rw [List.getElem?_append_right (by rw [hl]; exact hj)]
      exact zeros_not _ _
theorem torn_app (A X : List UInt8) (p : Int) : ∃ u, u ≤ X.length ∧ tornL A (A ++ X) p = A ++ X.take u ++ List.replicate (X.length - u) 0 := by
  have hM : max A.length (A ++ X).length = A.length + X.length := by rw [List.length_append]; omega
  have hp1 : padTo (A.length + X.length) (A ++ X) = A ++ X := by unfold padTo; rw [List.length_append, Nat.sub_self]; simp
  have hp2 : padTo (A.length + X.length) A = A ++ List.replicate X.length 0 := by unfold padTo; rw [Nat.add_sub_cancel_left]
  obtain ⟨t, ht⟩ : ∃ t, tornN A (A ++ X) p = t := ⟨_, rfl⟩
  have htm : t ≤ A.length + X.length := by rw [← ht]; unfold tornN; rw [hM]; exact Nat.min_le_right _ _
  unfold tornL
  rw [hM, hp1, hp2, ht]
  by_cases h : t ≤ A.length
  · refine ⟨0, Nat.zero_le _, ?_⟩
    rw [List.take_append_of_le_length h, List.drop_append_of_le_length h, ← List.append_assoc, List.take_append_drop, List.take_of_length_le (by simp), List.take_zero, List.append_nil, Nat.sub_zero]
  · refine ⟨t - A.length, by omega, ?_⟩
    have e1 : (A ++ X).take t = A ++ X.take (t - A.length) := by rw [List.take_append, List.take_of_length_le (show A.length ≤ t by omega)]
    have e2 : (A ++ List.replicate X.length (0 : UInt8)).drop t = List.replicate (X.length - (t - A.length)) 0 := by
      rw [List.drop_append, List.drop_eq_nil_of_le (show A.length ≤ t by omega), List.nil_append, List.drop_replicate]
    rw [e1, e2, List.take_of_length_le]
    simp
    omega
theorem torn_cut (B R : List UInt8) (p : Int) : tornL (B ++ R) B p = B := by
  have hM : max (B ++ R).length B.length = B.length + R.length := by rw [List.length_append]; omega
  have hp1 : padTo (B.length + R.length) B = B ++ List.replicate R.length 0 := by unfold padTo; rw [Nat.add_sub_cancel_left]
  have hp2 : padTo (B.length + R.length) (B ++ R) = B ++ R := by unfold padTo; rw [List.length_append, Nat.sub_self]; simp
  unfold tornL
  rw [hM, hp1, hp2]
  obtain ⟨t, ht⟩ : ∃ t, tornN (B ++ R) B p = t := ⟨_, rfl⟩
  rw [ht]
  by_cases h : t ≤ B.length
  · rw [List.take_append_of_le_length h, List.drop_append_of_le_length h, ← List.append_assoc, List.take_append_drop, List.take_left]
  · have e1 : (B ++ List.replicate R.length (0 : UInt8)).take t = B ++ (List.replicate R.length (0 : UInt8)).take (t - B.length) := by rw [List.take_append, List.take_of_length_le (show B.length ≤ t by omega)]
    rw [e1, List.append_assoc, List.take_left]
theorem torn_same (B : List UInt8) (p : Int) : tornL B B p = B := by
  have := torn_cut B [] p
  rwa [List.append_nil] at this
/-- what a crash shows of a log behind its last Sync -/
theorem scan_torn (r0 q : List ByteArray) (h0 : ∀ s ∈ r0, s.size ≤ 4096) (hq : ∀ s ∈ q, s.size ≤ 4096) (p : Int) : ∃ t, t <+: q ∧ scanL (tornL (layL r0) (layL (r0 ++ q)) p) = r0 ++ t := by
  have e : layL (r0 ++ q) = layL r0 ++ layL q := by simp [layL]
  rw [e]
  obtain ⟨u, hu, h⟩ := torn_app (layL r0) (layL q) p
  obtain ⟨t, h1, h2⟩ := scan_cut q u ((layL q).length - u) hu hq
  refine ⟨t, h1, ?_⟩
  rw [h, List.append_assoc, scan_lay r0 _ h0, h2]
/-! what was read is there -/
theorem four_num (a b c d : UInt8) : fourL (numL a b c d) = [a, b, c, d] := by
  have ha := a.toNat_lt
  have hb := b.toNat_lt
  have hc := c.toNat_lt
  have hd := d.toNat_lt
  have h1 := byteAt_eq (numL a b c d) 24
  have h2 := byteAt_eq (numL a b c d) 16
  have h3 := byteAt_eq (numL a b c d) 8
  have h4 := byteAt_eq (numL a b c d) 0
  simp only [numL_eq, Int.reducePow, Nat.reducePow] at h1 h2 h3 h4
  unfold fourL
  rw [numL_eq]
  congr 1
  · exact UInt8.toNat_inj.1 (by omega)
  congr 1
  · exact UInt8.toNat_inj.1 (by omega)
  congr 1
  · exact UInt8.toNat_inj.1 (by omega)
  congr 1
  · exact UInt8.toNat_inj.1 (by omega)
theorem four_take {b : List UInt8} (h : 4 ≤ b.length) : fourL (num4 b) = b.take 4 := by
  match b, h with
  | a :: b :: c :: d :: r, _ => exact four_num a b c d
theorem scan1_is {b : List UInt8} {s : ByteArray} (h : scan1 b = some s) : b = frameL s ++ b.drop (s.size + 9) ∧ s.size ≤ 4096 := by
  unfold scan1 at h
  split at h
  · cases h
  rename_i h9
  split at h
  · cases h
  rename_i hn
  simp only [not_or, Classical.not_not] at hn
  obtain ⟨hn1, hn2, hn3⟩ := hn
  split at h
  · cases h
  rename_i hck
  have hr := num4_range b
  obtain ⟨n, hnn⟩ : ∃ n : Nat, num4 b = n := ⟨(num4 b).toNat, by omega⟩
  have h4 := four_take (b := b) (by omega)
  rw [hnn] at hn1 hn2 h4
  rw [hnn, Int.toNat_natCast] at hn3 hck h
  obtain ⟨w, hw⟩ : ∃ w, (b.drop 4).take n = w := ⟨_, rfl⟩
  rw [hw] at hck h
  cases h
  have hwl : w.length = n := by rw [← hw, List.length_take, List.length_drop]; omega
  have hs : (ByteArray.mk w.toArray).size = n := by show w.toArray.size = n; simpa using hwl
  have hk : num4 (b.drop (4 + n)) = chk w := by simpa using hck
  have h4b := four_take (b := b.drop (4 + n)) (by rw [List.length_drop]; omega)
  rw [hk] at h4b
  have hlast : (b.drop (4 + n + 4)) = 1 :: b.drop (n + 9) := by
    have : b.drop (n + 8) = 1 :: b.drop (n + 8 + 1) := by
      rw [← List.getElem_cons_drop (by omega)]
      congr 1
      have := hn3
      rw [List.getElem?_eq_getElem (by omega)] at this
      exact Option.some.inj this
    rw [show 4 + n + 4 = n + 8 by omega, this]
  refine ⟨?_, by omega⟩
  rw [hs]
  have e1 : b = b.take 4 ++ ((b.drop 4).take n ++ ((b.drop (4 + n)).take 4 ++ b.drop (4 + n + 4))) := by
    rw [← List.drop_drop (i := 4) (j := 4 + n), List.take_append_drop, ← List.drop_drop (i := n) (j := 4), List.take_append_drop, List.take_append_drop]
  have e2 : frameL (ByteArray.mk w.toArray) = fourL n ++ (w ++ (fourL (chk w) ++ [1])) := by
    unfold frameL
    rw [hs]
    simp
  rw [e2, h4, h4b, ← hw]
  conv => lhs; rw [e1, hlast]
  simp [List.append_assoc]
theorem scan_pref : ∀ (k : Nat) (b : List UInt8), b.length ≤ k → b = layL (scanL b) ++ b.drop (layL (scanL b)).length ∧ ∀ s ∈ scanL b, s.size ≤ 4096
  | 0, b, hb => by
    have : b = [] := List.eq_nil_of_length_eq_zero (by omega)
    subst this
    rw [scanL_nil]
    simp [layL]
  | k + 1, b, hb => by
    cases h : scan1 b with
    | none => rw [scanL_none h]; simp [layL]
    | some s =>
      obtain ⟨h1, h2⟩ := scan1_is h
      have h9 := scan1_len h
      obtain ⟨h3, h4⟩ := scan_pref k (b.drop (s.size + 9)) (by rw [List.length_drop]; omega)
      rw [scanL_some h]
      refine ⟨?_, fun x hx => ?_⟩
      · have e : layL (s :: scanL (b.drop (s.size + 9))) = frameL s ++ layL (scanL (b.drop (s.size + 9))) := by simp [layL]
        have e2 : ∀ n, b.drop (s.size + 9 + n) = (b.drop (s.size + 9)).drop n := fun n => by rw [List.drop_drop]
        rw [e, List.length_append, frame_len, e2, List.append_assoc, ← h3]
        exact h1
      · rcases List.mem_cons.1 hx with rfl | hx
        · exact h2
        · exact h4 x hx
end Go.Proofs.Ytpedbknmkgcldaa

namespace Go.Proofs.Ytpedbknmkgcldaa
open Go.Ab Go.RowKit
def nK : ByteArray := ⟨#[107, 101, 112, 116]⟩
def keepL : List UInt8 := [107, 101, 112, 116, 32, 102, 111, 114, 32, 101, 118, 101, 114, 44, 32, 119, 104, 97, 116, 101, 118, 101, 114, 32, 101, 108, 115, 101, 32, 116, 104, 101, 114, 101, 32, 105, 115, 44, 32, 97, 110, 100, 32, 109, 111, 114, 101, 32, 116, 104, 97, 110, 32, 111, 110, 101, 32, 115, 101, 99, 116, 111, 114, 32, 108, 111, 110, 103, 44, 32, 97, 115, 32, 105, 116, 32, 119, 97, 115, 32, 115, 121, 110, 99, 101, 100]
theorem keep_len : keepL.length = 86 := rfl
structure DD.kept (d : DD) : Prop where
  fine : d.fine
  on : d.off = false
  u : d.upto = 0
  k : getN nK d.fs = some ⟨nK, keepL, keepL⟩
theorem getN_upd {n m : ByteArray} {g : FD → FD} (hg : ∀ f, (g f).name = f.name) (h : n ≠ m) : ∀ fs : List FD, getN m (updN n g fs) = getN m fs
  | [] => rfl
  | x :: r => by
    simp only [updN]
    by_cases e : n = x.name
    · rw [if_pos e]
      have h1 : ¬ m = x.name := fun e2 => h (e.trans e2.symm)
      have h2 : ¬ m = (g x).name := by rw [hg]; exact h1
      simp only [getN, if_neg h1, if_neg h2]
    · rw [if_neg e]
      simp only [getN, getN_upd hg h r]
theorem getN_updC {n m : ByteArray} {g : FD} (hg : g.name = n) (h : n ≠ m) : ∀ fs : List FD, getN m (updN n (fun _ => g) fs) = getN m fs
  | [] => rfl
  | x :: r => by
    simp only [updN]
    by_cases e : n = x.name
    · rw [if_pos e]
      have h1 : ¬ m = x.name := fun e2 => h (e.trans e2.symm)
      have h2 : ¬ m = g.name := by rw [hg]; exact fun e2 => h e2.symm
      simp only [getN, if_neg h1, if_neg h2]
    · rw [if_neg e]
      simp only [getN, getN_updC hg h r]
theorem getN_delO {n m : ByteArray} (h : n ≠ m) : ∀ fs : List FD, getN m (delN n fs) = getN m fs
  | [] => rfl
  | x :: r => by
    simp only [delN]
    by_cases e : n = x.name
    · rw [if_pos e]
      have h1 : ¬ m = x.name := fun e2 => h (e.trans e2.symm)
      simp only [getN, if_neg h1]
    · rw [if_neg e]
      simp only [getN, getN_delO h r]
theorem getN_app {m : ByteArray} {g : FD} (h : g.name ≠ m) : ∀ fs : List FD, getN m (fs ++ [g]) = getN m fs
  | [] => by simp only [List.nil_append, getN, if_neg (fun e : m = g.name => h e.symm)]
  | x :: r => by simp only [List.cons_append, getN, getN_app h r]
theorem getN_setO {m : ByteArray} {g : FD} (h : g.name ≠ m) (fs : List FD) : getN m (setN g fs) = getN m fs := by
  unfold setN
  split
  · exact getN_app h fs
  · exact getN_updC rfl h fs
theorem DD.kept.spend {d : DD} (h : d.kept) : d.spend.kept := ⟨h.fine.spend, by simp [DD.spend, h.on, h.u], h.u, h.k⟩
theorem DD.kept.append {d : DD} (h : d.kept) {n : ByteArray} (hn : n ≠ nK) (b : List UInt8) : (d.append n b).2.kept := by
  have hf := h.fine.append n b
  revert hf
  unfold DD.append
  split
  · exact fun _ => h
  split
  · exact fun _ => h.spend
  split
  · split
    · exact fun _ => h.spend
    split
    · exact fun _ => h.spend
    · exact fun hf => ⟨hf, h.spend.on, h.u, (getN_app hn _).trans h.k⟩
  · split
    · exact fun _ => h.spend
    · exact fun hf => ⟨hf, h.spend.on, h.u, (getN_upd (g := fun f => { f with seen := f.seen ++ b }) (fun _ => rfl) hn d.fs).trans h.k⟩
theorem DD.kept.sync {d : DD} (h : d.kept) {n : ByteArray} (hn : n ≠ nK) : (d.sync n).2.kept := by
  have hf := h.fine.sync n
  revert hf
  unfold DD.sync
  split
  · exact fun _ => h
  split
  · exact fun _ => h.spend
  split
  · exact fun _ => h.spend
  · exact fun hf => ⟨hf, h.spend.on, h.u, (getN_upd (g := fun f => { f with safe := f.seen }) (fun _ => rfl) hn d.fs).trans h.k⟩
theorem DD.kept.cut {d : DD} (h : d.kept) {n : ByteArray} (hn : n ≠ nK) (k : Int) : (d.cut n k).2.kept := by
  have hf := h.fine.cut n k
  revert hf
  unfold DD.cut
  split
  · exact fun _ => h
  split
  · exact fun _ => h.spend
  split
  · exact fun _ => h.spend
  split
  · exact fun _ => h.spend
  · exact fun hf => ⟨hf, h.spend.on, h.u, (getN_upd (g := fun f => { f with seen := f.seen.take k.toNat }) (fun _ => rfl) hn d.fs).trans h.k⟩
theorem DD.kept.remove {d : DD} (h : d.kept) {n : ByteArray} (hn : n ≠ nK) : (d.remove n).2.kept := by
  have hf := h.fine.remove n
  revert hf
  unfold DD.remove
  split
  · exact fun _ => h
  split
  · exact fun _ => h.spend
  split
  · exact fun _ => h.spend
  · exact fun hf => ⟨hf, h.spend.on, h.u, (getN_delO hn _).trans h.k⟩
theorem DD.kept.rename {d : DD} (h : d.kept) {n t : ByteArray} (hn : n ≠ nK) (ht : t ≠ nK) : (d.rename n t).2.kept := by
  have hf := h.fine.rename n t
  revert hf
  unfold DD.rename
  split
  · exact fun _ => h
  split
  · exact fun _ => h.spend
  split
  · exact fun _ => h.spend
  · exact fun hf => ⟨hf, h.spend.on, h.u, ((getN_setO ht _).trans (getN_delO hn _)).trans h.k⟩
/-! the files of a crash -/
theorem crash_names {fs : List FD} {picks : List Int} : ∀ {k : Nat}, k ≤ fs.length → (crashAt fs picks k).1.map FileS.name = (fs.take k).map FD.name
  | 0, _ => rfl
  | k + 1, h => by
    have hf := List.getElem?_eq_getElem (show k < fs.length by omega)
    rw [crashAt_succ hf, List.take_add_one, hf, List.map_append, List.map_append, crash_names (show k ≤ fs.length by omega)]
    rfl
theorem step_len {f : FD} {picks : List Int} {m : Nat} (h1 : f.safe.length ≤ m) (h2 : f.seen.length ≤ m) : (stepC f picks).1.length ≤ m := by
  unfold stepC
  split
  · exact h2
  · show (if _ then _ else _ : List UInt8).length ≤ m
    split
    · exact h1
    · split
      · unfold tornL; rw [List.length_take]; omega
      · exact h2
theorem crash_len {fs : List FD} {picks : List Int} {m : Nat} (h : ∀ f ∈ fs, f.safe.length ≤ m ∧ f.seen.length ≤ m) : ∀ {k : Nat}, ∀ x ∈ (crashAt fs picks k).1, x.data.length ≤ m
  | 0, x, hx => by cases hx
  | k + 1, x, hx => by
    cases hf : fs[k]? with
    | none => simp only [crashAt, hf] at hx; exact crash_len h x hx
    | some f =>
      rw [crashAt_succ hf] at hx
      rcases List.mem_append.1 hx with hx | hx
      · exact crash_len h x hx
      · simp only [List.mem_singleton] at hx
        subst hx
        have := h f (List.mem_of_getElem? hf)
        exact step_len this.1 this.2
theorem crash_same_mem {fs : List FD} {picks : List Int} {f : FD} (hs : f.safe = f.seen) {j : Nat} (hj : fs[j]? = some f) : ∀ {k : Nat}, j < k → (⟨f.name, f.seen⟩ : FileS) ∈ (crashAt fs picks k).1
  | 0, h => by omega
  | k + 1, h => by
    by_cases e : j = k
    · subst e
      rw [crashAt_succ hj]
      apply List.mem_append_right
      have : (stepC f (crashAt fs picks j).2).1 = f.seen := by rw [stepC, if_pos hs]
      rw [this]
      exact List.mem_singleton.2 rfl
    · have ih := crash_same_mem (picks := picks) hs hj (k := k) (by omega)
      cases hf : fs[k]? with
      | none => simp only [crashAt, hf]; exact ih
      | some g => rw [crashAt_succ hf]; exact List.mem_append_left _ ih
theorem mayNew_of {l : List FileS} (h1 : ∀ f ∈ l, goodS f.name = true) (h2 : ∀ f ∈ l, f.data.length ≤ 1048576) (h3 : risingS (l.map FileS.name)) (h4 : l.length ≤ 16) : mayNew l = true := by
  unfold mayNew
  rw [decide_eq_true h4, Bool.and_true, List.all_eq_true]
  intro k hk
  rw [List.mem_range] at hk
  obtain ⟨f, hf⟩ : ∃ f, l[k]? = some f := ⟨_, List.getElem?_eq_getElem hk⟩
  rw [mayAt_eq hf, h1 f (List.mem_of_getElem? hf), decide_eq_true (h2 f (List.mem_of_getElem? hf))]
  by_cases h0 : k = 0
  · simp [h0]
  · obtain ⟨g, hg⟩ : ∃ g, l[k - 1]? = some g := ⟨_, List.getElem?_eq_getElem (by omega)⟩
    rw [prevLess_eq hg]
    have := (List.pairwise_iff_getElem.1 h3) (k - 1) k (by simp; omega) (by simpa using hk) (by omega)
    simp only [List.getElem_map] at this
    rw [(List.getElem?_eq_some_iff.1 hf).2, (List.getElem?_eq_some_iff.1 hg).2] at this
    simp [this]
/-- a new disk of such files -/
def newDD (l : List FileS) : DD := ⟨0, false, 0, l.map fun f => ⟨f.name, f.data, f.data⟩⟩
theorem newFl_dat {fs : List Fl} {l : List FileS} (h : newFl fs l) : (Dk.mk 0 false 0 fs).dat = newDD l := by
  unfold newFl at h
  have := congrArg (List.map fun x : ByteArray × List UInt8 × List UInt8 => FD.mk x.1 x.2.1 x.2.2) h
  simp only [List.map_map] at this
  exact congrArg (DD.mk 0 false 0) this
theorem rising_nodup {l : List ByteArray} (h : risingS l) : l.Nodup := by
  refine h.imp fun h => ?_
  intro e
  subst e
  rw [lessS_irr] at h; cases h
theorem newDD_fine {l : List FileS} (h1 : ∀ f ∈ l, goodS f.name = true) (h2 : ∀ f ∈ l, f.data.length ≤ 1048576) (h3 : risingS (l.map FileS.name)) (h4 : l.length ≤ 16) : (newDD l).fine := by
  refine ⟨⟨fun f hf => ?_⟩, ?_, fun f hf => ?_, by simpa [newDD] using h4⟩
  · obtain ⟨g, hg, rfl⟩ := List.mem_map.1 hf
    exact ⟨h2 g hg, h2 g hg⟩
  · have := rising_nodup h3
    simpa [newDD, Function.comp_def] using this
  · obtain ⟨g, hg, rfl⟩ := List.mem_map.1 hf
    exact h1 g hg
theorem crash_kept {d : DD} (h : d.kept) {ss : List ByteArray} (hs : ss.Perm (d.fs.map FD.name)) (hr : risingS ss) (picks : List Int) :
    let l := (crashAt (pickFs ss d.fs) picks ss.length).1
    mayNew l = true ∧ l.length = ss.length ∧ l.length ≤ 16 ∧ (∀ f ∈ l, f.data.length ≤ 1048576) ∧ (newDD l).kept := by
  have hmem : ∀ n ∈ ss, n ∈ d.fs.map FD.name := fun n hn => hs.subset hn
  have hpk : (pickFs ss d.fs).length = ss.length := by have := congrArg List.length (pick_names hmem); simpa using this
  have hperm := pick_perm h.fine.nd hs
  have hln : ss.length ≤ 16 := by have := hs.length_eq; have := h.fine.few; simp at *; omega
  intro l
  have hl : l.length = ss.length := crash_length (by omega)
  have hnames : l.map FileS.name = ss := by
    have := crash_names (fs := pickFs ss d.fs) (picks := picks) (k := ss.length) (by omega)
    rw [List.take_of_length_le (by omega), pick_names hmem] at this
    exact this
  have h2 : ∀ f ∈ l, f.data.length ≤ 1048576 := crash_len fun f hf => by
    have := h.fine.ok.len f (hperm.subset hf)
    exact ⟨this.2, this.1⟩
  have h1 : ∀ f ∈ l, goodS f.name = true := by
    intro f hf
    have : f.name ∈ ss := by rw [← hnames]; exact List.mem_map.2 ⟨f, hf, rfl⟩
    obtain ⟨g, hg, e⟩ := List.mem_map.1 (hmem _ this)
    rw [← e]; exact h.fine.good g hg
  have h3 : risingS (l.map FileS.name) := by rw [hnames]; exact hr
  have hfine := newDD_fine h1 h2 h3 (by omega)
  refine ⟨mayNew_of h1 h2 h3 (by omega), hl, by omega, h2, hfine, rfl, rfl, ?_⟩
  have hk : (⟨nK, keepL, keepL⟩ : FD) ∈ pickFs ss d.fs := hperm.symm.subset (mem_getN h.k)
  obtain ⟨j, hj⟩ := List.mem_iff_getElem?.1 hk
  have hjl := (List.getElem?_eq_some_iff.1 hj).1
  have hin : (⟨nK, keepL⟩ : FileS) ∈ l := crash_same_mem (f := ⟨nK, keepL, keepL⟩) rfl hj (k := ss.length) (by omega)
  exact getN_mem (f := ⟨nK, keepL, keepL⟩) hfine.nd (List.mem_map.2 ⟨_, hin, rfl⟩)
end Go.Proofs.Ytpedbknmkgcldaa
