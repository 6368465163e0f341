/- Part of the proof of KeepOver: the contracts of the functions. -/
import Derived.Test.YtpedbknmkgcldaaKeepOverCodB

set_option linter.unusedVariables false
set_option linter.unusedSimpArgs false
namespace Go.Proofs.Ytpedbknmkgcldaa
open Go Go.Ab Go.RowKit Go.Maps Go.Sort Go.Shelf Go.MapKept
/-! the sorted keys of a map, lifted -/
theorem bl_lt : ∀ (x y : List UInt8), Op.bytesLess x y = true ↔ x < y
  | [], [] => by simp [Op.bytesLess]
  | [], b :: y => by simp [Op.bytesLess]
  | a :: x, [] => by simp [Op.bytesLess]
  | a :: x, b :: y => by
    rw [List.cons_lt_cons_iff]
    simp only [Op.bytesLess, Bool.or_eq_true, Bool.and_eq_true, beq_iff_eq, decide_eq_true_eq, bl_lt x y]
theorem insert_perm {H : Type} (x : Lit × DataW H) : ∀ l : List (Lit × DataW H), (DataW.insert x l).Perm (x :: l)
  | [] => List.Perm.refl _
  | y :: r => by
    unfold DataW.insert
    split
    · exact List.Perm.refl _
    · exact ((insert_perm x r).cons y).trans (List.Perm.swap x y r)
theorem foldr_perm {H : Type} : ∀ l : List (Lit × DataW H), (l.foldr DataW.insert []).Perm l
  | [] => List.Perm.refl _
  | x :: l => (insert_perm x _).trans ((foldr_perm l).cons x)
def baOf (l : List UInt8) : ByteArray := ⟨l.toArray⟩
theorem baOf_toList (b : ByteArray) : baOf b.toList = b := by
  rw [ByteArray.toList_eq]; rfl
theorem toList_baOf (l : List UInt8) : (baOf l).toList = l := by
  rw [ByteArray.toList_eq]; rfl
theorem toList_data (b : ByteArray) : b.data.toList = b.toList := by rw [ByteArray.toList_eq]
theorem vme_keys {rd : Addr → Value → Prop} {w : World} : ∀ {es : List (KV × MV)} {ns : List ByteArray} {us : List MapEntry}, es.map (·.1) = ns.map (fun n => KV.one (.str n)) → VME rd w es us → us.map (·.key) = ns.map Value.string
  | [], [], us, _, h => by simp only [VME] at h; subst h; rfl
  | [], n :: ns, _, h, _ => by simp at h
  | e :: es, [], _, h, _ => by simp at h
  | (k, m) :: es, n :: ns, us, h, hv => by
    simp only [VME] at hv
    obtain ⟨u, us', rfl, h1, _, h3⟩ := hv
    simp only [List.map_cons, List.cons.injEq] at h
    obtain ⟨rfl, h⟩ := h
    simp only [VKV, VD] at h1
    simp only [List.map_cons, h1.2, vme_keys h h3]
theorem strs_VDs {rd : Addr → Value → Prop} : ∀ (l : List ByteArray), VDs rd (strs l).flatten (l.map Value.string)
  | [] => by simp [strs, VDs, Cs]
  | b :: bs => by
    simp only [strs, List.map_cons, List.flatten_cons, List.singleton_append, VDs, Cs]
    exact ⟨_, _, rfl, rfl, by simp [VD], by simpa [strs, VDs] using strs_VDs bs⟩
/-- names in order -/
def risingS (l : List ByteArray) : Prop := l.Pairwise fun a b => lessS a b = true
set_option maxRecDepth 100000 in
theorem sorted_ok (es : List (KV × MV)) (ns : List ByteArray) (hk : es.map (·.1) = ns.map (fun n => KV.one (.str n))) (hnd : ns.Nodup) (hl : ns.length ≤ 1000000) (hsz : ∀ n ∈ ns, n.size ≤ maxLen) :
    ACalls Try.prog 69 [.fn 105 [.ptr 0 0]] [.cells [.map 1], .map es] (fun av L => av = .arr 2 ∧ ∃ ss : List ByteArray, ss.Perm ns ∧ risingS ss ∧ L = [.cells [.map 1], .map es, .row 9 1 (strs ss) false]) := by
  intro c vs hc hL0 hs hv
  simp only [VRt, VR] at hv
  obtain ⟨u, us', hvs, ⟨caps, rfl, u1, us1, hcaps, ⟨b0, hp, rfl⟩, rfl⟩, rfl⟩ := hv
  obtain ⟨ab, ha, _, hE0⟩ := hp
  have hb0 := hs.blk 0 _ rfl
  rw [hE0] at hb0
  simp only [BR] at hb0
  obtain ⟨b0', cur, e0, heq, hh0, hcs⟩ := hb0
  cases heq
  simp only [VRs, VR] at hcs
  obtain ⟨u2, us2, hcur, _, ⟨b1, hp1, rfl⟩, rfl⟩ := hcs
  obtain ⟨ab1, _, _, hE1⟩ := hp1
  have hb1 := hs.blk 1 _ rfl
  rw [hE1] at hb1
  simp only [BR] at hb1
  obtain ⟨b1', ents, clock, heq, hh1, hvme, hborn, hclock⟩ := hb1
  cases heq
  have hkeys := vme_keys hk hvme
  have hlen : ents.toList.length = ns.length := by have := congrArg List.length hkeys; simpa using this
  have hrd : ∀ x ∈ ents.toList, ∃ n ∈ ns, x.key = .string n := by
    intro x hx
    have : x.key ∈ ents.toList.map (·.key) := List.mem_map.2 ⟨x, hx, rfl⟩
    rw [hkeys] at this
    obtain ⟨n, h1, h2⟩ := List.mem_map.1 this
    exact ⟨n, h1, h2.symm⟩
  have hu9 : Try.prog.underlying 9 = some .string := Try.underlying9
  have hrd2 : ∀ x ∈ ents.toList, ∀ n, x.key = .string n → n ∈ ns → WideElems.rd (H := Unit) Try.prog 9 (fun _ => some (.nil, [])) x = some (.string n.toList, .nil) := by
    intro x hx n hn hm
    unfold WideElems.rd
    rw [hn, WideMaps.keyOf_string_mk hu9 (hsz n hm)]
    simp [toList_data]
  have hown : c.w0.ownsMap (H := Unit) Try.prog 9 (fun _ => some (.nil, [])) b1 ns.length (.map ((ents.toList.map (WideElems.rg Try.prog 9 (fun _ => some (.nil, [])))).foldr DataW.insert [])) := by
    refine ⟨ents, clock, hh1, ⟨?_, ⟨hclock, ?_, ?_⟩, ?_⟩, ?_, rfl⟩
    · have : ents.size = ns.length := by simpa using hlen
      have h2 : (1000000 : Nat) ≤ maxLen := by decide
      omega
    · exact hborn.imp fun h => Nat.ne_of_lt h
    · rw [hkeys]
      exact List.Pairwise.map _ (fun a b h e => h (by cases e; rfl)) hnd
    · intro x hx
      obtain ⟨n, h1, h2⟩ := hrd x hx
      exact ⟨_, hrd2 x hx n h2 h1⟩
    · simpa using Nat.le_of_eq hlen
  have hstr : (strKeys (H := Unit) (.map ((ents.toList.map (WideElems.rg Try.prog 9 (fun _ => some (.nil, [])))).foldr DataW.insert []))).Perm (ns.map ByteArray.toList) := by
    unfold strKeys
    refine ((foldr_perm _).map _).trans ?_
    refine List.Perm.of_eq ?_
    rw [List.map_map]
    have : ∀ (us : List MapEntry) (ms : List ByteArray), (∀ x ∈ us, x ∈ ents.toList) → (∀ n ∈ ms, n ∈ ns) → us.map (·.key) = ms.map Value.string →
        us.map ((fun p => strOf p.1) ∘ WideElems.rg (H := Unit) Try.prog 9 (fun _ => some (.nil, []))) = ms.map ByteArray.toList := by
      intro us
      induction us with
      | nil => intro ms _ _ h; cases ms with | nil => rfl | cons => simp at h
      | cons x us ih =>
        intro ms h1 h2 h
        cases ms with
        | nil => simp at h
        | cons n ms =>
          simp only [List.map_cons, List.cons.injEq] at h
          simp only [List.map_cons]
          rw [ih ms (fun y hy => h1 y (List.mem_cons_of_mem _ hy)) (fun y hy => h2 y (List.mem_cons_of_mem _ hy)) h.2]
          congr 1
          simp only [Function.comp, WideElems.rg_of (hrd2 x (h1 x (by simp)) n h.1 (h2 n (by simp)))]
          rfl
    exact this _ _ (fun _ h => h) (fun _ h => h) hkeys
  have hsize : Maps.size (H := Unit) (.map ((ents.toList.map (WideElems.rg Try.prog 9 (fun _ => some (.nil, [])))).foldr DataW.insert [])) = ns.length := by
    rw [Maps.size_eq, length_sorted, List.length_map, hlen]
  generalize hD : (DataW.map ((ents.toList.map (WideElems.rg (H := Unit) Try.prog 9 (fun _ => some (.nil, [])))).foldr DataW.insert [])) = D0 at hown hstr hsize
  have hm : (1000000 : Nat) ≤ maxLen := by decide
  have hseq := AnyZ.keys_gives (ρ := Try.keys70_ren) { Try.keys70 with } Fence.wide 2 trivial rfl (by omega) b0 b1 ns.length D0 c.w0 (by
      have := (Array.getElem?_eq_some_iff.1 hh0).1
      exact this) (by
      have hc1 : cur = #[.map (some b1)] := by cases cur; simpa using hcur
      simp [World.cell?, hh0, hc1]) hown
  have hcall := AnyZ.sorted_in Try.sorted69 Fence.wide 5 trivial trivial trivial trivial rfl (by omega) (Try.sorts69 _) (enters_of Try.func104 (by kernel_rfl) rfl) 105 #[.pointer (some ⟨b0, 0, none⟩)] trivial (enters_of Try.func105 (by kernel_rfl) rfl) _ _ (by rw [hsize]; omega) (by rw [hsize]; omega) _ hseq
  have hvs' : vs = #[.func (.func 105) #[] #[.pointer (some ⟨b0, 0, none⟩)]] := by cases vs; cases caps; simp_all
  rw [hvs']
  refine (callsIn_wide.1 hcall).mono ?_
  rintro e w' ⟨v, ss, rfl, hS, ⟨hrl, hrow⟩, hnil, hb⟩
  have hp : ss.Perm (ns.map ByteArray.toList) := hS.trans hstr
  have hpm := List.mergeSort_perm ss (fun x y => decide (x ≤ y))
  have hpw : (ss.mergeSort (fun x y => decide (x ≤ y))).Pairwise (fun x y => x ≤ y) := by
    have := List.pairwise_mergeSort (le := fun x y : List UInt8 => decide (x ≤ y)) (fun a b c h1 h2 => decide_eq_true (List.le_trans (of_decide_eq_true h1) (of_decide_eq_true h2))) (fun a b => by
      rcases List.le_total a b with h | h <;> simp [h]) ss
    exact this.imp fun h => of_decide_eq_true h
  have hnd' : (ss.mergeSort (fun x y => decide (x ≤ y))).Nodup := by
    refine (hpm.trans hp).nodup_iff.2 ?_
    exact List.Pairwise.map _ (fun a b h e => h (toList_inj e)) hnd
  generalize hms : ss.mergeSort (fun x y => decide (x ≤ y)) = ms at *
  have hlen2 : ms.length = ss.length := hpm.length_eq
  have hss : (ms.map baOf).Perm ns := by
    have := (hpm.trans hp).map baOf
    rwa [List.map_map, show (baOf ∘ ByteArray.toList) = id from funext baOf_toList, List.map_id] at this
  have hri : risingS (ms.map baOf) := by
    refine List.Pairwise.map _ (fun a b h => h) ?_
    refine (hpw.and hnd').imp ?_
    rintro a b ⟨h1, h2⟩
    show Op.bytesLess (baOf a).toList (baOf b).toList = true
    rw [toList_baOf, toList_baOf]
    cases h3 : Op.bytesLess a b with
    | true => rfl
    | false =>
      cases h4 : Op.bytesLess b a with
      | true => exact absurd ((bl_lt b a).1 h4) h1
      | false => exact absurd (bl_total a b h3 h4) h2
  have hkeep : Keeps c.w0 w' := ⟨hb.os, hb.tape, hb.output, hb.size, hb.block⟩
  have henc : ms.map encStr = (ms.map baOf).map Value.string := by rw [List.map_map]; rfl
  rcases hrow with ⟨rfl, h0⟩ | ⟨g, cap, cur, rfl, hg, hhg, hcap1, hcap2, hcs, htake⟩
  · have hm0 : ms = [] := by
      apply List.eq_nil_of_length_eq_zero; omega
    subst hm0
    refine ⟨_, .arr 2, _, Eupd c.E0 2 none, rfl, ⟨rfl, _, hss, hri, rfl⟩, hs.extend hc hkeep (.row 9 1 (strs (List.map baOf [])) false) none (fun b h => by cases h) (fun b h => by simp [AB.boxes] at h) (by simp [AB.boxes]) (fun b h => by simp [AB.boxes] at h) ?_, ?_⟩
    · simp only [BR]
      exact ⟨by omega, by simp [strs], rfl⟩
    · exact ⟨_, rfl, by simp [arRel, Eupd]⟩
  · refine ⟨_, .arr 2, _, Eupd c.E0 2 (some g), rfl, ⟨rfl, _, hss, hri, rfl⟩, hs.extend hc hkeep (.row 9 1 (strs (List.map baOf ms)) false) (some g) (fun b h => by cases h; exact hg) (fun b h => by simp [AB.boxes] at h) (by simp [AB.boxes]) (fun b h => by simp [AB.boxes] at h) ?_, ?_⟩
    · simp only [BR]
      refine ⟨by omega, by simp [strs], cap, cur, hhg, hcs, by simp [strs]; omega, hcap2, ?_⟩
      have : (cur.toList.take ((strs (List.map baOf ms)).length * 1)) = (ms.map baOf).map Value.string := by
        rw [← henc, ← htake]; congr 1; simp [strs, hlen2]
      rw [this]
      exact strs_VDs _
    · exact ⟨_, rfl, by
        simp only [arRel, Eupd]
        exact ⟨cap, cur, by simp [strs, hlen2], hhg, hcs⟩⟩
end Go.Proofs.Ytpedbknmkgcldaa

namespace Go.Proofs.Ytpedbknmkgcldaa
open Go.Ab Go.RowKit Go.MapKept
attribute [local irreducible] ACalls AW ADraw Into
set_option maxRecDepth 100000
theorem keys_ok (es : List (KV × MV)) : ACalls Try.prog 70 [.map 0] [.map es] (fun av L => av = .fn 105 [.ptr 1 0] ∧ L = [.map es, .cells [.map 0]]) := by
  refine acalls_go ttOk zOk foOk Try.func70 rfl Try.ntmps70 rfl true rfl ?_
  conv => whnf
  exact ⟨rfl, rfl⟩
end Go.Proofs.Ytpedbknmkgcldaa

namespace Go.Proofs.Ytpedbknmkgcldaa
open Go.Ab Go.RowKit Go.MapKept
attribute [local irreducible] ACalls AW ADraw Into
set_option maxRecDepth 100000
theorem ent_keys (fs : List Fl) : (fs.map Fl.ent).map (·.1) = (fs.map Fl.name).map fun n => KV.one (.str n) := by
  rw [List.map_map, List.map_map]; rfl
theorem dat_names (fs : List Fl) : (fs.map Fl.dat).map FD.name = fs.map Fl.name := by
  rw [List.map_map]; rfl
def DD.list (d : DD) (ss : List ByteArray) : Prop := (d.off = true → ss = []) ∧ (d.off = false → ss.Perm (d.fs.map FD.name)) ∧ risingS ss
theorem list_row (d : Dk) (hd : d.dat.fine) : ACalls Try.prog 26 [.ptr 0 0] d.L (fun av L => av = .tup [.arr 2, .d (.int .i64 (if d.off then 9 else 0))] ∧ ∃ ss : List ByteArray, d.dat.list ss ∧ L = d.L ++ [.row 9 1 (strs ss) false]) := by
  refine acalls_go ttOk zOk foOk Try.func26 rfl Try.ntmps26 rfl true rfl ?_
  conv => whnf
  repeat' (first | ((with_reducible apply z_wrap); (focus omega); (conv => whnf)) | ((with_reducible refine mt_dec (fun _ => ?_) (fun _ => ?_)) <;> (conv => whnf)) | ((with_reducible refine mt_eq (fun _ => ?_) (fun _ => ?_)) <;> (conv => whnf)) | ((with_reducible refine mt_ne (fun _ => ?_) (fun _ => ?_)) <;> (conv => whnf)) | ((with_reducible refine mt_not (fun _ => ?_) (fun _ => ?_)) <;> (conv => whnf)) | ((with_reducible refine mt_any (fun _ => ?_) (fun _ => ?_)) <;> (conv => whnf)))
  · rename_i ho
    refine ⟨by simp [ho, avOf1], [], ⟨fun _ => rfl, fun h => (by simp [Dk.dat, ho] at h), by simp [risingS]⟩, rfl⟩
  · rename_i ho
    ((with_reducible refine (keys_ok _).mono ?_); rintro _ _ ⟨rfl, rfl⟩; (conv => whnf))
    refine (sorted_ok _ (d.fs.map Fl.name) (ent_keys _) (by have := hd.nd; rwa [show d.dat.fs = d.fs.map Fl.dat from rfl, dat_names] at this) (by have := hd.few; simp [Dk.dat] at this ⊢; omega) ?_).mono ?_
    · intro n hn
      obtain ⟨f, hf, rfl⟩ := List.mem_map.1 hn
      have := goodS_size (hd.good f.dat (List.mem_map.2 ⟨f, hf, rfl⟩))
      have h2 : (1000 : Nat) ≤ maxLen := by decide
      exact Nat.le_trans this h2
    rintro _ _ ⟨rfl, ss, hp, hr, rfl⟩
    conv => whnf
    refine ⟨by simp [ho, avOf1], ss, ⟨fun h => (by simp [Dk.dat, ho] at h), fun _ => by rw [show d.dat.fs = d.fs.map Fl.dat from rfl, dat_names]; exact hp, hr⟩, rfl⟩
theorem list_ok (d : Dk) (hd : d.dat.fine) : ACalls Try.prog 26 [.ptr 0 0] d.L (fun av L => ∃ ss : List ByteArray, d.dat.list ss ∧ av = .tup [.d (.sl 1 (strs ss)), .d (.int .i64 (if d.off then 9 else 0))] ∧ L = d.L) := by
  refine acalls_go ttOk zOk foOk Try.func26 rfl Try.ntmps26 rfl false rfl ?_
  conv => whnf
  repeat' (first | ((with_reducible apply z_wrap); (focus omega); (conv => whnf)) | ((with_reducible refine mt_dec (fun _ => ?_) (fun _ => ?_)) <;> (conv => whnf)) | ((with_reducible refine mt_eq (fun _ => ?_) (fun _ => ?_)) <;> (conv => whnf)) | ((with_reducible refine mt_ne (fun _ => ?_) (fun _ => ?_)) <;> (conv => whnf)) | ((with_reducible refine mt_not (fun _ => ?_) (fun _ => ?_)) <;> (conv => whnf)) | ((with_reducible refine mt_any (fun _ => ?_) (fun _ => ?_)) <;> (conv => whnf)))
  · rename_i ho
    exact ⟨[], ⟨fun _ => rfl, fun h => (by simp [Dk.dat, ho] at h), by simp [risingS]⟩, by simp [ho, avOf1, strs], rfl⟩
  · rename_i ho
    ((with_reducible refine (keys_ok _).mono ?_); rintro _ _ ⟨rfl, rfl⟩; (conv => whnf))
    refine (sorted_ok _ (d.fs.map Fl.name) (ent_keys _) (by have := hd.nd; rwa [show d.dat.fs = d.fs.map Fl.dat from rfl, dat_names] at this) (by have := hd.few; simp [Dk.dat] at this ⊢; omega) ?_).mono ?_
    · intro n hn
      obtain ⟨f, hf, rfl⟩ := List.mem_map.1 hn
      have := goodS_size (hd.good f.dat (List.mem_map.2 ⟨f, hf, rfl⟩))
      have h2 : (1000 : Nat) ≤ maxLen := by decide
      exact Nat.le_trans this h2
    rintro _ _ ⟨rfl, ss, hp, hr, rfl⟩
    conv => whnf
    exact ⟨ss, ⟨fun h => (by simp [Dk.dat, ho] at h), fun _ => by rw [show d.dat.fs = d.fs.map Fl.dat from rfl, dat_names]; exact hp, hr⟩, by simp [ho, avOf1], rfl⟩
end Go.Proofs.Ytpedbknmkgcldaa

namespace Go.Proofs.Ytpedbknmkgcldaa
open Go.Ab Go.RowKit Go.MapKept
attribute [local irreducible] ACalls AW ADraw Into
set_option maxRecDepth 100000
def LD.sync (l : LD) : Int × LD :=
  if l.dead = true then (9, l) else
  if l.file = true then ((l.d.sync logN).1, ({ l with d := (l.d.sync logN).2 } : LD).did (l.d.sync logN).1) else
  (if l.d.off = true then 9 else 0, l.did (if l.d.off = true then 9 else 0))
set_option maxHeartbeats 4000000 in
theorem lsync_ok (l : Lg) (hd : l.d.dat.fine) : ACalls Try.prog 52 [.ptr 0 0] l.L (fun av L => ∃ l' : Lg, av = .d (.int .i64 (l.dat.sync).1) ∧ L = l'.L ∧ l'.dat = (l.dat.sync).2) := by
  refine acalls_go ttOk zOk foOk Try.func52 rfl Try.ntmps52 rfl false rfl ?_
  conv => whnf
  repeat' (first | ((with_reducible apply z_wrap); (focus omega); (conv => whnf)) | ((with_reducible refine mt_dec (fun _ => ?_) (fun _ => ?_)) <;> (conv => whnf)) | ((with_reducible refine mt_eq (fun _ => ?_) (fun _ => ?_)) <;> (conv => whnf)) | ((with_reducible refine mt_ne (fun _ => ?_) (fun _ => ?_)) <;> (conv => whnf)) | ((with_reducible refine mt_not (fun _ => ?_) (fun _ => ?_)) <;> (conv => whnf)) | ((with_reducible refine mt_any (fun _ => ?_) (fun _ => ?_)) <;> (conv => whnf)))
  · rename_i h
    have h' : l.dat.dead = true := h
    rw [show l.dat.sync = (9, l.dat) by simp [LD.sync, h']]
    exact ⟨l, rfl, rfl, rfl⟩
  · rename_i h hf
    have h' : l.dat.dead = false := (by simpa using h : l.dead = false)
    have hf' : l.dat.file = true := hf
    rw [show l.dat.sync = ((l.dat.d.sync logN).1, ({ l.dat with d := (l.dat.d.sync logN).2 } : LD).did (l.dat.d.sync logN).1) by simp only [LD.sync, h', hf']; rfl]
    refine (sync_ok l.d logN).mono ?_
    rintro _ _ ⟨d', rfl, rfl, hd'⟩
    conv => whnf
    repeat' (first | ((with_reducible apply z_wrap); (focus omega); (conv => whnf)) | ((with_reducible refine mt_dec (fun _ => ?_) (fun _ => ?_)) <;> (conv => whnf)) | ((with_reducible refine mt_eq (fun _ => ?_) (fun _ => ?_)) <;> (conv => whnf)) | ((with_reducible refine mt_ne (fun _ => ?_) (fun _ => ?_)) <;> (conv => whnf)) | ((with_reducible refine mt_not (fun _ => ?_) (fun _ => ?_)) <;> (conv => whnf)) | ((with_reducible refine mt_any (fun _ => ?_) (fun _ => ?_)) <;> (conv => whnf)))
    refine (did_ok { l with d := d' } _).mono ?_
    rintro _ _ ⟨rfl, rfl⟩
    conv => whnf
    refine ⟨_, rfl, rfl, ?_⟩
    simp only [Lg.dat, LD.did, hd']
    rfl
  · rename_i h hf
    have h' : l.dat.dead = false := (by simpa using h : l.dead = false)
    have hf' : l.dat.file = false := (by simpa using hf : l.file = false)
    rw [show l.dat.sync = (if l.dat.d.off = true then 9 else 0, l.dat.did (if l.dat.d.off = true then 9 else 0)) by simp only [LD.sync, h', hf']; rfl]
    refine (list_ok l.d hd).mono ?_
    rintro _ _ ⟨ss, _, rfl, rfl⟩
    conv => whnf
    repeat' (first | ((with_reducible apply z_wrap); (focus omega); (conv => whnf)) | ((with_reducible refine mt_dec (fun _ => ?_) (fun _ => ?_)) <;> (conv => whnf)) | ((with_reducible refine mt_eq (fun _ => ?_) (fun _ => ?_)) <;> (conv => whnf)) | ((with_reducible refine mt_ne (fun _ => ?_) (fun _ => ?_)) <;> (conv => whnf)) | ((with_reducible refine mt_not (fun _ => ?_) (fun _ => ?_)) <;> (conv => whnf)) | ((with_reducible refine mt_any (fun _ => ?_) (fun _ => ?_)) <;> (conv => whnf)))
    refine (did_ok l _).mono ?_
    rintro _ _ ⟨rfl, rfl⟩
    conv => whnf
    exact ⟨_, rfl, rfl, rfl⟩
end Go.Proofs.Ytpedbknmkgcldaa

namespace Go.Proofs.Ytpedbknmkgcldaa
open Go.Ab Go.RowKit Go.MapKept
attribute [local irreducible] ACalls AW ADraw Into
set_option maxRecDepth 100000
theorem load_none (l : Lg) (hd : l.d.dat.ok) (hn : (l.d.dat.read logN).2 = 3) : ACalls Try.prog 87 [.ptr 0 0] l.L (fun av L => av = .d (.int .i64 0) ∧ L = l.L) := by
  refine acalls_go ttOk zOk foOk Try.func87 rfl Try.ntmps87 rfl false rfl ?_
  conv => whnf
  repeat' (first | ((with_reducible apply z_wrap); (focus omega); (conv => whnf)) | ((with_reducible refine mt_dec (fun _ => ?_) (fun _ => ?_)) <;> (conv => whnf)) | ((with_reducible refine mt_eq (fun _ => ?_) (fun _ => ?_)) <;> (conv => whnf)) | ((with_reducible refine mt_ne (fun _ => ?_) (fun _ => ?_)) <;> (conv => whnf)) | ((with_reducible refine mt_not (fun _ => ?_) (fun _ => ?_)) <;> (conv => whnf)) | ((with_reducible refine mt_any (fun _ => ?_) (fun _ => ?_)) <;> (conv => whnf)))
  refine (read_ok l.d hd logN).mono ?_
  rintro _ _ ⟨rfl, rfl⟩
  conv => whnf
  rw [hn]
  repeat' (first | ((with_reducible apply z_wrap); (focus omega); (conv => whnf)) | ((with_reducible refine mt_dec (fun _ => ?_) (fun _ => ?_)) <;> (conv => whnf)) | ((with_reducible refine mt_eq (fun _ => ?_) (fun _ => ?_)) <;> (conv => whnf)) | ((with_reducible refine mt_ne (fun _ => ?_) (fun _ => ?_)) <;> (conv => whnf)) | ((with_reducible refine mt_not (fun _ => ?_) (fun _ => ?_)) <;> (conv => whnf)) | ((with_reducible refine mt_any (fun _ => ?_) (fun _ => ?_)) <;> (conv => whnf)))
  · exact ⟨rfl, rfl⟩
  · rename_i h; exact absurd rfl h
/-- a new log -/
def newLg (d : Dk) : Lg := ⟨d, [], false, 0, false, false⟩
def Lg.O (l : Lg) : List AB := [.cells [.d (.int .i64 l.d.calls), .d (.bool l.d.off), .d (.int .i64 l.d.upto), .map 1], .map (l.d.fs.map Fl.ent), .cells (.ptr 0 0 :: .arr 3 :: l.tail), .row 9 1 (strs l.recs) l.sh]
theorem open_new (d : Dk) (hd : d.dat.ok) (hf : (d.dat.read freshN).2 = 3) (hn : (d.dat.read logN).2 = 3) : ACalls Try.prog 39 [.ptr 0 0] d.L (fun av L => av = .tup [.ptr 2 0, .d (.int .i64 0)] ∧ ∃ l : Lg, L = l.O ∧ l.dat = (newLg d).dat) := by
  refine acalls_go ttOk zOk foOk Try.func39 rfl Try.ntmps39 rfl true rfl ?_
  conv => whnf
  repeat' (first | ((with_reducible apply z_wrap); (focus omega); (conv => whnf)) | ((with_reducible refine mt_dec (fun _ => ?_) (fun _ => ?_)) <;> (conv => whnf)) | ((with_reducible refine mt_eq (fun _ => ?_) (fun _ => ?_)) <;> (conv => whnf)) | ((with_reducible refine mt_ne (fun _ => ?_) (fun _ => ?_)) <;> (conv => whnf)) | ((with_reducible refine mt_not (fun _ => ?_) (fun _ => ?_)) <;> (conv => whnf)) | ((with_reducible refine mt_any (fun _ => ?_) (fun _ => ?_)) <;> (conv => whnf)))
  refine (sweep_ok (newLg d) hd).mono ?_
  rintro _ _ ⟨l1, rfl, rfl, hl1, hsh⟩
  conv => whnf
  rw [show (newLg d).dat.sweep = (0, (newLg d).dat) by (have : ((newLg d).dat.d.read freshN).2 = 3 := hf); simp [LD.sweep, this]] at hl1 ⊢
  repeat' (first | ((with_reducible apply z_wrap); (focus omega); (conv => whnf)) | ((with_reducible refine mt_dec (fun _ => ?_) (fun _ => ?_)) <;> (conv => whnf)) | ((with_reducible refine mt_eq (fun _ => ?_) (fun _ => ?_)) <;> (conv => whnf)) | ((with_reducible refine mt_ne (fun _ => ?_) (fun _ => ?_)) <;> (conv => whnf)) | ((with_reducible refine mt_not (fun _ => ?_) (fun _ => ?_)) <;> (conv => whnf)) | ((with_reducible refine mt_any (fun _ => ?_) (fun _ => ?_)) <;> (conv => whnf)))
  · rename_i h; exact absurd rfl h
  have hl1d : l1.d.dat = d.dat := by
    have : l1.d.dat = l1.dat.d := rfl
    rw [this, hl1]; rfl
  refine (load_none l1 (by rw [hl1d]; exact hd) (by rw [hl1d]; exact hn)).mono ?_
  rintro _ _ ⟨rfl, rfl⟩
  conv => whnf
  repeat' (first | ((with_reducible apply z_wrap); (focus omega); (conv => whnf)) | ((with_reducible refine mt_dec (fun _ => ?_) (fun _ => ?_)) <;> (conv => whnf)) | ((with_reducible refine mt_eq (fun _ => ?_) (fun _ => ?_)) <;> (conv => whnf)) | ((with_reducible refine mt_ne (fun _ => ?_) (fun _ => ?_)) <;> (conv => whnf)) | ((with_reducible refine mt_not (fun _ => ?_) (fun _ => ?_)) <;> (conv => whnf)) | ((with_reducible refine mt_any (fun _ => ?_) (fun _ => ?_)) <;> (conv => whnf)))
  exact ⟨rfl, l1, rfl, hl1⟩
end Go.Proofs.Ytpedbknmkgcldaa

namespace Go.Proofs.Ytpedbknmkgcldaa
open Go.Ab Go.RowKit
/-! ## a log on a disk with power -/
def wsum : List ByteArray → Int
  | [] => 0
  | s :: r => s.size + 16 + wsum r
theorem wsum_app (l : List ByteArray) (s : ByteArray) : wsum (l ++ [s]) = wsum l + s.size + 16 := by
  induction l with
  | nil => simp [wsum]
  | cons x r ih => simp only [List.cons_append, wsum, ih]; omega
theorem wsum_nonneg (l : List ByteArray) : 0 ≤ wsum l := by
  induction l with
  | nil => simp [wsum]
  | cons x r ih => simp only [wsum]; omega
theorem wsum_len (l : List ByteArray) : 16 * (l.length : Int) ≤ wsum l := by
  induction l with
  | nil => simp [wsum]
  | cons x r ih => simp only [wsum, List.length_cons]; omega
theorem frame_len (s : ByteArray) : (frameL s).length = s.size + 9 := by
  have : s.data.toList.length = s.size := by simp
  simp [frameL, fourL, this]
theorem lay_len (l : List ByteArray) : ((layL l).length : Int) ≤ wsum l := by
  induction l with
  | nil => simp [layL, wsum]
  | cons x r ih =>
    have h := frame_len x
    simp only [layL, List.map_cons, List.flatten_cons, List.length_append, wsum] at ih ⊢
    omega
theorem lay_app (l : List ByteArray) (s : ByteArray) : layL (l ++ [s]) = layL l ++ frameL s := by simp [layL]
theorem cnt_true (l : List ByteArray) (n : Int) : (l.foldl cntS (true, n)) = (true, n) := by
  induction l with
  | nil => rfl
  | cons x r ih => simp only [List.foldl_cons]; rw [show cntS (true, n) x = (true, n) by simp [cntS]]; exact ih
theorem cnt_sum (l : List ByteArray) : ∀ n : Int, n ≤ 524288 → ((n + wsum l ≤ 524288 → l.foldl cntS (false, n) = (false, n + wsum l)) ∧ (¬ n + wsum l ≤ 524288 → (l.foldl cntS (false, n)).1 = true)) := by
  induction l with
  | nil => intro n hn; simp [wsum, hn]
  | cons x r ih =>
    intro n hn
    have hr := wsum_nonneg r
    simp only [List.foldl_cons, wsum]
    by_cases hx : (x.size : Int) + 16 > 524288 - n
    · rw [show cntS (false, n) x = (true, n) by simp [cntS, hx]]
      refine ⟨fun h => by omega, fun _ => by rw [cnt_true]⟩
    · rw [show cntS (false, n) x = (false, n + (x.size + 16)) by simp [cntS, hx]]
      obtain ⟨h1, h2⟩ := ih (n + (x.size + 16)) (by omega)
      refine ⟨fun h => by rw [h1 (by omega)]; congr 1; omega, fun h => h2 (by omega)⟩
theorem counted_eq (l : List ByteArray) : counted l = if l.all (fun x => decide (x.size ≤ 4096)) = false then (0, 1) else if wsum l > 524288 then (0, 8) else (wsum l, 0) := by
  unfold counted
  split
  · rfl
  · obtain ⟨h1, h2⟩ := cnt_sum l 0 (by decide)
    simp only [Int.zero_add] at h1 h2
    by_cases h : wsum l ≤ 524288
    · rw [show cntL l = (false, wsum l) from h1 h, if_neg (show ¬ wsum l > 524288 by omega)]; rfl
    · rw [if_pos (show (cntL l).1 = true from h2 h), if_pos (show wsum l > 524288 by omega)]
structure LS where
  calls : Int
  recs : List ByteArray
  file : Bool
  safe : List UInt8
def LS.fs (x : LS) : List FD := if x.file = true then [⟨logN, x.safe, layL x.recs⟩] else []
def LS.l (x : LS) : LD := ⟨⟨x.calls, false, 0, x.fs⟩, x.recs, wsum x.recs, x.file, false⟩
structure LS.ok (x : LS) : Prop where
  new : x.file = false → x.recs = [] ∧ x.safe = []
  sum : wsum x.recs ≤ 524288
  small : ∀ s ∈ x.recs, s.size ≤ 4096
  safe : x.safe.length ≤ 1048576
theorem LS.ok.len {x : LS} (h : x.ok) : (layL x.recs).length ≤ 524288 := by
  have := lay_len x.recs
  have := h.sum
  omega
theorem LS.ok.recs {x : LS} (h : x.ok) : x.recs.length ≤ 32768 := by
  have := wsum_len x.recs
  have := h.sum
  omega
theorem log_good : goodS logN = true := by decide
theorem fresh_good : goodS freshN = true := by decide
theorem fresh_log : freshN ≠ logN := by decide
theorem LS.ok.fine {x : LS} (h : x.ok) : x.l.d.fine := by
  have h1 := h.len
  have h2 := h.safe
  show DD.fine ⟨x.calls, false, 0, x.fs⟩
  unfold LS.fs
  split
  · exact ⟨⟨by simp; omega⟩, by simp, by simp [log_good], by simp⟩
  · exact ⟨⟨by simp⟩, by simp, by simp, by simp⟩
def LS.spend (x : LS) : Int := IntKind.i64.wrap (x.calls + 1)
theorem LS.spend_eq (x : LS) : x.l.d.spend = ⟨x.spend, false, 0, x.fs⟩ := by simp [LS.l, DD.spend, LS.spend]
def LS.put (x : LS) (s : ByteArray) : LS := ⟨x.spend, x.recs ++ [s], true, x.safe⟩
theorem LS.put_ok {x : LS} (h : x.ok) {s : ByteArray} (h1 : s.size ≤ 4096) (h2 : (s.size : Int) + 16 ≤ 524288 - wsum x.recs) : (x.put s).ok := by
  refine ⟨fun h => (by cases h), ?_, ?_, h.safe⟩
  · show wsum (x.recs ++ [s]) ≤ _
    rw [wsum_app]; omega
  · intro t ht
    rcases List.mem_append.1 ht with ht | ht
    · exact h.small t ht
    · rw [List.mem_singleton.1 ht]; exact h1
theorem LS.append {x : LS} (h : x.ok) {s : ByteArray} (h1 : s.size ≤ 4096) (h2 : (s.size : Int) + 16 ≤ 524288 - wsum x.recs) : x.l.append s = (0, (x.put s).l) := by
  have hl := h.len
  have hf := frame_len s
  have ha : x.l.d.append logN (frameL s) = (0, (x.put s).l.d) := by
    cases hx : x.file with
    | false =>
      obtain ⟨e1, e2⟩ := h.new hx
      have e : x.fs = [] := by simp [LS.fs, hx]
      rw [app_new log_good (by rw [LS.spend_eq]) (show getN logN x.fs = none by rw [e]; rfl) (by omega) (show ¬ x.fs.length = 16 by rw [e]; simp), LS.spend_eq]
      show (0, DD.mk _ _ _ (x.fs ++ _)) = (0, DD.mk _ _ _ (LS.fs _))
      simp [hx, LS.fs, LS.put, e1, e2, layL]
    | true =>
      have e : x.fs = [⟨logN, x.safe, layL x.recs⟩] := by simp [LS.fs, hx]
      rw [app_old log_good (by rw [LS.spend_eq]) (f := ⟨logN, x.safe, layL x.recs⟩) (show getN logN x.fs = _ by rw [e]; simp [getN]) (show ¬ (frameL s).length > 1048576 - (layL x.recs).length by omega), LS.spend_eq]
      show (0, DD.mk _ _ _ (updN logN _ x.fs)) = (0, DD.mk _ _ _ (LS.fs _))
      simp [hx, LS.fs, LS.put, updN, lay_app]
  rw [lapp_ok (l := x.l) rfl (by omega) (by show ¬ _ > 524288 - wsum x.recs; omega) (by rw [ha]), ha]
  simp only [LS.l, LS.put, wsum_app]
def LS.synced (x : LS) : LS := ⟨x.spend, x.recs, true, layL x.recs⟩
theorem LS.synced_ok {x : LS} (h : x.ok) : x.synced.ok := ⟨fun h => (by cases h), h.sum, h.small, by have := h.len; show (layL x.recs).length ≤ _; omega⟩
theorem LS.sync {x : LS} (h : x.ok) : x.l.sync = (0, if x.file = true then x.synced.l else x.l) := by
  cases hx : x.file with
  | false =>
    have h2 : x.l.file = false := hx
    have h3 : x.l.dead = false := rfl
    have h4 : x.l.d.off = false := rfl
    have e : x.l.did 0 = x.l := rfl
    simp only [LD.sync, h2, h3, h4]
    simp [e]
  | true =>
    have h2 : x.l.file = true := hx
    have h3 : x.l.dead = false := rfl
    have e : x.fs = [⟨logN, x.safe, layL x.recs⟩] := by simp [LS.fs, hx]
    have hs : x.l.d.sync logN = (0, x.synced.l.d) := by
      rw [sync_some log_good (by rw [LS.spend_eq]) (f := ⟨logN, x.safe, layL x.recs⟩) (show getN logN x.fs = _ by rw [e]; simp [getN]), LS.spend_eq]
      show (0, DD.mk _ _ _ (updN logN _ x.fs)) = (0, DD.mk _ _ _ (LS.fs _))
      simp [hx, LS.fs, LS.synced, updN]
    simp only [LD.sync, h2, h3, hs]
    simp [LD.did, LS.l, LS.synced, hx]
def LS.laid (x : LS) (s : List ByteArray) : LS := ⟨IntKind.i64.wrap (IntKind.i64.wrap (x.spend + 1) + 1), s, true, layL s⟩
theorem LS.laid_ok (x : LS) {s : List ByteArray} (h : (counted s).2 = 0) : (x.laid s).ok := by
  have hs := counted_small h
  rw [counted_eq] at h
  split at h
  · cases h
  · split at h
    · cases h
    · rename_i h1 h2
      refine ⟨fun h => (by cases h), by show wsum s ≤ _; omega, hs, ?_⟩
      have := lay_len s
      show (layL s).length ≤ _
      omega
theorem LS.reset {x : LS} (h : x.ok) {s : List ByteArray} (hc : (counted s).2 = 0) : x.l.reset s = (0, (x.laid s).l) := by
  have hc1 : (counted s).1 = wsum s ∧ wsum s ≤ 524288 := by
    rw [counted_eq] at hc ⊢
    split at hc
    · cases hc
    · split at hc
      · cases hc
      · rename_i h1 h2
        rw [if_neg h1, if_neg h2]
        exact ⟨rfl, by omega⟩
  have hl := lay_len s
  have hfr : getN freshN x.fs = none := by
    unfold LS.fs
    split
    · simp [getN, fresh_log]
    · rfl
  have hrd : x.l.d.read freshN = ([], 3) := read_none fresh_good rfl hfr
  have hsw : x.l.sweep = (0, x.l) := by simp [LD.sweep, hrd]
  have hlen : ¬ x.fs.length = 16 := by
    unfold LS.fs
    split <;> simp
  have h1 : x.l.app1 s = (0, ⟨x.spend, false, 0, x.fs ++ [⟨freshN, [], layL s⟩]⟩) := by
    unfold LD.app1
    rw [hsw]
    rw [app_new fresh_good (by rw [LS.spend_eq]) hfr (by omega) hlen, LS.spend_eq]
    rfl
  have hg2 : getN freshN (x.fs ++ [⟨freshN, [], layL s⟩]) = some ⟨freshN, [], layL s⟩ := by
    unfold LS.fs
    split <;> simp [getN, fresh_log]
  have h2 : x.l.syn1 s = (0, ⟨IntKind.i64.wrap (x.spend + 1), false, 0, x.fs ++ [⟨freshN, layL s, layL s⟩]⟩) := by
    unfold LD.syn1
    rw [h1]
    rw [sync_some fresh_good (by simp [DD.spend]) hg2]
    unfold LS.fs
    split <;> simp [updN, fresh_log, DD.spend]
  have hg3 : getN freshN (x.fs ++ [⟨freshN, layL s, layL s⟩]) = some ⟨freshN, layL s, layL s⟩ := by
    unfold LS.fs
    split <;> simp [getN, fresh_log]
  have h3 : x.l.ren1 s = (0, (x.laid s).l.d) := by
    unfold LD.ren1
    rw [h2]
    rw [ren_some log_good fresh_good (by simp [DD.spend]) hg3]
    show _ = (0, DD.mk _ _ _ (LS.fs _))
    unfold LS.fs
    split <;> simp [delN, setN, getN, updN, fresh_log, DD.spend, LS.laid]
  rw [res5 rfl hc (by rw [hsw]) (by rw [h1]) (by rw [h2]) (by rw [h3]), hsw, h3, hc1.1]
  simp [LD.did, LS.l, LS.laid]
end Go.Proofs.Ytpedbknmkgcldaa

namespace Go.Proofs.Ytpedbknmkgcldaa
open Go.Ab Go.RowKit Go.MapKept
attribute [local irreducible] ACalls AW ADraw Into
set_option maxRecDepth 100000
theorem all_ok (l : Lg) (hl : l.recs.length ≤ 100000) : ACalls Try.prog 43 [.ptr 0 0] l.L (fun av L => av = .arr 4 ∧ L = l.L ++ [.row 9 1 (strs l.recs) false]) := by
  refine acalls_go ttOk zOk foOk Try.func43 rfl Try.ntmps43 rfl true rfl ?_
  conv => whnf
  repeat' (first | ((with_reducible apply z_wrap); (focus omega); (conv => whnf)) | ((with_reducible refine mt_dec (fun _ => ?_) (fun _ => ?_)) <;> (conv => whnf)) | ((with_reducible refine mt_eq (fun _ => ?_) (fun _ => ?_)) <;> (conv => whnf)) | ((with_reducible refine mt_ne (fun _ => ?_) (fun _ => ?_)) <;> (conv => whnf)) | ((with_reducible refine mt_not (fun _ => ?_) (fun _ => ?_)) <;> (conv => whnf)) | ((with_reducible refine mt_any (fun _ => ?_) (fun _ => ?_)) <;> (conv => whnf)))
  (refine Or.inr ?_; (conv => whnf))
  refine (cloneS_row l.recs l.sh (by omega)).mono ?_
  rintro _ _ ⟨rfl, rfl⟩
  conv => whnf
  exact ⟨rfl, rfl⟩
end Go.Proofs.Ytpedbknmkgcldaa

namespace Go.Proofs.Ytpedbknmkgcldaa
open Go.Ab Go.RowKit Go.MapKept
attribute [local irreducible] ACalls AW ADraw Into
set_option maxRecDepth 100000
theorem take_succ_eq {α : Type} {xs ys : List α} {k : Nat} {a b : α} (hx : xs[k]? = some a) (hy : ys[k]? = some b) (h : xs.take k = ys.take k) : xs.take (k + 1) = ys.take (k + 1) ↔ a = b := by
  rw [List.take_add_one, List.take_add_one, h, hx, hy]
  simp only [Option.toList_some, List.append_cancel_left_eq, List.cons.injEq, and_true]
theorem eqBytes_ok (xs ys : List UInt8) (hm : xs.length ≤ 140737488355328) : ACalls Try.prog 31 [.d (.sl 1 (u8s xs)), .d (.sl 1 (u8s ys))] [] (fun av L => av = .d (.bool (xs == ys)) ∧ L = []) := by
  refine acalls_go ttOk zOk foOk Try.func31 rfl Try.ntmps31 rfl false rfl ?_
  conv => whnf
  ((with_reducible refine mt_ne (fun _ => ?_) (fun _ => ?_)) <;> (conv => whnf))
  · rename_i h
    simp only [u8s_length] at h
    have : (xs == ys) = false := by rw [beq_eq_false_iff_ne]; intro e; exact h (by rw [e])
    rw [this]; exact ⟨rfl, rfl⟩
  · rename_i h
    simp only [u8s_length] at h
    have hl : xs.length = ys.length := by omega
    refine loop_go ttOk zOk foOk (σ := Nat) (fun k => ([(0, .d (.sl 1 (u8s xs))), (1, .d (.sl 1 (u8s ys))), (5, .d (.int .i64 k))], [])) (fun k => k ≤ xs.length ∧ xs.take k = ys.take k) (fun k => xs.length - k) [0, 1, 5] ?_ ?_
    · conv => whnf
      exact ⟨0, rfl, rfl, by simp⟩
    · rintro k ⟨hk, he⟩
      conv => whnf
      ((with_reducible refine mt_dec (fun _ => ?_) (fun _ => ?_)) <;> (conv => whnf))
      · rename_i h
        simp only [u8s_length] at h
        obtain ⟨a, ha⟩ : ∃ a, xs[k]? = some a := ⟨_, List.getElem?_eq_getElem (by omega)⟩
        obtain ⟨b, hb⟩ : ∃ b, ys[k]? = some b := ⟨_, List.getElem?_eq_getElem (by omega)⟩
        ((with_reducible refine draw_pl ttOk zOk foOk mixedOk pl31x6 ?_ ?_); (focus kernel_rfl); (conv => whnf))
        repeat' (first | ((with_reducible apply rd_intro); (focus (intro K hK; (conv => whnf); first | exact hK | (intro z hz; rw [wrapI (by omega)] at hz; subst hz; exact hK))); (conv => whnf)) | ((with_reducible apply gd_and); (focus ((conv => whnf); first | rfl | (intro K hK; (conv => whnf); first | exact hK | (intro z hz; rw [wrapI (by omega)] at hz; subst hz; exact hK)))); (conv => whnf)) | ((with_reducible apply z_wrap); (focus omega); (conv => whnf)) | ((with_reducible refine mt_dec (fun _ => ?_) (fun _ => ?_)) <;> (conv => whnf)) | ((with_reducible refine mt_eq (fun _ => ?_) (fun _ => ?_)) <;> (conv => whnf)) | ((with_reducible refine mt_ne (fun _ => ?_) (fun _ => ?_)) <;> (conv => whnf)) | ((with_reducible refine mt_not (fun _ => ?_) (fun _ => ?_)) <;> (conv => whnf)) | ((with_reducible refine mt_any (fun _ => ?_) (fun _ => ?_)) <;> (conv => whnf)))
        ((with_reducible apply rd_intro); (focus (intro K hK; (conv => whnf); exact ix_u8 ha (by first | rfl | omega) hK)); (conv => whnf))
        repeat' (first | ((with_reducible apply rd_intro); (focus (intro K hK; (conv => whnf); first | exact hK | (intro z hz; rw [wrapI (by omega)] at hz; subst hz; exact hK))); (conv => whnf)) | ((with_reducible apply gd_and); (focus ((conv => whnf); first | rfl | (intro K hK; (conv => whnf); first | exact hK | (intro z hz; rw [wrapI (by omega)] at hz; subst hz; exact hK)))); (conv => whnf)) | ((with_reducible apply z_wrap); (focus omega); (conv => whnf)) | ((with_reducible refine mt_dec (fun _ => ?_) (fun _ => ?_)) <;> (conv => whnf)) | ((with_reducible refine mt_eq (fun _ => ?_) (fun _ => ?_)) <;> (conv => whnf)) | ((with_reducible refine mt_ne (fun _ => ?_) (fun _ => ?_)) <;> (conv => whnf)) | ((with_reducible refine mt_not (fun _ => ?_) (fun _ => ?_)) <;> (conv => whnf)) | ((with_reducible refine mt_any (fun _ => ?_) (fun _ => ?_)) <;> (conv => whnf)))
        ((with_reducible apply rd_intro); (focus (intro K hK; (conv => whnf); exact ix_u8 hb (by first | rfl | omega) hK)); (conv => whnf))
        repeat' (first | ((with_reducible apply rd_intro); (focus (intro K hK; (conv => whnf); first | exact hK | (intro z hz; rw [wrapI (by omega)] at hz; subst hz; exact hK))); (conv => whnf)) | ((with_reducible apply gd_and); (focus ((conv => whnf); first | rfl | (intro K hK; (conv => whnf); first | exact hK | (intro z hz; rw [wrapI (by omega)] at hz; subst hz; exact hK)))); (conv => whnf)) | ((with_reducible apply z_wrap); (focus omega); (conv => whnf)) | ((with_reducible refine mt_dec (fun _ => ?_) (fun _ => ?_)) <;> (conv => whnf)) | ((with_reducible refine mt_eq (fun _ => ?_) (fun _ => ?_)) <;> (conv => whnf)) | ((with_reducible refine mt_ne (fun _ => ?_) (fun _ => ?_)) <;> (conv => whnf)) | ((with_reducible refine mt_not (fun _ => ?_) (fun _ => ?_)) <;> (conv => whnf)) | ((with_reducible refine mt_any (fun _ => ?_) (fun _ => ?_)) <;> (conv => whnf)))
        · rename_i h
          have h2 : a ≠ b := by intro e; rw [e] at h; exact h rfl
          have : (xs == ys) = false := by rw [beq_eq_false_iff_ne]; intro e; subst e; rw [ha] at hb; cases hb; exact h2 rfl
          rw [this]; exact ⟨rfl, rfl⟩
        · rename_i h
          have h2 : a = b := UInt8.toNat_inj.1 (by omega)
          exact ⟨k + 1, rfl, rfl, ⟨by omega, (take_succ_eq ha hb he).2 h2⟩, by omega⟩
      · rename_i h
        simp only [u8s_length] at h
        obtain rfl : k = xs.length := by omega
        have : (xs == ys) = true := by rw [List.take_length, hl, List.take_length] at he; simp [he]
        rw [this]; exact ⟨rfl, rfl⟩
end Go.Proofs.Ytpedbknmkgcldaa

namespace Go.Proofs.Ytpedbknmkgcldaa
open Go.Ab Go.RowKit Go.MapKept
attribute [local irreducible] ACalls AW ADraw Into
set_option maxRecDepth 100000
theorem eqStrings_ok (xs ys : List ByteArray) (hm : xs.length ≤ 140737488355328) : ACalls Try.prog 45 [.d (.sl 1 (strs xs)), .d (.sl 1 (strs ys))] [] (fun av L => av = .d (.bool (decide (xs = ys))) ∧ L = []) := by
  unfold strs
  refine acalls_go ttOk zOk foOk Try.func45 rfl Try.ntmps45 rfl false rfl ?_
  conv => whnf
  ((with_reducible refine mt_ne (fun _ => ?_) (fun _ => ?_)) <;> (conv => whnf))
  · rename_i h
    simp only [List.length_map] at h
    rw [decide_eq_false (fun e => h (by rw [e]))]; exact ⟨rfl, rfl⟩
  · rename_i h
    simp only [List.length_map] at h
    have hl : xs.length = ys.length := by omega
    refine loop_go ttOk zOk foOk (σ := Nat) (fun k => ([(0, .d (.sl 1 (xs.map fun s => [DV.str s]))), (1, .d (.sl 1 (ys.map fun s => [DV.str s]))), (5, .d (.int .i64 k))], [])) (fun k => k ≤ xs.length ∧ xs.take k = ys.take k) (fun k => xs.length - k) [0, 1, 5] ?_ ?_
    · conv => whnf
      exact ⟨0, rfl, rfl, by simp⟩
    · rintro k ⟨hk, he⟩
      conv => whnf
      ((with_reducible refine mt_dec (fun _ => ?_) (fun _ => ?_)) <;> (conv => whnf))
      · rename_i h
        simp only [List.length_map] at h
        obtain ⟨a, ha⟩ : ∃ a, xs[k]? = some a := ⟨_, List.getElem?_eq_getElem (by omega)⟩
        obtain ⟨b, hb⟩ : ∃ b, ys[k]? = some b := ⟨_, List.getElem?_eq_getElem (by omega)⟩
        ((with_reducible refine draw_pl ttOk zOk foOk mixedOk pl45x6 ?_ ?_); (focus kernel_rfl); (conv => whnf))
        repeat' (first | ((with_reducible apply rd_intro); (focus (intro K hK; (conv => whnf); first | exact hK | (intro z hz; rw [wrapI (by omega)] at hz; subst hz; exact hK))); (conv => whnf)) | ((with_reducible apply gd_and); (focus ((conv => whnf); first | rfl | (intro K hK; (conv => whnf); first | exact hK | (intro z hz; rw [wrapI (by omega)] at hz; subst hz; exact hK)))); (conv => whnf)) | ((with_reducible apply z_wrap); (focus omega); (conv => whnf)) | ((with_reducible refine mt_dec (fun _ => ?_) (fun _ => ?_)) <;> (conv => whnf)) | ((with_reducible refine mt_eq (fun _ => ?_) (fun _ => ?_)) <;> (conv => whnf)) | ((with_reducible refine mt_ne (fun _ => ?_) (fun _ => ?_)) <;> (conv => whnf)) | ((with_reducible refine mt_not (fun _ => ?_) (fun _ => ?_)) <;> (conv => whnf)) | ((with_reducible refine mt_any (fun _ => ?_) (fun _ => ?_)) <;> (conv => whnf)))
        ((with_reducible apply rd_intro); (focus (intro K hK; (conv => whnf); exact ix_map ha (by first | rfl | omega) hK)); (conv => whnf))
        repeat' (first | ((with_reducible apply rd_intro); (focus (intro K hK; (conv => whnf); first | exact hK | (intro z hz; rw [wrapI (by omega)] at hz; subst hz; exact hK))); (conv => whnf)) | ((with_reducible apply gd_and); (focus ((conv => whnf); first | rfl | (intro K hK; (conv => whnf); first | exact hK | (intro z hz; rw [wrapI (by omega)] at hz; subst hz; exact hK)))); (conv => whnf)) | ((with_reducible apply z_wrap); (focus omega); (conv => whnf)) | ((with_reducible refine mt_dec (fun _ => ?_) (fun _ => ?_)) <;> (conv => whnf)) | ((with_reducible refine mt_eq (fun _ => ?_) (fun _ => ?_)) <;> (conv => whnf)) | ((with_reducible refine mt_ne (fun _ => ?_) (fun _ => ?_)) <;> (conv => whnf)) | ((with_reducible refine mt_not (fun _ => ?_) (fun _ => ?_)) <;> (conv => whnf)) | ((with_reducible refine mt_any (fun _ => ?_) (fun _ => ?_)) <;> (conv => whnf)))
        ((with_reducible apply rd_intro); (focus (intro K hK; (conv => whnf); exact ix_map hb (by first | rfl | omega) hK)); (conv => whnf))
        repeat' (first | ((with_reducible apply rd_intro); (focus (intro K hK; (conv => whnf); first | exact hK | (intro z hz; rw [wrapI (by omega)] at hz; subst hz; exact hK))); (conv => whnf)) | ((with_reducible apply gd_and); (focus ((conv => whnf); first | rfl | (intro K hK; (conv => whnf); first | exact hK | (intro z hz; rw [wrapI (by omega)] at hz; subst hz; exact hK)))); (conv => whnf)) | ((with_reducible apply z_wrap); (focus omega); (conv => whnf)) | ((with_reducible refine mt_dec (fun _ => ?_) (fun _ => ?_)) <;> (conv => whnf)) | ((with_reducible refine mt_eq (fun _ => ?_) (fun _ => ?_)) <;> (conv => whnf)) | ((with_reducible refine mt_ne (fun _ => ?_) (fun _ => ?_)) <;> (conv => whnf)) | ((with_reducible refine mt_not (fun _ => ?_) (fun _ => ?_)) <;> (conv => whnf)) | ((with_reducible refine mt_any (fun _ => ?_) (fun _ => ?_)) <;> (conv => whnf)))
        · rename_i h
          have h2 : a ≠ b := by intro e; subst e; simp at h
          rw [decide_eq_false (fun e => by subst e; rw [ha] at hb; cases hb; exact h2 rfl)]; exact ⟨rfl, rfl⟩
        · rename_i h
          have h2 : a = b := by
            rcases a with ⟨⟨a⟩⟩; rcases b with ⟨⟨b⟩⟩
            simpa using h
          exact ⟨k + 1, rfl, rfl, ⟨by omega, (take_succ_eq ha hb he).2 h2⟩, by omega⟩
      · rename_i h
        simp only [List.length_map] at h
        obtain rfl : k = xs.length := by omega
        rw [decide_eq_true (by rw [List.take_length, hl, List.take_length] at he; exact he)]; exact ⟨rfl, rfl⟩
end Go.Proofs.Ytpedbknmkgcldaa

namespace Go.Proofs.Ytpedbknmkgcldaa
open Go.Ab Go.RowKit Go.MapKept
attribute [local irreducible] ACalls AW ADraw Into
set_option maxRecDepth 100000
theorem num10_ok (n : Int) : ACalls Try.prog 41 [.d (.int .i64 n)] [] (fun av L => av = .d (.int .i64 n) ∧ L = []) := by
  refine acalls_go ttOk zOk foOk Try.func41 rfl Try.ntmps41 rfl false rfl ?_
  conv => whnf
  exact ⟨rfl, rfl⟩
end Go.Proofs.Ytpedbknmkgcldaa

namespace Go.Proofs.Ytpedbknmkgcldaa
open Go.Ab Go.RowKit Go.MapKept
attribute [local irreducible] ACalls AW ADraw Into
set_option maxRecDepth 100000
def filesD (files : List FileS) : DV := .sl 2 (files.map FileS.cs)
theorem may_bad {files : List FileS} {k : Nat} (h : k < files.length) (hm : mayAt files k = false) : mayNew files = false := by
  unfold mayNew
  have : (List.range files.length).all (mayAt files) = false := by
    rw [Bool.eq_false_iff]
    intro ha
    rw [List.all_eq_true] at ha
    rw [ha k (by simpa using h)] at hm
    cases hm
  rw [this]; rfl
theorem new_bad {files : List FileS} {k : Nat} (h : k < files.length) (hm : mayAt files k = false) {A : Prop} {av : AV} {L : List AB} (ha : av = .tup [.d .nilp, .d (.int .i64 1)]) (hL : L = []) : (mayNew files = true → A) ∧ (mayNew files = false → av = .tup [.d .nilp, .d (.int .i64 1)] ∧ L = []) :=
  ⟨fun h1 => by (rw [may_bad h hm] at h1; cases h1), fun _ => ⟨ha, hL⟩⟩
attribute [local irreducible] goodS in
theorem new_ok (files : List FileS) (hp : ∀ f ∈ files, f.data.length ≤ 140737488355328) (hl : files.length ≤ 140737488355328) : ACalls Try.prog 15 [.d (filesD files)] [] (fun av L => (mayNew files = true → av = .tup [.ptr 0 0, .d (.int .i64 0)] ∧ ∃ fs, L = (Dk.mk 0 false 0 fs).L ∧ newFl fs files) ∧ (mayNew files = false → av = .tup [.d .nilp, .d (.int .i64 1)] ∧ L = [])) := by
  refine acalls_go ttOk zOk foOk Try.func15 rfl Try.ntmps15 rfl false rfl ?_
  conv => whnf
  refine loop_go2 ttOk zOk foOk (σ := Nat) (ρ := List Fl) (fun k fs => ([(0, .d (filesD files)), (4, .ptr 0 0), (10, .d (filesD files)), (11, .d (.int .i64 (files.map FileS.cs).length)), (12, .d (.int .i64 k))], (Dk.mk 0 false 0 fs).L))
    (fun k fs => k ≤ files.length ∧ (∀ i, i < k → mayAt files i = true) ∧ newFl fs (files.take k)) (fun k _ => files.length - k) [0, 4, 10, 11, 12] ?_ ?_
  · conv => whnf
    exact ⟨0, [], rfl, rfl, ⟨by omega, fun i h => by omega, by simp [newFl]⟩⟩
  · rintro k fs ⟨hk, hm, hf⟩
    conv => whnf
    refine sp_dec (fun h => ?_) (fun h => ?_) <;> simp only [List.length_map] at h
    · conv => whnf
      have hkl : k < files.length := by omega
      obtain ⟨f, hff⟩ : ∃ f, files[k]? = some f := ⟨_, List.getElem?_eq_getElem hkl⟩
      have hma := mayAt_eq hff
      ((with_reducible refine ix_map hff ?_ ?_); (focus (first | rfl | omega)); (conv => whnf))
      ((with_reducible refine draw_pl ttOk zOk foOk mixedOk pl15x5 ?_ ?_); (focus kernel_rfl); (conv => whnf))
      ((with_reducible apply rd_intro); (focus (intro K hK; (conv => whnf); first | exact hK | (intro z hz; rw [wrapI (by omega)] at hz; subst hz; exact hK))); (conv => whnf))
      ((with_reducible apply rd_intro); (focus (intro K hK; (conv => whnf); first | exact hK | (intro z hz; rw [wrapI (by omega)] at hz; subst hz; exact hK))); (conv => whnf))
      ((with_reducible refine (good_ok f.name).mono ?_); rintro _ _ ⟨rfl, rfl⟩; (conv => whnf))
      repeat' (first | ((with_reducible apply rd_intro); (focus (intro K hK; (conv => whnf); first | exact hK | (intro z hz; rw [wrapI (by omega)] at hz; subst hz; exact hK))); (conv => whnf)) | ((with_reducible apply gd_and); (focus ((conv => whnf); first | rfl | (intro K hK; (conv => whnf); first | exact hK | (intro z hz; rw [wrapI (by omega)] at hz; subst hz; exact hK)))); (conv => whnf)) | ((with_reducible apply z_wrap); (focus omega); (conv => whnf)) | ((with_reducible refine mt_dec (fun _ => ?_) (fun _ => ?_)) <;> (conv => whnf)) | ((with_reducible refine mt_eq (fun _ => ?_) (fun _ => ?_)) <;> (conv => whnf)) | ((with_reducible refine mt_ne (fun _ => ?_) (fun _ => ?_)) <;> (conv => whnf)) | ((with_reducible refine mt_not (fun _ => ?_) (fun _ => ?_)) <;> (conv => whnf)) | ((with_reducible refine mt_any (fun _ => ?_) (fun _ => ?_)) <;> (conv => whnf)))
      · exact new_bad hkl (by rw [hma]; simp [*]) rfl rfl
      · rename_i h2
        exact new_bad hkl (by rw [hma]; simp at h2; simp; omega) rfl rfl
      · obtain ⟨g, hgg⟩ : ∃ g, files[k - 1]? = some g := ⟨_, List.getElem?_eq_getElem (by omega)⟩
        rw [prevLess_eq hgg] at hma
        ((with_reducible apply rd_intro); (focus (intro K hK; (conv => whnf); exact ix_map hgg (by first | rfl | omega) hK)); (conv => whnf))
        repeat' (first | ((with_reducible apply rd_intro); (focus (intro K hK; (conv => whnf); first | exact hK | (intro z hz; rw [wrapI (by omega)] at hz; subst hz; exact hK))); (conv => whnf)) | ((with_reducible apply gd_and); (focus ((conv => whnf); first | rfl | (intro K hK; (conv => whnf); first | exact hK | (intro z hz; rw [wrapI (by omega)] at hz; subst hz; exact hK)))); (conv => whnf)) | ((with_reducible apply z_wrap); (focus omega); (conv => whnf)) | ((with_reducible refine mt_dec (fun _ => ?_) (fun _ => ?_)) <;> (conv => whnf)) | ((with_reducible refine mt_eq (fun _ => ?_) (fun _ => ?_)) <;> (conv => whnf)) | ((with_reducible refine mt_ne (fun _ => ?_) (fun _ => ?_)) <;> (conv => whnf)) | ((with_reducible refine mt_not (fun _ => ?_) (fun _ => ?_)) <;> (conv => whnf)) | ((with_reducible refine mt_any (fun _ => ?_) (fun _ => ?_)) <;> (conv => whnf)))
        · exact new_bad hkl (by rw [hma]; simp [lessS, *]; omega) rfl rfl
        · have hm2 : mayAt files k = true := by rw [hma]; simp at *; simp [lessS, *]; omega
          ((with_reducible refine draw_pl ttOk zOk foOk mixedOk pl15x7 ?_ ?_); (focus kernel_rfl); (conv => whnf))
          repeat' (first | ((with_reducible apply rd_intro); (focus (intro K hK; (conv => whnf); first | exact hK | (intro z hz; rw [wrapI (by omega)] at hz; subst hz; exact hK))); (conv => whnf)) | ((with_reducible apply gd_and); (focus ((conv => whnf); first | rfl | (intro K hK; (conv => whnf); first | exact hK | (intro z hz; rw [wrapI (by omega)] at hz; subst hz; exact hK)))); (conv => whnf)) | ((with_reducible apply z_wrap); (focus omega); (conv => whnf)) | ((with_reducible refine mt_dec (fun _ => ?_) (fun _ => ?_)) <;> (conv => whnf)) | ((with_reducible refine mt_eq (fun _ => ?_) (fun _ => ?_)) <;> (conv => whnf)) | ((with_reducible refine mt_ne (fun _ => ?_) (fun _ => ?_)) <;> (conv => whnf)) | ((with_reducible refine mt_not (fun _ => ?_) (fun _ => ?_)) <;> (conv => whnf)) | ((with_reducible refine mt_any (fun _ => ?_) (fun _ => ?_)) <;> (conv => whnf)))
          ((with_reducible refine (clone_ok f.data (hp f (List.mem_of_getElem? hff))).mono ?_); rintro _ _ ⟨rfl, rfl⟩; (conv => whnf))
          repeat' (first | ((with_reducible apply rd_intro); (focus (intro K hK; (conv => whnf); first | exact hK | (intro z hz; rw [wrapI (by omega)] at hz; subst hz; exact hK))); (conv => whnf)) | ((with_reducible apply gd_and); (focus ((conv => whnf); first | rfl | (intro K hK; (conv => whnf); first | exact hK | (intro z hz; rw [wrapI (by omega)] at hz; subst hz; exact hK)))); (conv => whnf)) | ((with_reducible apply z_wrap); (focus omega); (conv => whnf)) | ((with_reducible refine mt_dec (fun _ => ?_) (fun _ => ?_)) <;> (conv => whnf)) | ((with_reducible refine mt_eq (fun _ => ?_) (fun _ => ?_)) <;> (conv => whnf)) | ((with_reducible refine mt_ne (fun _ => ?_) (fun _ => ?_)) <;> (conv => whnf)) | ((with_reducible refine mt_not (fun _ => ?_) (fun _ => ?_)) <;> (conv => whnf)) | ((with_reducible refine mt_any (fun _ => ?_) (fun _ => ?_)) <;> (conv => whnf)))
          ((with_reducible refine (clone_ok f.data (hp f (List.mem_of_getElem? hff))).mono ?_); rintro _ _ ⟨rfl, rfl⟩; (conv => whnf))
          repeat' (first | ((with_reducible apply rd_intro); (focus (intro K hK; (conv => whnf); first | exact hK | (intro z hz; rw [wrapI (by omega)] at hz; subst hz; exact hK))); (conv => whnf)) | ((with_reducible apply gd_and); (focus ((conv => whnf); first | rfl | (intro K hK; (conv => whnf); first | exact hK | (intro z hz; rw [wrapI (by omega)] at hz; subst hz; exact hK)))); (conv => whnf)) | ((with_reducible apply z_wrap); (focus omega); (conv => whnf)) | ((with_reducible refine mt_dec (fun _ => ?_) (fun _ => ?_)) <;> (conv => whnf)) | ((with_reducible refine mt_eq (fun _ => ?_) (fun _ => ?_)) <;> (conv => whnf)) | ((with_reducible refine mt_ne (fun _ => ?_) (fun _ => ?_)) <;> (conv => whnf)) | ((with_reducible refine mt_not (fun _ => ?_) (fun _ => ?_)) <;> (conv => whnf)) | ((with_reducible refine mt_any (fun _ => ?_) (fun _ => ?_)) <;> (conv => whnf)))
          intro b
          conv => whnf
          repeat' (first | ((with_reducible apply rd_intro); (focus (intro K hK; (conv => whnf); first | exact hK | (intro z hz; rw [wrapI (by omega)] at hz; subst hz; exact hK))); (conv => whnf)) | ((with_reducible apply gd_and); (focus ((conv => whnf); first | rfl | (intro K hK; (conv => whnf); first | exact hK | (intro z hz; rw [wrapI (by omega)] at hz; subst hz; exact hK)))); (conv => whnf)) | ((with_reducible apply z_wrap); (focus omega); (conv => whnf)) | ((with_reducible refine mt_dec (fun _ => ?_) (fun _ => ?_)) <;> (conv => whnf)) | ((with_reducible refine mt_eq (fun _ => ?_) (fun _ => ?_)) <;> (conv => whnf)) | ((with_reducible refine mt_ne (fun _ => ?_) (fun _ => ?_)) <;> (conv => whnf)) | ((with_reducible refine mt_not (fun _ => ?_) (fun _ => ?_)) <;> (conv => whnf)) | ((with_reducible refine mt_any (fun _ => ?_) (fun _ => ?_)) <;> (conv => whnf)))
          refine ⟨none, 3, _, by rw [mfind_ent, new_none hf (fun i hi => by rcases Nat.lt_or_ge i k with h1 | h1; exact hm i h1; rw [show i = k by omega]; exact hm2) hff]; rfl, rfl, ?_⟩
          intro L' hL
          subst hL
          conv => whnf
          repeat' (first | ((with_reducible apply rd_intro); (focus (intro K hK; (conv => whnf); first | exact hK | (intro z hz; rw [wrapI (by omega)] at hz; subst hz; exact hK))); (conv => whnf)) | ((with_reducible apply gd_and); (focus ((conv => whnf); first | rfl | (intro K hK; (conv => whnf); first | exact hK | (intro z hz; rw [wrapI (by omega)] at hz; subst hz; exact hK)))); (conv => whnf)) | ((with_reducible apply z_wrap); (focus omega); (conv => whnf)) | ((with_reducible refine mt_dec (fun _ => ?_) (fun _ => ?_)) <;> (conv => whnf)) | ((with_reducible refine mt_eq (fun _ => ?_) (fun _ => ?_)) <;> (conv => whnf)) | ((with_reducible refine mt_ne (fun _ => ?_) (fun _ => ?_)) <;> (conv => whnf)) | ((with_reducible refine mt_not (fun _ => ?_) (fun _ => ?_)) <;> (conv => whnf)) | ((with_reducible refine mt_any (fun _ => ?_) (fun _ => ?_)) <;> (conv => whnf)))
          refine ⟨k + 1, fs ++ [⟨f.name, b, f.data, f.data⟩], rfl, ?_, ⟨by omega, fun i hi => ?_, ?_⟩, by omega⟩
          · simp [Dk.L, Fl.ent, mputAt]
          · rcases Nat.lt_or_ge i k with h1 | h1
            · exact hm i h1
            · rw [show i = k by omega]; exact hm2
          · unfold newFl at hf ⊢
            rw [List.map_append, hf, List.take_add_one, hff]
            simp
      · have hm2 : mayAt files k = true := by rw [hma]; simp at *; simp [*]; omega
        ((with_reducible refine draw_pl ttOk zOk foOk mixedOk pl15x7 ?_ ?_); (focus kernel_rfl); (conv => whnf))
        repeat' (first | ((with_reducible apply rd_intro); (focus (intro K hK; (conv => whnf); first | exact hK | (intro z hz; rw [wrapI (by omega)] at hz; subst hz; exact hK))); (conv => whnf)) | ((with_reducible apply gd_and); (focus ((conv => whnf); first | rfl | (intro K hK; (conv => whnf); first | exact hK | (intro z hz; rw [wrapI (by omega)] at hz; subst hz; exact hK)))); (conv => whnf)) | ((with_reducible apply z_wrap); (focus omega); (conv => whnf)) | ((with_reducible refine mt_dec (fun _ => ?_) (fun _ => ?_)) <;> (conv => whnf)) | ((with_reducible refine mt_eq (fun _ => ?_) (fun _ => ?_)) <;> (conv => whnf)) | ((with_reducible refine mt_ne (fun _ => ?_) (fun _ => ?_)) <;> (conv => whnf)) | ((with_reducible refine mt_not (fun _ => ?_) (fun _ => ?_)) <;> (conv => whnf)) | ((with_reducible refine mt_any (fun _ => ?_) (fun _ => ?_)) <;> (conv => whnf)))
        ((with_reducible refine (clone_ok f.data (hp f (List.mem_of_getElem? hff))).mono ?_); rintro _ _ ⟨rfl, rfl⟩; (conv => whnf))
        repeat' (first | ((with_reducible apply rd_intro); (focus (intro K hK; (conv => whnf); first | exact hK | (intro z hz; rw [wrapI (by omega)] at hz; subst hz; exact hK))); (conv => whnf)) | ((with_reducible apply gd_and); (focus ((conv => whnf); first | rfl | (intro K hK; (conv => whnf); first | exact hK | (intro z hz; rw [wrapI (by omega)] at hz; subst hz; exact hK)))); (conv => whnf)) | ((with_reducible apply z_wrap); (focus omega); (conv => whnf)) | ((with_reducible refine mt_dec (fun _ => ?_) (fun _ => ?_)) <;> (conv => whnf)) | ((with_reducible refine mt_eq (fun _ => ?_) (fun _ => ?_)) <;> (conv => whnf)) | ((with_reducible refine mt_ne (fun _ => ?_) (fun _ => ?_)) <;> (conv => whnf)) | ((with_reducible refine mt_not (fun _ => ?_) (fun _ => ?_)) <;> (conv => whnf)) | ((with_reducible refine mt_any (fun _ => ?_) (fun _ => ?_)) <;> (conv => whnf)))
        ((with_reducible refine (clone_ok f.data (hp f (List.mem_of_getElem? hff))).mono ?_); rintro _ _ ⟨rfl, rfl⟩; (conv => whnf))
        repeat' (first | ((with_reducible apply rd_intro); (focus (intro K hK; (conv => whnf); first | exact hK | (intro z hz; rw [wrapI (by omega)] at hz; subst hz; exact hK))); (conv => whnf)) | ((with_reducible apply gd_and); (focus ((conv => whnf); first | rfl | (intro K hK; (conv => whnf); first | exact hK | (intro z hz; rw [wrapI (by omega)] at hz; subst hz; exact hK)))); (conv => whnf)) | ((with_reducible apply z_wrap); (focus omega); (conv => whnf)) | ((with_reducible refine mt_dec (fun _ => ?_) (fun _ => ?_)) <;> (conv => whnf)) | ((with_reducible refine mt_eq (fun _ => ?_) (fun _ => ?_)) <;> (conv => whnf)) | ((with_reducible refine mt_ne (fun _ => ?_) (fun _ => ?_)) <;> (conv => whnf)) | ((with_reducible refine mt_not (fun _ => ?_) (fun _ => ?_)) <;> (conv => whnf)) | ((with_reducible refine mt_any (fun _ => ?_) (fun _ => ?_)) <;> (conv => whnf)))
        intro b
        conv => whnf
        repeat' (first | ((with_reducible apply rd_intro); (focus (intro K hK; (conv => whnf); first | exact hK | (intro z hz; rw [wrapI (by omega)] at hz; subst hz; exact hK))); (conv => whnf)) | ((with_reducible apply gd_and); (focus ((conv => whnf); first | rfl | (intro K hK; (conv => whnf); first | exact hK | (intro z hz; rw [wrapI (by omega)] at hz; subst hz; exact hK)))); (conv => whnf)) | ((with_reducible apply z_wrap); (focus omega); (conv => whnf)) | ((with_reducible refine mt_dec (fun _ => ?_) (fun _ => ?_)) <;> (conv => whnf)) | ((with_reducible refine mt_eq (fun _ => ?_) (fun _ => ?_)) <;> (conv => whnf)) | ((with_reducible refine mt_ne (fun _ => ?_) (fun _ => ?_)) <;> (conv => whnf)) | ((with_reducible refine mt_not (fun _ => ?_) (fun _ => ?_)) <;> (conv => whnf)) | ((with_reducible refine mt_any (fun _ => ?_) (fun _ => ?_)) <;> (conv => whnf)))
        refine ⟨none, 3, _, by rw [mfind_ent, new_none hf (fun i hi => by rcases Nat.lt_or_ge i k with h1 | h1; exact hm i h1; rw [show i = k by omega]; exact hm2) hff]; rfl, rfl, ?_⟩
        intro L' hL
        subst hL
        conv => whnf
        repeat' (first | ((with_reducible apply rd_intro); (focus (intro K hK; (conv => whnf); first | exact hK | (intro z hz; rw [wrapI (by omega)] at hz; subst hz; exact hK))); (conv => whnf)) | ((with_reducible apply gd_and); (focus ((conv => whnf); first | rfl | (intro K hK; (conv => whnf); first | exact hK | (intro z hz; rw [wrapI (by omega)] at hz; subst hz; exact hK)))); (conv => whnf)) | ((with_reducible apply z_wrap); (focus omega); (conv => whnf)) | ((with_reducible refine mt_dec (fun _ => ?_) (fun _ => ?_)) <;> (conv => whnf)) | ((with_reducible refine mt_eq (fun _ => ?_) (fun _ => ?_)) <;> (conv => whnf)) | ((with_reducible refine mt_ne (fun _ => ?_) (fun _ => ?_)) <;> (conv => whnf)) | ((with_reducible refine mt_not (fun _ => ?_) (fun _ => ?_)) <;> (conv => whnf)) | ((with_reducible refine mt_any (fun _ => ?_) (fun _ => ?_)) <;> (conv => whnf)))
        refine ⟨k + 1, fs ++ [⟨f.name, b, f.data, f.data⟩], rfl, ?_, ⟨by omega, fun i hi => ?_, ?_⟩, by omega⟩
        · simp [Dk.L, Fl.ent, mputAt]
        · rcases Nat.lt_or_ge i k with h1 | h1
          · exact hm i h1
          · rw [show i = k by omega]; exact hm2
        · unfold newFl at hf ⊢
          rw [List.map_append, hf, List.take_add_one, hff]
          simp
    · conv => whnf
      refine sp_dec (fun h16 => ?_) (fun h16 => ?_)
      · conv => whnf
        have : mayNew files = false := by unfold mayNew; simp at h16; rw [decide_eq_false (show ¬ files.length ≤ 16 by omega)]; simp
        exact ⟨fun h => by (rw [this] at h; cases h), fun _ => ⟨rfl, rfl⟩⟩
      · conv => whnf
        obtain rfl : k = files.length := by omega
        have : mayNew files = true := by
          unfold mayNew
          simp only [List.length_map] at h16
          rw [decide_eq_true (show files.length ≤ 16 by omega), Bool.and_true, List.all_eq_true]
          intro i hi
          exact hm i (by simpa using hi)
        refine ⟨fun _ => ⟨rfl, fs, rfl, by simpa using hf⟩, fun h => by (rw [this] at h; cases h)⟩
end Go.Proofs.Ytpedbknmkgcldaa

namespace Go.Proofs.Ytpedbknmkgcldaa
open Go.Ab Go.RowKit
attribute [local irreducible] ACalls AW ADraw Into
theorem num9_ok (n : Int) : ACalls Try.prog 16 [.d (.int .i64 n)] [] (fun av L => av = .d (.int .i64 n) ∧ L = []) := by
  refine acalls_go ttOk zOk foOk Try.func16 rfl Try.ntmps16 rfl false rfl ?_
  conv => whnf
  exact ⟨rfl, rfl⟩
end Go.Proofs.Ytpedbknmkgcldaa

namespace Go.Proofs.Ytpedbknmkgcldaa
open Go.Ab Go.RowKit Go.MapKept
attribute [local irreducible] ACalls AW ADraw Into
set_option maxRecDepth 100000
theorem new_nil : mayNew [] = true := by decide
theorem wakes9_ok : ACalls Try.prog 20 [] [] (fun av L => av = .d (.bool true) ∧ L = []) := by
  refine acalls_go ttOk zOk foOk Try.func20 rfl Try.ntmps20 rfl false rfl ?_
  conv => whnf
  refine (new_ok [] (by simp) (by simp)).mono ?_
  rintro _ _ ⟨h, _⟩
  obtain ⟨rfl, fs, rfl, hfs⟩ := h new_nil
  have : fs = [] := by simpa [newFl] using hfs
  subst this
  conv => whnf
  clear h hfs
  ((with_reducible refine (num9_ok 0).mono ?_); rintro _ _ ⟨rfl, rfl⟩; (conv => whnf))
  repeat' (first | ((with_reducible apply z_wrap); (focus omega); (conv => whnf)) | ((with_reducible refine mt_dec (fun _ => ?_) (fun _ => ?_)) <;> (conv => whnf)) | ((with_reducible refine mt_eq (fun _ => ?_) (fun _ => ?_)) <;> (conv => whnf)) | ((with_reducible refine mt_ne (fun _ => ?_) (fun _ => ?_)) <;> (conv => whnf)) | ((with_reducible refine mt_not (fun _ => ?_) (fun _ => ?_)) <;> (conv => whnf)) | ((with_reducible refine mt_any (fun _ => ?_) (fun _ => ?_)) <;> (conv => whnf)))
  refine ⟨by simp, ?_⟩
  conv => whnf
  repeat' (first | ((with_reducible apply z_wrap); (focus omega); (conv => whnf)) | ((with_reducible refine mt_dec (fun _ => ?_) (fun _ => ?_)) <;> (conv => whnf)) | ((with_reducible refine mt_eq (fun _ => ?_) (fun _ => ?_)) <;> (conv => whnf)) | ((with_reducible refine mt_ne (fun _ => ?_) (fun _ => ?_)) <;> (conv => whnf)) | ((with_reducible refine mt_not (fun _ => ?_) (fun _ => ?_)) <;> (conv => whnf)) | ((with_reducible refine mt_any (fun _ => ?_) (fun _ => ?_)) <;> (conv => whnf)))
  refine (append_ok (Dk.mk 0 false 0 []) ⟨by simp [Dk.dat]⟩ ⟨#[97]⟩ [97, 98, 99] (by simp)).mono ?_
  rintro _ _ ⟨d', rfl, rfl, hd'⟩
  rw [show (Dk.mk 0 false 0 []).dat.append ⟨#[97]⟩ [97, 98, 99] = (0, ⟨1, false, 0, [⟨⟨#[97]⟩, [], [97, 98, 99]⟩]⟩) by rfl] at hd' ⊢
  conv => whnf
  ((with_reducible refine (num9_ok 0).mono ?_); rintro _ _ ⟨rfl, rfl⟩; (conv => whnf))
  repeat' (first | ((with_reducible apply z_wrap); (focus omega); (conv => whnf)) | ((with_reducible refine mt_dec (fun _ => ?_) (fun _ => ?_)) <;> (conv => whnf)) | ((with_reducible refine mt_eq (fun _ => ?_) (fun _ => ?_)) <;> (conv => whnf)) | ((with_reducible refine mt_ne (fun _ => ?_) (fun _ => ?_)) <;> (conv => whnf)) | ((with_reducible refine mt_not (fun _ => ?_) (fun _ => ?_)) <;> (conv => whnf)) | ((with_reducible refine mt_any (fun _ => ?_) (fun _ => ?_)) <;> (conv => whnf)))
  have hrd : d'.dat.read ⟨#[97]⟩ = ([97, 98, 99], 0) := by rw [hd']; rfl
  refine (read_ok d' (by rw [hd']; exact ⟨by simp⟩) ⟨#[97]⟩).mono ?_
  rintro _ _ ⟨rfl, rfl⟩
  rw [hrd]
  conv => whnf
  ((with_reducible refine (num9_ok 0).mono ?_); rintro _ _ ⟨rfl, rfl⟩; (conv => whnf))
  repeat' (first | ((with_reducible apply z_wrap); (focus omega); (conv => whnf)) | ((with_reducible refine mt_dec (fun _ => ?_) (fun _ => ?_)) <;> (conv => whnf)) | ((with_reducible refine mt_eq (fun _ => ?_) (fun _ => ?_)) <;> (conv => whnf)) | ((with_reducible refine mt_ne (fun _ => ?_) (fun _ => ?_)) <;> (conv => whnf)) | ((with_reducible refine mt_not (fun _ => ?_) (fun _ => ?_)) <;> (conv => whnf)) | ((with_reducible refine mt_any (fun _ => ?_) (fun _ => ?_)) <;> (conv => whnf)))
  refine ⟨by simp, ?_⟩
  conv => whnf
  repeat' (first | ((with_reducible apply z_wrap); (focus omega); (conv => whnf)) | ((with_reducible refine mt_dec (fun _ => ?_) (fun _ => ?_)) <;> (conv => whnf)) | ((with_reducible refine mt_eq (fun _ => ?_) (fun _ => ?_)) <;> (conv => whnf)) | ((with_reducible refine mt_ne (fun _ => ?_) (fun _ => ?_)) <;> (conv => whnf)) | ((with_reducible refine mt_not (fun _ => ?_) (fun _ => ?_)) <;> (conv => whnf)) | ((with_reducible refine mt_any (fun _ => ?_) (fun _ => ?_)) <;> (conv => whnf)))
  refine (eqBytes_ok [97, 98, 99] [97, 98, 99] (by simp)).mono ?_
  rintro _ _ ⟨rfl, rfl⟩
  conv => whnf
  exact ⟨rfl, rfl⟩
end Go.Proofs.Ytpedbknmkgcldaa

namespace Go.Proofs.Ytpedbknmkgcldaa
open Go.Ab Go.RowKit Go.MapKept
attribute [local irreducible] ACalls AW ADraw Into
set_option maxRecDepth 100000
def newDk : Dk := ⟨0, false, 0, []⟩
theorem disk10_ok : ACalls Try.prog 40 [] [] (fun av L => av = .ptr 0 0 ∧ L = newDk.L) := by
  refine acalls_go ttOk zOk foOk Try.func40 rfl Try.ntmps40 rfl false rfl ?_
  conv => whnf
  refine (new_ok [] (by simp) (by simp)).mono ?_
  rintro _ _ ⟨h, _⟩
  obtain ⟨rfl, fs, rfl, hfs⟩ := h new_nil
  have : fs = [] := by simpa [newFl] using hfs
  subst this
  conv => whnf
  clear h hfs
  ((with_reducible refine (num10_ok 0).mono ?_); rintro _ _ ⟨rfl, rfl⟩; (conv => whnf))
  repeat' (first | ((with_reducible apply z_wrap); (focus omega); (conv => whnf)) | ((with_reducible refine mt_dec (fun _ => ?_) (fun _ => ?_)) <;> (conv => whnf)) | ((with_reducible refine mt_eq (fun _ => ?_) (fun _ => ?_)) <;> (conv => whnf)) | ((with_reducible refine mt_ne (fun _ => ?_) (fun _ => ?_)) <;> (conv => whnf)) | ((with_reducible refine mt_not (fun _ => ?_) (fun _ => ?_)) <;> (conv => whnf)) | ((with_reducible refine mt_any (fun _ => ?_) (fun _ => ?_)) <;> (conv => whnf)))
  exact ⟨rfl, rfl⟩
end Go.Proofs.Ytpedbknmkgcldaa

namespace Go.Proofs.Ytpedbknmkgcldaa
open Go.Ab Go.RowKit Go.MapKept
attribute [local irreducible] ACalls AW ADraw Into
set_option maxRecDepth 100000
/-! ## the calls of a log on a disk with power -/
theorem LS.pre {l : Lg} {x : LS} (hx : x.ok) (hl : l.dat = x.l) : l.d.dat.fine ∧ (0 ≤ l.size ∧ l.size ≤ 524288) ∧ l.recs.length ≤ 100000 ∧ l.recs = x.recs := by
  have e1 : l.d.dat = x.l.d := by rw [← hl]; rfl
  have e2 : l.size = wsum x.recs := by
    have : l.size = l.dat.size := rfl
    rw [this, hl]; rfl
  have e3 : l.recs = x.recs := by
    have : l.recs = l.dat.recs := rfl
    rw [this, hl]; rfl
  have h1 := wsum_nonneg x.recs
  have h2 := hx.sum
  have h3 := hx.recs
  rw [e1, e2, e3]
  exact ⟨hx.fine, ⟨h1, h2⟩, by omega, rfl⟩
theorem append_good (l : Lg) {x : LS} (hx : x.ok) (hl : l.dat = x.l) (s : ByteArray) (h1 : s.size ≤ 4096) (h2 : (s.size : Int) + 16 ≤ 524288 - wsum x.recs) : ACalls Try.prog 42 [.ptr 0 0, .d (.str s)] l.L (fun av L => ∃ l' : Lg, av = .d (.int .i64 0) ∧ L = l'.L1 ∧ l'.dat = (x.put s).l) := by
  obtain ⟨p1, p2, p3, p4⟩ := LS.pre hx hl
  refine (lappend_ok l p1.ok p2 p3 s (by omega)).mono ?_
  rintro _ _ ⟨l', rfl, rfl, hl'⟩
  rw [hl, LS.append hx h1 h2] at hl' ⊢
  exact ⟨l', rfl, rfl, hl'⟩
theorem append_long (l : Lg) {x : LS} (hx : x.ok) (hl : l.dat = x.l) (s : ByteArray) (h1 : s.size > 4096) (hs : s.size ≤ 100000000) : ACalls Try.prog 42 [.ptr 0 0, .d (.str s)] l.L (fun av L => ∃ l' : Lg, av = .d (.int .i64 1) ∧ L = l'.L ∧ l'.dat = x.l) := by
  obtain ⟨p1, p2, p3, p4⟩ := LS.pre hx hl
  refine (lappend_ok l p1.ok p2 p3 s hs).mono ?_
  rintro _ _ ⟨l', rfl, rfl, hl'⟩
  rw [hl, lapp_long (l := x.l) rfl h1] at hl' ⊢
  exact ⟨l', rfl, rfl, hl'⟩
theorem append_full (l : Lg) {x : LS} (hx : x.ok) (hl : l.dat = x.l) (s : ByteArray) (h1 : s.size ≤ 4096) (h2 : (s.size : Int) + 16 > 524288 - wsum x.recs) : ACalls Try.prog 42 [.ptr 0 0, .d (.str s)] l.L (fun av L => ∃ l' : Lg, av = .d (.int .i64 8) ∧ L = l'.L ∧ l'.dat = x.l) := by
  obtain ⟨p1, p2, p3, p4⟩ := LS.pre hx hl
  refine (lappend_ok l p1.ok p2 p3 s (by omega)).mono ?_
  rintro _ _ ⟨l', rfl, rfl, hl'⟩
  rw [hl, lapp_full (l := x.l) rfl (by omega) h2] at hl' ⊢
  exact ⟨l', rfl, rfl, hl'⟩
theorem reset_bad (l : Lg) {x : LS} (hx : x.ok) (hl : l.dat = x.l) (s : List ByteArray) (ssh : Bool) (hs : s.length ≤ 100000) (h : (counted s).2 ≠ 0) : ACalls Try.prog 44 [.ptr 0 0, .arr 1] (l.R s ssh) (fun av L => ∃ l' : Lg, av = .d (.int .i64 (counted s).2) ∧ L = l'.R s ssh ∧ l'.dat = x.l) := by
  obtain ⟨p1, p2, p3, p4⟩ := LS.pre hx hl
  refine (reset_ok l p1 s ssh hs).mono ?_
  rintro _ _ ⟨l', rfl, rfl, hl'⟩
  rw [hl, show x.l.reset s = ((counted s).2, x.l) by (have : x.l.dead = false := rfl); simp [LD.reset, this, h]] at hl' ⊢
  exact ⟨l', rfl, if_neg h, hl'⟩
theorem reset_good (l : Lg) {x : LS} (hx : x.ok) (hl : l.dat = x.l) (s : List ByteArray) (ssh : Bool) (hs : s.length ≤ 100000) (h : (counted s).2 = 0) : ACalls Try.prog 44 [.ptr 0 0, .arr 1] (l.R s ssh) (fun av L => ∃ l' : Lg, av = .d (.int .i64 0) ∧ L = l'.R1 s ssh l.recs l.sh ∧ l'.dat = (x.laid s).l) := by
  obtain ⟨p1, p2, p3, p4⟩ := LS.pre hx hl
  refine (reset_ok l p1 s ssh hs).mono ?_
  rintro _ _ ⟨l', rfl, rfl, hl'⟩
  rw [hl, LS.reset hx h] at hl' ⊢
  exact ⟨l', rfl, rfl, hl'⟩
theorem sync_good (l : Lg) {x : LS} (hx : x.ok) (hl : l.dat = x.l) : ACalls Try.prog 52 [.ptr 0 0] l.L (fun av L => ∃ l' : Lg, av = .d (.int .i64 0) ∧ L = l'.L ∧ l'.dat = if x.file = true then x.synced.l else x.l) := by
  obtain ⟨p1, p2, p3, p4⟩ := LS.pre hx hl
  refine (lsync_ok l p1).mono ?_
  rintro _ _ ⟨l', rfl, rfl, hl'⟩
  rw [hl, LS.sync hx] at hl' ⊢
  exact ⟨l', rfl, rfl, hl'⟩
def LS0 : LS := ⟨0, [], false, []⟩
theorem LS0_ok : LS0.ok := ⟨fun _ => ⟨rfl, rfl⟩, by decide, by simp [LS0], by simp [LS0]⟩
theorem new_fine : newDk.dat.fine := ⟨⟨by simp [newDk, Dk.dat]⟩, by simp [newDk, Dk.dat], by simp [newDk, Dk.dat], by simp [newDk, Dk.dat]⟩
theorem open_good : ACalls Try.prog 39 [.ptr 0 0] newDk.L (fun av L => av = .tup [.ptr 2 0, .d (.int .i64 0)] ∧ ∃ l : Lg, L = l.O ∧ l.dat = LS0.l) := by
  refine (open_new newDk new_fine.ok rfl rfl).mono ?_
  rintro _ _ ⟨rfl, l, rfl, hl⟩
  exact ⟨rfl, l, rfl, hl⟩
end Go.Proofs.Ytpedbknmkgcldaa

namespace Go.Proofs.Ytpedbknmkgcldaa
open Go.Ab Go.RowKit
/-! ## a store's pairs -/
def findP (k : ByteArray) : List (ByteArray × ByteArray) → Nat → Option (Nat × ByteArray)
  | [], _ => none
  | p :: r, j => if k == p.1 then some (j, p.2) else findP k r (j + 1)
def pe (p : ByteArray × ByteArray) : KV × MV := (.one (.str p.1), .v (.one (.str p.2)))
theorem mfind_p (k : ByteArray) : ∀ (ps : List (ByteArray × ByteArray)) (j : Nat), mfind (.one (.str k)) (ps.map pe) j = some ((findP k ps j).map fun p => (p.1, .v (.one (.str p.2))))
  | [], j => rfl
  | p :: r, j => by
    simp only [List.map_cons, pe, mfind, keqM, findP]
    cases h : k == p.1 with
    | true => rfl
    | false => exact mfind_p k r (j + 1)
def getP (k : ByteArray) : List (ByteArray × ByteArray) → Option ByteArray
  | [] => none
  | p :: r => if k = p.1 then some p.2 else getP k r
def delP (k : ByteArray) : List (ByteArray × ByteArray) → List (ByteArray × ByteArray)
  | [] => []
  | p :: r => if k = p.1 then r else p :: delP k r
def setP (k v : ByteArray) (ps : List (ByteArray × ByteArray)) : List (ByteArray × ByteArray) := delP k ps ++ [(k, v)]
def psum : List (ByteArray × ByteArray) → Int
  | [] => 0
  | p :: r => p.1.size + p.2.size + 64 + psum r
theorem psum_app (a b : List (ByteArray × ByteArray)) : psum (a ++ b) = psum a + psum b := by
  induction a with
  | nil => simp [psum]
  | cons x r ih => simp only [List.cons_append, psum, ih]; omega
theorem psum_nonneg (a : List (ByteArray × ByteArray)) : 0 ≤ psum a := by
  induction a with
  | nil => simp [psum]
  | cons x r ih => simp only [psum]; omega
theorem psum_len (a : List (ByteArray × ByteArray)) : 64 * (a.length : Int) ≤ psum a := by
  induction a with
  | nil => simp [psum]
  | cons x r ih => simp only [psum, List.length_cons]; omega
theorem findP_none {k : ByteArray} : ∀ {ps : List (ByteArray × ByteArray)} {j : Nat}, findP k ps j = none → getP k ps = none ∧ delP k ps = ps
  | [], _, _ => ⟨rfl, rfl⟩
  | p :: r, j, h => by
    simp only [findP, ba_beq] at h
    by_cases e : k = p.1
    · rw [decide_eq_true e] at h; cases h
    · rw [decide_eq_false e] at h
      obtain ⟨h1, h2⟩ := findP_none (ps := r) h
      exact ⟨by simp only [getP, if_neg e, h1], by simp only [delP, if_neg e, h2]⟩
theorem findP_some {k v : ByteArray} : ∀ {ps : List (ByteArray × ByteArray)} {j i : Nat}, findP k ps j = some (i, v) → j ≤ i ∧ getP k ps = some v ∧ ps.eraseIdx (i - j) = delP k ps ∧ psum (delP k ps) = psum ps - (k.size + v.size + 64) ∧ (delP k ps).length + 1 = ps.length
  | [], _, _, h => by simp [findP] at h
  | p :: r, j, i, h => by
    simp only [findP, ba_beq] at h
    by_cases e : k = p.1
    · rw [decide_eq_true e] at h
      simp at h
      obtain ⟨rfl, rfl⟩ := h
      refine ⟨Nat.le_refl _, by simp [getP, e], by simp [delP, e], ?_, by simp [delP, e]⟩
      rw [show delP k (p :: r) = r by simp [delP, e], e]
      simp only [psum]
      omega
    · rw [decide_eq_false e] at h
      obtain ⟨h1, h2, h3, h4, h5⟩ := findP_some (ps := r) h
      have hi : i - j = (i - (j + 1)) + 1 := by omega
      refine ⟨by omega, by simp only [getP, if_neg e, h2], by rw [hi]; simp only [delP, if_neg e, List.eraseIdx_cons_succ, h3], ?_, ?_⟩
      · simp only [delP, if_neg e, psum, h4]; omega
      · simp only [delP, if_neg e, List.length_cons, h5]
theorem del_psum (k : ByteArray) (ps : List (ByteArray × ByteArray)) : psum (delP k ps) ≤ psum ps := by
  cases h : findP k ps 0 with
  | none => rw [(findP_none h).2]; omega
  | some p => obtain ⟨i, v⟩ := p; have := (findP_some h).2.2.2.1; omega
/-- the program's store -/
structure Kp where
  l : Lg
  ps : List (ByteArray × ByteArray)
  dead : Bool
def Kc (l : Lg) (ps : List (ByteArray × ByteArray)) (dead : Bool) : List AB := [.cells [.ptr 1 0, .map 2, .d (.int .i64 (psum ps)), .d (.bool dead)], .cells (.ptr 3 0 :: .arr 4 :: l.tail), .map (ps.map pe), .cells [.d (.int .i64 l.d.calls), .d (.bool l.d.off), .d (.int .i64 l.d.upto), .map 5], .row 9 1 (strs l.recs) l.sh, .map (l.d.fs.map Fl.ent)]
/-- .. with another row of records -/
def Kc1 (l : Lg) (ps : List (ByteArray × ByteArray)) (dead : Bool) : List AB := [.cells [.ptr 1 0, .map 2, .d (.int .i64 (psum ps)), .d (.bool dead)], .cells (.ptr 3 0 :: .arr 6 :: l.tail), .map (ps.map pe), .cells [.d (.int .i64 l.d.calls), .d (.bool l.d.off), .d (.int .i64 l.d.upto), .map 5], .dead, .map (l.d.fs.map Fl.ent), .row 9 1 (strs l.recs) l.sh]
def Kp.K (k : Kp) : List AB := Kc k.l k.ps k.dead
def Kp.K1 (k : Kp) : List AB := Kc1 k.l k.ps k.dead
def recK (kind k v : ByteArray) : ByteArray := ((kind ++ ⟨#[UInt8.ofNat k.size]⟩) ++ k) ++ v
theorem rec_size (kind k v : ByteArray) : (recK kind k v).size = kind.size + 1 + k.size + v.size := by
  unfold recK
  simp only [ByteArray.size_append]
  rfl
def kP : ByteArray := ⟨#[112]⟩
def kD : ByteArray := ⟨#[100]⟩
def goodK (k : ByteArray) : Bool := decide (0 < k.size) && decide (k.size ≤ 32)
end Go.Proofs.Ytpedbknmkgcldaa

namespace Go.Proofs.Ytpedbknmkgcldaa
open Go.Ab Go.RowKit Go.MapKept
attribute [local irreducible] ACalls AW ADraw Into
set_option maxRecDepth 100000
theorem record_ok (kind k v : ByteArray) (h0 : kind.size ≤ 1000) (h1 : k.size ≤ 255) (h2 : v.size ≤ 1000000) : ACalls Try.prog 118 [.d (.str kind), .d (.str k), .d (.str v)] [] (fun av L => av = .d (.str (recK kind k v)) ∧ L = []) := by
  have hm : IntKind.i64.max = 9223372036854775807 := by decide
  refine acalls_go ttOk zOk foOk Try.func118 rfl Try.ntmps118 rfl false rfl ?_
  conv => whnf
  repeat' (first | ((with_reducible apply z_wrap); (focus omega); (conv => whnf)) | ((with_reducible refine mt_dec (fun _ => ?_) (fun _ => ?_)) <;> (conv => whnf)) | ((with_reducible refine mt_eq (fun _ => ?_) (fun _ => ?_)) <;> (conv => whnf)) | ((with_reducible refine mt_ne (fun _ => ?_) (fun _ => ?_)) <;> (conv => whnf)) | ((with_reducible refine mt_not (fun _ => ?_) (fun _ => ?_)) <;> (conv => whnf)) | ((with_reducible refine mt_any (fun _ => ?_) (fun _ => ?_)) <;> (conv => whnf)))
  intro z hz
  obtain rfl : z = ((UInt8.ofNat k.size).toNat : Int) := by rw [hz, wrap_u8]; simp
  clear hz
  conv => whnf
  repeat' (first | ((with_reducible apply z_wrap); (focus omega); (conv => whnf)) | ((with_reducible refine mt_dec (fun _ => ?_) (fun _ => ?_)) <;> (conv => whnf)) | ((with_reducible refine mt_eq (fun _ => ?_) (fun _ => ?_)) <;> (conv => whnf)) | ((with_reducible refine mt_ne (fun _ => ?_) (fun _ => ?_)) <;> (conv => whnf)) | ((with_reducible refine mt_not (fun _ => ?_) (fun _ => ?_)) <;> (conv => whnf)) | ((with_reducible refine mt_any (fun _ => ?_) (fun _ => ?_)) <;> (conv => whnf)))
  refine ⟨[UInt8.ofNat k.size], rfl, ?_⟩
  obtain ⟨x, hx⟩ : ∃ x : ByteArray, ByteArray.mk [UInt8.ofNat k.size].toArray = x := ⟨_, rfl⟩
  have hxs : x.size = 1 := by rw [← hx]; rfl
  conv => whnf
  rw [hx]
  repeat' (first | ((with_reducible apply z_wrap); (focus omega); (conv => whnf)) | ((with_reducible refine mt_dec (fun _ => ?_) (fun _ => ?_)) <;> (conv => whnf)) | ((with_reducible refine mt_eq (fun _ => ?_) (fun _ => ?_)) <;> (conv => whnf)) | ((with_reducible refine mt_ne (fun _ => ?_) (fun _ => ?_)) <;> (conv => whnf)) | ((with_reducible refine mt_not (fun _ => ?_) (fun _ => ?_)) <;> (conv => whnf)) | ((with_reducible refine mt_any (fun _ => ?_) (fun _ => ?_)) <;> (conv => whnf)))
  refine ⟨by rw [hm]; omega, ?_⟩
  conv => whnf
  repeat' (first | ((with_reducible apply z_wrap); (focus omega); (conv => whnf)) | ((with_reducible refine mt_dec (fun _ => ?_) (fun _ => ?_)) <;> (conv => whnf)) | ((with_reducible refine mt_eq (fun _ => ?_) (fun _ => ?_)) <;> (conv => whnf)) | ((with_reducible refine mt_ne (fun _ => ?_) (fun _ => ?_)) <;> (conv => whnf)) | ((with_reducible refine mt_not (fun _ => ?_) (fun _ => ?_)) <;> (conv => whnf)) | ((with_reducible refine mt_any (fun _ => ?_) (fun _ => ?_)) <;> (conv => whnf)))
  refine ⟨by rw [hm, ByteArray.size_append]; omega, ?_⟩
  conv => whnf
  repeat' (first | ((with_reducible apply z_wrap); (focus omega); (conv => whnf)) | ((with_reducible refine mt_dec (fun _ => ?_) (fun _ => ?_)) <;> (conv => whnf)) | ((with_reducible refine mt_eq (fun _ => ?_) (fun _ => ?_)) <;> (conv => whnf)) | ((with_reducible refine mt_ne (fun _ => ?_) (fun _ => ?_)) <;> (conv => whnf)) | ((with_reducible refine mt_not (fun _ => ?_) (fun _ => ?_)) <;> (conv => whnf)) | ((with_reducible refine mt_any (fun _ => ?_) (fun _ => ?_)) <;> (conv => whnf)))
  refine ⟨by rw [hm, ByteArray.size_append, ByteArray.size_append]; omega, ?_⟩
  conv => whnf
  repeat' (first | ((with_reducible apply z_wrap); (focus omega); (conv => whnf)) | ((with_reducible refine mt_dec (fun _ => ?_) (fun _ => ?_)) <;> (conv => whnf)) | ((with_reducible refine mt_eq (fun _ => ?_) (fun _ => ?_)) <;> (conv => whnf)) | ((with_reducible refine mt_ne (fun _ => ?_) (fun _ => ?_)) <;> (conv => whnf)) | ((with_reducible refine mt_not (fun _ => ?_) (fun _ => ?_)) <;> (conv => whnf)) | ((with_reducible refine mt_any (fun _ => ?_) (fun _ => ?_)) <;> (conv => whnf)))
  rw [← hx]
  exact ⟨rfl, rfl⟩
end Go.Proofs.Ytpedbknmkgcldaa

namespace Go.Proofs.Ytpedbknmkgcldaa
open Go.Ab Go.RowKit Go.MapKept
attribute [local irreducible] ACalls AW ADraw Into
set_option maxRecDepth 100000
theorem mf_none {k : ByteArray} {ps : List (ByteArray × ByteArray)} (h : findP k ps 0 = none) : mfind (.one (.str k)) (ps.map pe) 0 = some none := by rw [mfind_p, h]; rfl
theorem mf_some {k v : ByteArray} {i : Nat} {ps : List (ByteArray × ByteArray)} (h : findP k ps 0 = some (i, v)) : mfind (.one (.str k)) (ps.map pe) 0 = some (some (i, .v (.one (.str v)))) := by rw [mfind_p, h]; rfl
theorem eraseP_map {α β : Type} (f : α → β) : ∀ (l : List α) (i : Nat), (l.map f).eraseIdx i = (l.eraseIdx i).map f
  | [], i => by simp
  | x :: r, 0 => rfl
  | x :: r, i + 1 => by simp only [List.map_cons, List.eraseIdx_cons_succ, eraseP_map f r i]
theorem del_none {k : ByteArray} : ∀ {ps : List (ByteArray × ByteArray)}, (ps.map (·.1)).Nodup → ∀ j, findP k (delP k ps) j = none
  | [], _, _ => rfl
  | p :: r, hn, j => by
    simp only [List.map_cons, List.nodup_cons] at hn
    simp only [delP]
    by_cases e : k = p.1
    · rw [if_pos e]
      have : ∀ (l : List (ByteArray × ByteArray)) (j : Nat), k ∉ l.map (·.1) → findP k l j = none := by
        intro l
        induction l with
        | nil => intro j _; rfl
        | cons q l ih =>
          intro j h
          simp only [List.map_cons, List.mem_cons, not_or] at h
          simp only [findP, ba_beq, decide_eq_false h.1]
          exact ih _ h.2
      exact this r j (by rw [e]; exact hn.1)
    · rw [if_neg e]
      simp only [findP, ba_beq, decide_eq_false e]
      exact del_none hn.2 _
theorem unset_ok (k : Kp) (hp : psum k.ps ≤ 1000000000) (key : ByteArray) : ACalls Try.prog 100 [.ptr 0 0, .d (.str key)] k.K (fun av L => av = .tup [] ∧ L = Kp.K { k with ps := delP key k.ps }) := by
  have h0 := psum_nonneg k.ps
  refine acalls_go ttOk zOk foOk Try.func100 rfl Try.ntmps100 rfl false rfl ?_
  conv => whnf
  repeat' (first | ((with_reducible apply z_wrap); (focus omega); (conv => whnf)) | ((with_reducible refine mt_dec (fun _ => ?_) (fun _ => ?_)) <;> (conv => whnf)) | ((with_reducible refine mt_eq (fun _ => ?_) (fun _ => ?_)) <;> (conv => whnf)) | ((with_reducible refine mt_ne (fun _ => ?_) (fun _ => ?_)) <;> (conv => whnf)) | ((with_reducible refine mt_not (fun _ => ?_) (fun _ => ?_)) <;> (conv => whnf)) | ((with_reducible refine mt_any (fun _ => ?_) (fun _ => ?_)) <;> (conv => whnf)))
  cases hf : findP key k.ps 0 with
  | none =>
    refine ⟨_, mf_none hf, ?_⟩
    conv => whnf
    repeat' (first | ((with_reducible apply z_wrap); (focus omega); (conv => whnf)) | ((with_reducible refine mt_dec (fun _ => ?_) (fun _ => ?_)) <;> (conv => whnf)) | ((with_reducible refine mt_eq (fun _ => ?_) (fun _ => ?_)) <;> (conv => whnf)) | ((with_reducible refine mt_ne (fun _ => ?_) (fun _ => ?_)) <;> (conv => whnf)) | ((with_reducible refine mt_not (fun _ => ?_) (fun _ => ?_)) <;> (conv => whnf)) | ((with_reducible refine mt_any (fun _ => ?_) (fun _ => ?_)) <;> (conv => whnf)))
    have : delP key k.ps = k.ps := (findP_none hf).2
    rw [this]
    exact ⟨rfl, rfl⟩
  | some p =>
    obtain ⟨i, v⟩ := p
    refine ⟨_, mf_some hf, ?_⟩
    obtain ⟨_, f1, f2, f3, f4⟩ := findP_some hf
    have := psum_nonneg (delP key k.ps)
    conv => whnf
    repeat' (first | ((with_reducible apply z_wrap); (focus omega); (conv => whnf)) | ((with_reducible refine mt_dec (fun _ => ?_) (fun _ => ?_)) <;> (conv => whnf)) | ((with_reducible refine mt_eq (fun _ => ?_) (fun _ => ?_)) <;> (conv => whnf)) | ((with_reducible refine mt_ne (fun _ => ?_) (fun _ => ?_)) <;> (conv => whnf)) | ((with_reducible refine mt_not (fun _ => ?_) (fun _ => ?_)) <;> (conv => whnf)) | ((with_reducible refine mt_any (fun _ => ?_) (fun _ => ?_)) <;> (conv => whnf)))
    refine ⟨_, mf_some hf, ?_⟩
    conv => whnf
    repeat' (first | ((with_reducible apply z_wrap); (focus omega); (conv => whnf)) | ((with_reducible refine mt_dec (fun _ => ?_) (fun _ => ?_)) <;> (conv => whnf)) | ((with_reducible refine mt_eq (fun _ => ?_) (fun _ => ?_)) <;> (conv => whnf)) | ((with_reducible refine mt_ne (fun _ => ?_) (fun _ => ?_)) <;> (conv => whnf)) | ((with_reducible refine mt_not (fun _ => ?_) (fun _ => ?_)) <;> (conv => whnf)) | ((with_reducible refine mt_any (fun _ => ?_) (fun _ => ?_)) <;> (conv => whnf)))
    have e : (k.ps.map pe).eraseIdx i = (delP key k.ps).map pe := by rw [← f2, Nat.sub_zero, eraseP_map]
    rw [e, ← f3]
    exact ⟨rfl, rfl⟩
end Go.Proofs.Ytpedbknmkgcldaa

namespace Go.Proofs.Ytpedbknmkgcldaa
open Go.Ab Go.RowKit Go.MapKept
attribute [local irreducible] ACalls AW ADraw Into
set_option maxRecDepth 100000
theorem set_ok (k : Kp) (hp : psum k.ps ≤ 1000000000) (hn : (k.ps.map (·.1)).Nodup) (key val : ByteArray) (hk : key.size ≤ 1000000) (hv : val.size ≤ 1000000) : ACalls Try.prog 98 [.ptr 0 0, .d (.str key), .d (.str val)] k.K (fun av L => av = .tup [] ∧ L = Kp.K { k with ps := setP key val k.ps }) := by
  have h0 := psum_nonneg (delP key k.ps)
  have h1 := del_psum key k.ps
  refine acalls_go ttOk zOk foOk Try.func98 rfl Try.ntmps98 rfl false rfl ?_
  conv => whnf
  repeat' (first | ((with_reducible apply z_wrap); (focus omega); (conv => whnf)) | ((with_reducible refine mt_dec (fun _ => ?_) (fun _ => ?_)) <;> (conv => whnf)) | ((with_reducible refine mt_eq (fun _ => ?_) (fun _ => ?_)) <;> (conv => whnf)) | ((with_reducible refine mt_ne (fun _ => ?_) (fun _ => ?_)) <;> (conv => whnf)) | ((with_reducible refine mt_not (fun _ => ?_) (fun _ => ?_)) <;> (conv => whnf)) | ((with_reducible refine mt_any (fun _ => ?_) (fun _ => ?_)) <;> (conv => whnf)))
  refine (unset_ok k hp key).mono ?_
  rintro _ _ ⟨rfl, rfl⟩
  conv => whnf
  repeat' (first | ((with_reducible apply z_wrap); (focus omega); (conv => whnf)) | ((with_reducible refine mt_dec (fun _ => ?_) (fun _ => ?_)) <;> (conv => whnf)) | ((with_reducible refine mt_eq (fun _ => ?_) (fun _ => ?_)) <;> (conv => whnf)) | ((with_reducible refine mt_ne (fun _ => ?_) (fun _ => ?_)) <;> (conv => whnf)) | ((with_reducible refine mt_not (fun _ => ?_) (fun _ => ?_)) <;> (conv => whnf)) | ((with_reducible refine mt_any (fun _ => ?_) (fun _ => ?_)) <;> (conv => whnf)))
  refine ⟨_, mf_none (del_none hn 0), ?_⟩
  conv => whnf
  repeat' (first | ((with_reducible apply z_wrap); (focus omega); (conv => whnf)) | ((with_reducible refine mt_dec (fun _ => ?_) (fun _ => ?_)) <;> (conv => whnf)) | ((with_reducible refine mt_eq (fun _ => ?_) (fun _ => ?_)) <;> (conv => whnf)) | ((with_reducible refine mt_ne (fun _ => ?_) (fun _ => ?_)) <;> (conv => whnf)) | ((with_reducible refine mt_not (fun _ => ?_) (fun _ => ?_)) <;> (conv => whnf)) | ((with_reducible refine mt_any (fun _ => ?_) (fun _ => ?_)) <;> (conv => whnf)))
  intro z hz
  obtain rfl : z = psum (delP key k.ps) + (key.size + val.size + 64) := by
    rw [hz]
    show IntKind.i64.wrap (psum (delP key k.ps) + (key.size + val.size + 64)) = _
    exact wrapI (by omega)
  clear hz
  conv => whnf
  repeat' (first | ((with_reducible apply z_wrap); (focus omega); (conv => whnf)) | ((with_reducible refine mt_dec (fun _ => ?_) (fun _ => ?_)) <;> (conv => whnf)) | ((with_reducible refine mt_eq (fun _ => ?_) (fun _ => ?_)) <;> (conv => whnf)) | ((with_reducible refine mt_ne (fun _ => ?_) (fun _ => ?_)) <;> (conv => whnf)) | ((with_reducible refine mt_not (fun _ => ?_) (fun _ => ?_)) <;> (conv => whnf)) | ((with_reducible refine mt_any (fun _ => ?_) (fun _ => ?_)) <;> (conv => whnf)))
  have e : psum (setP key val k.ps) = psum (delP key k.ps) + (key.size + val.size + 64) := by rw [setP, psum_app]; simp [psum]
  refine ⟨rfl, ?_⟩
  rw [← e]
  simp only [Kp.K, Kc, Lg.tail, setP, List.map_append]
  rfl
end Go.Proofs.Ytpedbknmkgcldaa

namespace Go.Proofs.Ytpedbknmkgcldaa
open Go.Ab Go.RowKit Go.MapKept
attribute [local irreducible] ACalls AW ADraw Into
set_option maxRecDepth 100000
set_option maxHeartbeats 4000000 in
theorem write_good (k : Kp) {x : LS} (hx : x.ok) (hl : k.l.dat = x.l) (kind key val : ByteArray) (hk0 : kind.size ≤ 1000) (hk : key.size ≤ 255) (hv : val.size ≤ 1000000) (h1 : (recK kind key val).size ≤ 4096) (h2 : ((recK kind key val).size : Int) + 16 ≤ 524288 - wsum x.recs) :
    ACalls Try.prog 97 [.ptr 0 0, .d (.str kind), .d (.str key), .d (.str val)] k.K (fun av L => ∃ l' : Lg, av = .d (.int .i64 0) ∧ L = Kp.K1 { k with l := l', dead := false } ∧ l'.dat = (x.put (recK kind key val)).l) := by
  refine acalls_go ttOk zOk foOk Try.func97 rfl Try.ntmps97 rfl false rfl ?_
  conv => whnf
  refine scope_go ttOk zOk foOk (σ := Lg) (fun l' => ([(0, .ptr 0 0), (10, .d (.int .i64 0))], Kp.K1 { k with l := l' }))
    (fun j l' => j = 0 ∧ l'.dat = (x.put (recK kind key val)).l) (fun _ _ => 0) ?_ ?_
  · rintro j rest hr l' ⟨rfl, hl'⟩
    have ee := Option.some.inj (show some _ = some rest from hr)
    subst ee
    clear hr
    conv => whnf
    repeat' (first | ((with_reducible apply rd_intro); (focus (intro K hK; (conv => whnf); first | exact hK | (intro z hz; rw [wrapI (by omega)] at hz; subst hz; exact hK))); (conv => whnf)) | ((with_reducible apply gd_and); (focus ((conv => whnf); first | rfl | (intro K hK; (conv => whnf); first | exact hK | (intro z hz; rw [wrapI (by omega)] at hz; subst hz; exact hK)))); (conv => whnf)) | ((with_reducible apply z_wrap); (focus omega); (conv => whnf)) | ((with_reducible refine mt_dec (fun _ => ?_) (fun _ => ?_)) <;> (conv => whnf)) | ((with_reducible refine mt_eq (fun _ => ?_) (fun _ => ?_)) <;> (conv => whnf)) | ((with_reducible refine mt_ne (fun _ => ?_) (fun _ => ?_)) <;> (conv => whnf)) | ((with_reducible refine mt_not (fun _ => ?_) (fun _ => ?_)) <;> (conv => whnf)) | ((with_reducible refine mt_any (fun _ => ?_) (fun _ => ?_)) <;> (conv => whnf)))
    exact ⟨l', rfl, rfl, hl'⟩
  · intro pass
    conv => whnf
    ((with_reducible refine draw_pl ttOk zOk foOk mixedOk pl97x2 ?_ ?_); (focus kernel_rfl); (conv => whnf))
    repeat' (first | ((with_reducible apply rd_intro); (focus (intro K hK; (conv => whnf); first | exact hK | (intro z hz; rw [wrapI (by omega)] at hz; subst hz; exact hK))); (conv => whnf)) | ((with_reducible apply gd_and); (focus ((conv => whnf); first | rfl | (intro K hK; (conv => whnf); first | exact hK | (intro z hz; rw [wrapI (by omega)] at hz; subst hz; exact hK)))); (conv => whnf)) | ((with_reducible apply z_wrap); (focus omega); (conv => whnf)) | ((with_reducible refine mt_dec (fun _ => ?_) (fun _ => ?_)) <;> (conv => whnf)) | ((with_reducible refine mt_eq (fun _ => ?_) (fun _ => ?_)) <;> (conv => whnf)) | ((with_reducible refine mt_ne (fun _ => ?_) (fun _ => ?_)) <;> (conv => whnf)) | ((with_reducible refine mt_not (fun _ => ?_) (fun _ => ?_)) <;> (conv => whnf)) | ((with_reducible refine mt_any (fun _ => ?_) (fun _ => ?_)) <;> (conv => whnf)))
    refine (record_ok kind key val hk0 hk hv).mono ?_
    rintro _ _ ⟨rfl, rfl⟩
    conv => whnf
    repeat' (first | ((with_reducible apply rd_intro); (focus (intro K hK; (conv => whnf); first | exact hK | (intro z hz; rw [wrapI (by omega)] at hz; subst hz; exact hK))); (conv => whnf)) | ((with_reducible apply gd_and); (focus ((conv => whnf); first | rfl | (intro K hK; (conv => whnf); first | exact hK | (intro z hz; rw [wrapI (by omega)] at hz; subst hz; exact hK)))); (conv => whnf)) | ((with_reducible apply z_wrap); (focus omega); (conv => whnf)) | ((with_reducible refine mt_dec (fun _ => ?_) (fun _ => ?_)) <;> (conv => whnf)) | ((with_reducible refine mt_eq (fun _ => ?_) (fun _ => ?_)) <;> (conv => whnf)) | ((with_reducible refine mt_ne (fun _ => ?_) (fun _ => ?_)) <;> (conv => whnf)) | ((with_reducible refine mt_not (fun _ => ?_) (fun _ => ?_)) <;> (conv => whnf)) | ((with_reducible refine mt_any (fun _ => ?_) (fun _ => ?_)) <;> (conv => whnf)))
    refine (append_good k.l hx hl _ h1 h2).mono ?_
    rintro _ _ ⟨l', rfl, rfl, hl'⟩
    conv => whnf
    repeat' (first | ((with_reducible apply rd_intro); (focus (intro K hK; (conv => whnf); first | exact hK | (intro z hz; rw [wrapI (by omega)] at hz; subst hz; exact hK))); (conv => whnf)) | ((with_reducible apply gd_and); (focus ((conv => whnf); first | rfl | (intro K hK; (conv => whnf); first | exact hK | (intro z hz; rw [wrapI (by omega)] at hz; subst hz; exact hK)))); (conv => whnf)) | ((with_reducible apply z_wrap); (focus omega); (conv => whnf)) | ((with_reducible refine mt_dec (fun _ => ?_) (fun _ => ?_)) <;> (conv => whnf)) | ((with_reducible refine mt_eq (fun _ => ?_) (fun _ => ?_)) <;> (conv => whnf)) | ((with_reducible refine mt_ne (fun _ => ?_) (fun _ => ?_)) <;> (conv => whnf)) | ((with_reducible refine mt_not (fun _ => ?_) (fun _ => ?_)) <;> (conv => whnf)) | ((with_reducible refine mt_any (fun _ => ?_) (fun _ => ?_)) <;> (conv => whnf)))
    refine into_of [0, 10] ?_
    conv => whnf
    exact ⟨l', rfl, rfl, rfl, hl'⟩
end Go.Proofs.Ytpedbknmkgcldaa

namespace Go.Proofs.Ytpedbknmkgcldaa
open Go Go.Ab Go.RowKit Go.Maps Go.Sort Go.Shelf Go.MapKept
set_option maxRecDepth 100000 in
theorem sortedK_ok (es : List (KV × MV)) (ns : List ByteArray) (hk : es.map (·.1) = ns.map (fun n => KV.one (.str n))) (hnd : ns.Nodup) (hl : ns.length ≤ 1000000) (hsz : ∀ n ∈ ns, n.size ≤ maxLen) :
    ACalls Try.prog 69 [.fn 119 [.ptr 0 0]] [.cells [.map 1], .map es] (fun av L => av = .arr 2 ∧ ∃ ss : List ByteArray, ss.Perm ns ∧ risingS ss ∧ L = [.cells [.map 1], .map es, .row 9 1 (strs ss) false]) := by
  intro c vs hc hL0 hs hv
  simp only [VRt, VR] at hv
  obtain ⟨u, us', hvs, ⟨caps, rfl, u1, us1, hcaps, ⟨b0, hp, rfl⟩, rfl⟩, rfl⟩ := hv
  obtain ⟨ab, ha, _, hE0⟩ := hp
  have hb0 := hs.blk 0 _ rfl
  rw [hE0] at hb0
  simp only [BR] at hb0
  obtain ⟨b0', cur, e0, heq, hh0, hcs⟩ := hb0
  cases heq
  simp only [VRs, VR] at hcs
  obtain ⟨u2, us2, hcur, _, ⟨b1, hp1, rfl⟩, rfl⟩ := hcs
  obtain ⟨ab1, _, _, hE1⟩ := hp1
  have hb1 := hs.blk 1 _ rfl
  rw [hE1] at hb1
  simp only [BR] at hb1
  obtain ⟨b1', ents, clock, heq, hh1, hvme, hborn, hclock⟩ := hb1
  cases heq
  have hkeys := vme_keys hk hvme
  have hlen : ents.toList.length = ns.length := by have := congrArg List.length hkeys; simpa using this
  have hrd : ∀ x ∈ ents.toList, ∃ n ∈ ns, x.key = .string n := by
    intro x hx
    have : x.key ∈ ents.toList.map (·.key) := List.mem_map.2 ⟨x, hx, rfl⟩
    rw [hkeys] at this
    obtain ⟨n, h1, h2⟩ := List.mem_map.1 this
    exact ⟨n, h1, h2.symm⟩
  have hu9 : Try.prog.underlying 9 = some .string := Try.underlying9
  have hrd2 : ∀ x ∈ ents.toList, ∀ n, x.key = .string n → n ∈ ns → WideElems.rd (H := Unit) Try.prog 9 (fun _ => some (.nil, [])) x = some (.string n.toList, .nil) := by
    intro x hx n hn hm
    unfold WideElems.rd
    rw [hn, WideMaps.keyOf_string_mk hu9 (hsz n hm)]
    simp [toList_data]
  have hown : c.w0.ownsMap (H := Unit) Try.prog 9 (fun _ => some (.nil, [])) b1 ns.length (.map ((ents.toList.map (WideElems.rg Try.prog 9 (fun _ => some (.nil, [])))).foldr DataW.insert [])) := by
    refine ⟨ents, clock, hh1, ⟨?_, ⟨hclock, ?_, ?_⟩, ?_⟩, ?_, rfl⟩
    · have : ents.size = ns.length := by simpa using hlen
      have h2 : (1000000 : Nat) ≤ maxLen := by decide
      omega
    · exact hborn.imp fun h => Nat.ne_of_lt h
    · rw [hkeys]
      exact List.Pairwise.map _ (fun a b h e => h (by cases e; rfl)) hnd
    · intro x hx
      obtain ⟨n, h1, h2⟩ := hrd x hx
      exact ⟨_, hrd2 x hx n h2 h1⟩
    · simpa using Nat.le_of_eq hlen
  have hstr : (strKeys (H := Unit) (.map ((ents.toList.map (WideElems.rg Try.prog 9 (fun _ => some (.nil, [])))).foldr DataW.insert []))).Perm (ns.map ByteArray.toList) := by
    unfold strKeys
    refine ((foldr_perm _).map _).trans ?_
    refine List.Perm.of_eq ?_
    rw [List.map_map]
    have : ∀ (us : List MapEntry) (ms : List ByteArray), (∀ x ∈ us, x ∈ ents.toList) → (∀ n ∈ ms, n ∈ ns) → us.map (·.key) = ms.map Value.string →
        us.map ((fun p => strOf p.1) ∘ WideElems.rg (H := Unit) Try.prog 9 (fun _ => some (.nil, []))) = ms.map ByteArray.toList := by
      intro us
      induction us with
      | nil => intro ms _ _ h; cases ms with | nil => rfl | cons => simp at h
      | cons x us ih =>
        intro ms h1 h2 h
        cases ms with
        | nil => simp at h
        | cons n ms =>
          simp only [List.map_cons, List.cons.injEq] at h
          simp only [List.map_cons]
          rw [ih ms (fun y hy => h1 y (List.mem_cons_of_mem _ hy)) (fun y hy => h2 y (List.mem_cons_of_mem _ hy)) h.2]
          congr 1
          simp only [Function.comp, WideElems.rg_of (hrd2 x (h1 x (by simp)) n h.1 (h2 n (by simp)))]
          rfl
    exact this _ _ (fun _ h => h) (fun _ h => h) hkeys
  have hsize : Maps.size (H := Unit) (.map ((ents.toList.map (WideElems.rg Try.prog 9 (fun _ => some (.nil, [])))).foldr DataW.insert [])) = ns.length := by
    rw [Maps.size_eq, length_sorted, List.length_map, hlen]
  generalize hD : (DataW.map ((ents.toList.map (WideElems.rg (H := Unit) Try.prog 9 (fun _ => some (.nil, [])))).foldr DataW.insert [])) = D0 at hown hstr hsize
  have hm : (1000000 : Nat) ≤ maxLen := by decide
  have hseq := AnyZ.keys_gives (ρ := Try.keys99_ren) { Try.keys99 with } Fence.wide 2 trivial rfl (by omega) b0 b1 ns.length D0 c.w0 (by
      have := (Array.getElem?_eq_some_iff.1 hh0).1
      exact this) (by
      have hc1 : cur = #[.map (some b1)] := by cases cur; simpa using hcur
      simp [World.cell?, hh0, hc1]) hown
  have hcall := AnyZ.sorted_in Try.sorted69 Fence.wide 5 trivial trivial trivial trivial rfl (by omega) (Try.sorts69 _) (enters_of Try.func104 (by kernel_rfl) rfl) 119 #[.pointer (some ⟨b0, 0, none⟩)] trivial (enters_of Try.func119 (by kernel_rfl) rfl) _ _ (by rw [hsize]; omega) (by rw [hsize]; omega) _ hseq
  have hvs' : vs = #[.func (.func 119) #[] #[.pointer (some ⟨b0, 0, none⟩)]] := by cases vs; cases caps; simp_all
  rw [hvs']
  refine (callsIn_wide.1 hcall).mono ?_
  rintro e w' ⟨v, ss, rfl, hS, ⟨hrl, hrow⟩, hnil, hb⟩
  have hp : ss.Perm (ns.map ByteArray.toList) := hS.trans hstr
  have hpm := List.mergeSort_perm ss (fun x y => decide (x ≤ y))
  have hpw : (ss.mergeSort (fun x y => decide (x ≤ y))).Pairwise (fun x y => x ≤ y) := by
    have := List.pairwise_mergeSort (le := fun x y : List UInt8 => decide (x ≤ y)) (fun a b c h1 h2 => decide_eq_true (List.le_trans (of_decide_eq_true h1) (of_decide_eq_true h2))) (fun a b => by
      rcases List.le_total a b with h | h <;> simp [h]) ss
    exact this.imp fun h => of_decide_eq_true h
  have hnd' : (ss.mergeSort (fun x y => decide (x ≤ y))).Nodup := by
    refine (hpm.trans hp).nodup_iff.2 ?_
    exact List.Pairwise.map _ (fun a b h e => h (toList_inj e)) hnd
  generalize hms : ss.mergeSort (fun x y => decide (x ≤ y)) = ms at *
  have hlen2 : ms.length = ss.length := hpm.length_eq
  have hss : (ms.map baOf).Perm ns := by
    have := (hpm.trans hp).map baOf
    rwa [List.map_map, show (baOf ∘ ByteArray.toList) = id from funext baOf_toList, List.map_id] at this
  have hri : risingS (ms.map baOf) := by
    refine List.Pairwise.map _ (fun a b h => h) ?_
    refine (hpw.and hnd').imp ?_
    rintro a b ⟨h1, h2⟩
    show Op.bytesLess (baOf a).toList (baOf b).toList = true
    rw [toList_baOf, toList_baOf]
    cases h3 : Op.bytesLess a b with
    | true => rfl
    | false =>
      cases h4 : Op.bytesLess b a with
      | true => exact absurd ((bl_lt b a).1 h4) h1
      | false => exact absurd (bl_total a b h3 h4) h2
  have hkeep : Keeps c.w0 w' := ⟨hb.os, hb.tape, hb.output, hb.size, hb.block⟩
  have henc : ms.map encStr = (ms.map baOf).map Value.string := by rw [List.map_map]; rfl
  rcases hrow with ⟨rfl, h0⟩ | ⟨g, cap, cur, rfl, hg, hhg, hcap1, hcap2, hcs, htake⟩
  · have hm0 : ms = [] := by
      apply List.eq_nil_of_length_eq_zero; omega
    subst hm0
    refine ⟨_, .arr 2, _, Eupd c.E0 2 none, rfl, ⟨rfl, _, hss, hri, rfl⟩, hs.extend hc hkeep (.row 9 1 (strs (List.map baOf [])) false) none (fun b h => by cases h) (fun b h => by simp [AB.boxes] at h) (by simp [AB.boxes]) (fun b h => by simp [AB.boxes] at h) ?_, ?_⟩
    · simp only [BR]
      exact ⟨by omega, by simp [strs], rfl⟩
    · exact ⟨_, rfl, by simp [arRel, Eupd]⟩
  · refine ⟨_, .arr 2, _, Eupd c.E0 2 (some g), rfl, ⟨rfl, _, hss, hri, rfl⟩, hs.extend hc hkeep (.row 9 1 (strs (List.map baOf ms)) false) (some g) (fun b h => by cases h; exact hg) (fun b h => by simp [AB.boxes] at h) (by simp [AB.boxes]) (fun b h => by simp [AB.boxes] at h) ?_, ?_⟩
    · simp only [BR]
      refine ⟨by omega, by simp [strs], cap, cur, hhg, hcs, by simp [strs]; omega, hcap2, ?_⟩
      have : (cur.toList.take ((strs (List.map baOf ms)).length * 1)) = (ms.map baOf).map Value.string := by
        rw [← henc, ← htake]; congr 1; simp [strs, hlen2]
      rw [this]
      exact strs_VDs _
    · exact ⟨_, rfl, by
        simp only [arRel, Eupd]
        exact ⟨cap, cur, by simp [strs, hlen2], hhg, hcs⟩⟩
end Go.Proofs.Ytpedbknmkgcldaa

namespace Go.Proofs.Ytpedbknmkgcldaa
open Go.Ab Go.RowKit Go.MapKept
attribute [local irreducible] ACalls AW ADraw Into
set_option maxRecDepth 100000
theorem keysK_ok (es : List (KV × MV)) : ACalls Try.prog 99 [.map 0] [.map es] (fun av L => av = .fn 119 [.ptr 1 0] ∧ L = [.map es, .cells [.map 0]]) := by
  refine acalls_go ttOk zOk foOk Try.func99 rfl Try.ntmps99 rfl true rfl ?_
  conv => whnf
  exact ⟨rfl, rfl⟩
theorem pe_keys (ps : List (ByteArray × ByteArray)) : (ps.map pe).map (·.1) = (ps.map (·.1)).map (fun n => KV.one (.str n)) := by
  simp [pe, List.map_map, Function.comp]
theorem keys_row (k : Kp) (hn : (k.ps.map (·.1)).Nodup) (hl : k.ps.length ≤ 1000000) (hs : ∀ p ∈ k.ps, p.1.size ≤ 1000000) : ACalls Try.prog 56 [.ptr 0 0] k.K (fun av L => av = .arr 6 ∧ ∃ ss : List ByteArray, ss.Perm (k.ps.map (·.1)) ∧ risingS ss ∧ L = k.K ++ [.row 9 1 (strs ss) false]) := by
  refine acalls_go ttOk zOk foOk Try.func56 rfl Try.ntmps56 rfl true rfl ?_
  conv => whnf
  repeat' (first | ((with_reducible apply z_wrap); (focus omega); (conv => whnf)) | ((with_reducible refine mt_dec (fun _ => ?_) (fun _ => ?_)) <;> (conv => whnf)) | ((with_reducible refine mt_eq (fun _ => ?_) (fun _ => ?_)) <;> (conv => whnf)) | ((with_reducible refine mt_ne (fun _ => ?_) (fun _ => ?_)) <;> (conv => whnf)) | ((with_reducible refine mt_not (fun _ => ?_) (fun _ => ?_)) <;> (conv => whnf)) | ((with_reducible refine mt_any (fun _ => ?_) (fun _ => ?_)) <;> (conv => whnf)))
  refine (keysK_ok _).mono ?_
  rintro _ _ ⟨rfl, rfl⟩
  conv => whnf
  repeat' (first | ((with_reducible apply z_wrap); (focus omega); (conv => whnf)) | ((with_reducible refine mt_dec (fun _ => ?_) (fun _ => ?_)) <;> (conv => whnf)) | ((with_reducible refine mt_eq (fun _ => ?_) (fun _ => ?_)) <;> (conv => whnf)) | ((with_reducible refine mt_ne (fun _ => ?_) (fun _ => ?_)) <;> (conv => whnf)) | ((with_reducible refine mt_not (fun _ => ?_) (fun _ => ?_)) <;> (conv => whnf)) | ((with_reducible refine mt_any (fun _ => ?_) (fun _ => ?_)) <;> (conv => whnf)))
  refine (sortedK_ok _ (k.ps.map (·.1)) (pe_keys k.ps) hn (by simpa using hl) ?_).mono ?_
  · intro n hm
    obtain ⟨p, hp, rfl⟩ := List.mem_map.1 hm
    have h2 : (1000000 : Nat) ≤ maxLen := by decide
    exact Nat.le_trans (hs p hp) h2
  rintro _ _ ⟨rfl, ss, hss, hr, rfl⟩
  conv => whnf
  exact ⟨rfl, ss, hss, hr, rfl⟩
theorem keysC (l : Lg) (ps : List (ByteArray × ByteArray)) (dead : Bool) (hn : (ps.map (·.1)).Nodup) (hl : ps.length ≤ 1000000) (hs : ∀ p ∈ ps, p.1.size ≤ 1000000) : ACalls Try.prog 56 [.ptr 0 0] (Kc l ps dead) (fun av L => av = .arr 6 ∧ ∃ ss : List ByteArray, ss.Perm (ps.map (·.1)) ∧ risingS ss ∧ L = Kc l ps dead ++ [.row 9 1 (strs ss) false]) := keys_row ⟨l, ps, dead⟩ hn hl hs
end Go.Proofs.Ytpedbknmkgcldaa

namespace Go.Proofs.Ytpedbknmkgcldaa
open Go.Ab Go.RowKit
theorem ba_ext {a b : ByteArray} (h : a.data.toList = b.data.toList) : a = b := by
  rcases a with ⟨⟨a⟩⟩; rcases b with ⟨⟨b⟩⟩
  simpa using h
theorem ba_extract (s : ByteArray) (i j : Nat) : (s.extract i j).data.toList = (s.data.toList.drop i).take (j - i) := by
  rw [ByteArray.data_extract, Array.toList_extract, List.extract_eq_take_drop]
theorem rec_list (kind k v : ByteArray) : (recK kind k v).data.toList = kind.data.toList ++ (UInt8.ofNat k.size :: (k.data.toList ++ v.data.toList)) := by
  unfold recK
  simp
theorem rec_at (kind k v : ByteArray) (h : kind.size = 1) : (recK kind k v)[1]? = some (UInt8.ofNat k.size) := by
  have hl : kind.data.toList.length = 1 := by simpa using h
  have e : (recK kind k v)[1]? = (recK kind k v).data.toList[1]? := by
    by_cases hs : 1 < (recK kind k v).size
    · have h1 : (recK kind k v)[1]? = some ((recK kind k v)[1]'hs) := by simp [hs]
      have h2 : (recK kind k v).data.toList[1]? = some ((recK kind k v)[1]'hs) := by
        rw [List.getElem?_eq_getElem (by simpa using hs)]; rfl
      rw [h1, h2]
    · exfalso
      have := rec_size kind k v
      omega
  rw [e, rec_list, List.getElem?_append_right (by omega), hl]
  rfl
theorem rec_key (kind k v : ByteArray) (h : kind.size = 1) : (recK kind k v).extract 2 (2 + k.size) = k := by
  have hl : kind.data.toList.length = 1 := by simpa using h
  have hk : k.data.toList.length = k.size := by simp
  apply ba_ext
  rw [ba_extract, rec_list, List.drop_append, hl, List.drop_eq_nil_of_le (by omega)]
  simp only [List.nil_append, Nat.add_sub_cancel_left]
  show (k.data.toList ++ v.data.toList).take k.size = _
  rw [← hk, List.take_left]
theorem rec_val (kind k v : ByteArray) (h : kind.size = 1) : (recK kind k v).extract (2 + k.size) (recK kind k v).size = v := by
  have hl : kind.data.toList.length = 1 := by simpa using h
  have hk : k.data.toList.length = k.size := by simp
  have hv : v.data.toList.length = v.size := by simp
  have hs := rec_size kind k v
  apply ba_ext
  rw [ba_extract, rec_list, List.drop_append, hl, List.drop_eq_nil_of_le (by omega), show 2 + k.size - 1 = k.size + 1 by omega]
  simp only [List.nil_append, List.drop_succ_cons]
  rw [← hk, List.drop_left, List.take_of_length_le (by omega)]
theorem rec_kind (kind k v : ByteArray) (h : kind.size = 1) : (recK kind k v).extract 0 1 = kind := by
  have hl : kind.data.toList.length = 1 := by simpa using h
  apply ba_ext
  rw [ba_extract, rec_list, List.drop_zero, List.take_append_of_le_length (by omega), List.take_of_length_le (by omega)]
/-! what a record does -/
inductive Op11 where
  | put (k v : ByteArray)
  | del (k : ByteArray)
def Op11.enc : Op11 → ByteArray
  | .put k v => recK kP k v
  | .del k => recK kD k ⟨#[]⟩
def Op11.app (ps : List (ByteArray × ByteArray)) : Op11 → List (ByteArray × ByteArray)
  | .put k v => setP k v ps
  | .del k => delP k ps
def Op11.ok : Op11 → Prop
  | .put k v => k.size ≤ 32 ∧ v.size ≤ 4032
  | .del k => k.size ≤ 32
theorem del_sub2 (k : ByteArray) : ∀ ps : List (ByteArray × ByteArray), (delP k ps).Sublist ps
  | [] => List.Sublist.refl _
  | p :: r => by
    simp only [delP]
    split
    · exact List.sublist_cons_self ..
    · exact (del_sub2 k r).cons_cons p
theorem del_notin {k : ByteArray} : ∀ {ps : List (ByteArray × ByteArray)}, (ps.map (·.1)).Nodup → k ∉ (delP k ps).map (·.1)
  | [], _ => by simp [delP]
  | p :: r, hn => by
    simp only [List.map_cons, List.nodup_cons] at hn
    simp only [delP]
    split
    · rename_i e; rw [e]; exact hn.1
    · rename_i e
      simp only [List.map_cons, List.mem_cons, not_or]
      exact ⟨e, del_notin hn.2⟩
theorem set_nodup {k v : ByteArray} {ps : List (ByteArray × ByteArray)} (hn : (ps.map (·.1)).Nodup) : ((setP k v ps).map (·.1)).Nodup := by
  unfold setP
  rw [List.map_append, List.nodup_append]
  refine ⟨hn.sublist ((del_sub2 k ps).map _), by simp, ?_⟩
  intro a ha b hb e
  simp only [List.map_cons, List.map_nil, List.mem_singleton] at hb
  rw [e, hb] at ha
  exact del_notin hn ha
theorem app_nodup {ps : List (ByteArray × ByteArray)} (hn : (ps.map (·.1)).Nodup) (o : Op11) : ((o.app ps).map (·.1)).Nodup := by
  cases o with
  | put k v => exact set_nodup hn
  | del k => exact hn.sublist ((del_sub2 k ps).map _)
theorem app_psum (ps : List (ByteArray × ByteArray)) (o : Op11) : psum (o.app ps) ≤ psum ps + 4 * (o.enc.size + 16) := by
  cases o with
  | put k v =>
    have h1 := del_psum k ps
    have h2 := rec_size kP k v
    have h3 : kP.size = 1 := rfl
    show psum (setP k v ps) ≤ psum ps + 4 * ((recK kP k v).size + 16)
    simp only [setP, psum_app, psum]
    omega
  | del k =>
    have h1 := del_psum k ps
    show psum (delP k ps) ≤ _
    omega
end Go.Proofs.Ytpedbknmkgcldaa

namespace Go.Proofs.Ytpedbknmkgcldaa
open Go.Ab Go.RowKit Go.MapKept
attribute [local irreducible] ACalls AW ADraw Into
set_option maxRecDepth 100000
theorem ba_empty (k : ByteArray) : (k.toList == (⟨#[]⟩ : ByteArray).toList) = decide (k.size = 0) := by
  rw [show (⟨#[]⟩ : ByteArray).toList = [] by rw [ByteArray.toList_eq]]
  rw [ByteArray.toList_eq]
  by_cases h : k.size = 0
  · have : k.data.toList = [] := by apply List.eq_nil_of_length_eq_zero; simpa using h
    rw [this, decide_eq_true h]; rfl
  · rw [decide_eq_false h, beq_eq_false_iff_ne]
    intro e
    apply h
    have := congrArg List.length e
    simpa using this
theorem goodK_ok (k : ByteArray) : ACalls Try.prog 96 [.d (.str k)] [] (fun av L => av = .d (.bool (goodK k)) ∧ L = []) := by
  refine acalls_go ttOk zOk foOk Try.func96 rfl Try.ntmps96 rfl false rfl ?_
  conv => whnf
  repeat' (first | ((with_reducible apply z_wrap); (focus omega); (conv => whnf)) | ((with_reducible refine mt_dec (fun _ => ?_) (fun _ => ?_)) <;> (conv => whnf)) | ((with_reducible refine mt_eq (fun _ => ?_) (fun _ => ?_)) <;> (conv => whnf)) | ((with_reducible refine mt_ne (fun _ => ?_) (fun _ => ?_)) <;> (conv => whnf)) | ((with_reducible refine mt_not (fun _ => ?_) (fun _ => ?_)) <;> (conv => whnf)) | ((with_reducible refine mt_any (fun _ => ?_) (fun _ => ?_)) <;> (conv => whnf)))
  · rename_i h
    rw [ba_empty] at h
    have h0 : ¬ k.size = 0 := by simpa using h
    refine ⟨boolEq ?_, rfl⟩
    simp [goodK]
    omega
  · rename_i h
    rw [ba_empty] at h
    have h0 : k.size = 0 := by simpa using h
    refine ⟨boolEq ?_, rfl⟩
    simp [goodK, h0]
end Go.Proofs.Ytpedbknmkgcldaa
