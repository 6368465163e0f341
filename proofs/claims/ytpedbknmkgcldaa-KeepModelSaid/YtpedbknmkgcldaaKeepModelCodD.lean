/- Part of the proof of KeepModel: the contracts of the functions. -/
import Derived.Test.YtpedbknmkgcldaaKeepModelCodC

set_option linter.unusedVariables false
set_option linter.unusedSimpArgs false
namespace Go.Proofs.Ytpedbknmkgcldaa
open Go Go.Ab Go.RowKit Go.Maps Go.Sort Go.Shelf Go.MapKept
set_option maxRecDepth 100000 in
theorem sortedK_ok (es : List (KV × MV)) (ns : List ByteArray) (hk : es.map (·.1) = ns.map (fun n => KV.one (.str n))) (hnd : ns.Nodup) (hl : ns.length ≤ 1000000) (hsz : ∀ n ∈ ns, n.size ≤ maxLen) :
    ACalls Try.prog 69 [.fn 119 [.ptr 0 0]] [.cells [.map 1], .map es] (fun av L => av = .arr 2 ∧ ∃ ss : List ByteArray, ss.Perm ns ∧ risingS ss ∧ L = [.cells [.map 1], .map es, .row 9 1 (strs ss) false]) := by
  intro c vs hc hL0 hs hv
  simp only [VRt, VR] at hv
  obtain ⟨u, us', hvs, ⟨caps, rfl, u1, us1, hcaps, ⟨b0, hp, rfl⟩, rfl⟩, rfl⟩ := hv
  obtain ⟨ab, ha, _, hE0⟩ := hp
  have hb0 := hs.blk 0 _ rfl
  rw [hE0] at hb0
  simp only [BR] at hb0
  obtain ⟨b0', cur, e0, heq, hh0, hcs⟩ := hb0
  cases heq
  simp only [VRs, VR] at hcs
  obtain ⟨u2, us2, hcur, _, ⟨b1, hp1, rfl⟩, rfl⟩ := hcs
  obtain ⟨ab1, _, _, hE1⟩ := hp1
  have hb1 := hs.blk 1 _ rfl
  rw [hE1] at hb1
  simp only [BR] at hb1
  obtain ⟨b1', ents, clock, heq, hh1, hvme, hborn, hclock⟩ := hb1
  cases heq
  have hkeys := vme_keys hk hvme
  have hlen : ents.toList.length = ns.length := by have := congrArg List.length hkeys; simpa using this
  have hrd : ∀ x ∈ ents.toList, ∃ n ∈ ns, x.key = .string n := by
    intro x hx
    have : x.key ∈ ents.toList.map (·.key) := List.mem_map.2 ⟨x, hx, rfl⟩
    rw [hkeys] at this
    obtain ⟨n, h1, h2⟩ := List.mem_map.1 this
    exact ⟨n, h1, h2.symm⟩
  have hu9 : Try.prog.underlying 9 = some .string := Try.underlying9
  have hrd2 : ∀ x ∈ ents.toList, ∀ n, x.key = .string n → n ∈ ns → WideElems.rd (H := Unit) Try.prog 9 (fun _ => some (.nil, [])) x = some (.string n.toList, .nil) := by
    intro x hx n hn hm
    unfold WideElems.rd
    rw [hn, WideMaps.keyOf_string_mk hu9 (hsz n hm)]
    simp [toList_data]
  have hown : c.w0.ownsMap (H := Unit) Try.prog 9 (fun _ => some (.nil, [])) b1 ns.length (.map ((ents.toList.map (WideElems.rg Try.prog 9 (fun _ => some (.nil, [])))).foldr DataW.insert [])) := by
    refine ⟨ents, clock, hh1, ⟨?_, ⟨hclock, ?_, ?_⟩, ?_⟩, ?_, rfl⟩
    · have : ents.size = ns.length := by simpa using hlen
      have h2 : (1000000 : Nat) ≤ maxLen := by decide
      omega
    · exact hborn.imp fun h => Nat.ne_of_lt h
    · rw [hkeys]
      exact List.Pairwise.map _ (fun a b h e => h (by cases e; rfl)) hnd
    · intro x hx
      obtain ⟨n, h1, h2⟩ := hrd x hx
      exact ⟨_, hrd2 x hx n h2 h1⟩
    · simpa using Nat.le_of_eq hlen
  have hstr : (strKeys (H := Unit) (.map ((ents.toList.map (WideElems.rg Try.prog 9 (fun _ => some (.nil, [])))).foldr DataW.insert []))).Perm (ns.map ByteArray.toList) := by
    unfold strKeys
    refine ((foldr_perm _).map _).trans ?_
    refine List.Perm.of_eq ?_
    rw [List.map_map]
    have : ∀ (us : List MapEntry) (ms : List ByteArray), (∀ x ∈ us, x ∈ ents.toList) → (∀ n ∈ ms, n ∈ ns) → us.map (·.key) = ms.map Value.string →
        us.map ((fun p => strOf p.1) ∘ WideElems.rg (H := Unit) Try.prog 9 (fun _ => some (.nil, []))) = ms.map ByteArray.toList := by
      intro us
      induction us with
      | nil => intro ms _ _ h; cases ms with | nil => rfl | cons => simp at h
      | cons x us ih =>
        intro ms h1 h2 h
        cases ms with
        | nil => simp at h
        | cons n ms =>
          simp only [List.map_cons, List.cons.injEq] at h
          simp only [List.map_cons]
          rw [ih ms (fun y hy => h1 y (List.mem_cons_of_mem _ hy)) (fun y hy => h2 y (List.mem_cons_of_mem _ hy)) h.2]
          congr 1
          simp only [Function.comp, WideElems.rg_of (hrd2 x (h1 x (by simp)) n h.1 (h2 n (by simp)))]
          rfl
    exact this _ _ (fun _ h => h) (fun _ h => h) hkeys
  have hsize : Maps.size (H := Unit) (.map ((ents.toList.map (WideElems.rg Try.prog 9 (fun _ => some (.nil, [])))).foldr DataW.insert [])) = ns.length := by
    rw [Maps.size_eq, length_sorted, List.length_map, hlen]
  generalize hD : (DataW.map ((ents.toList.map (WideElems.rg (H := Unit) Try.prog 9 (fun _ => some (.nil, [])))).foldr DataW.insert [])) = D0 at hown hstr hsize
  have hm : (1000000 : Nat) ≤ maxLen := by decide
  have hseq := AnyZ.keys_gives (ρ := Try.keys99_ren) { Try.keys99 with } Fence.wide 2 trivial rfl (by omega) b0 b1 ns.length D0 c.w0 (by
      have := (Array.getElem?_eq_some_iff.1 hh0).1
      exact this) (by
      have hc1 : cur = #[.map (some b1)] := by cases cur; simpa using hcur
      simp [World.cell?, hh0, hc1]) hown
  have hcall := AnyZ.sorted_in Try.sorted69 Fence.wide 5 trivial trivial trivial trivial rfl (by omega) (Try.sorts69 _) (enters_of Try.func104 (by kernel_rfl) rfl) 119 #[.pointer (some ⟨b0, 0, none⟩)] trivial (enters_of Try.func119 (by kernel_rfl) rfl) _ _ (by rw [hsize]; omega) (by rw [hsize]; omega) _ hseq
  have hvs' : vs = #[.func (.func 119) #[] #[.pointer (some ⟨b0, 0, none⟩)]] := by cases vs; cases caps; simp_all
  rw [hvs']
  refine (callsIn_wide.1 hcall).mono ?_
  rintro e w' ⟨v, ss, rfl, hS, ⟨hrl, hrow⟩, hnil, hb⟩
  have hp : ss.Perm (ns.map ByteArray.toList) := hS.trans hstr
  have hpm := List.mergeSort_perm ss (fun x y => decide (x ≤ y))
  have hpw : (ss.mergeSort (fun x y => decide (x ≤ y))).Pairwise (fun x y => x ≤ y) := by
    have := List.pairwise_mergeSort (le := fun x y : List UInt8 => decide (x ≤ y)) (fun a b c h1 h2 => decide_eq_true (List.le_trans (of_decide_eq_true h1) (of_decide_eq_true h2))) (fun a b => by
      rcases List.le_total a b with h | h <;> simp [h]) ss
    exact this.imp fun h => of_decide_eq_true h
  have hnd' : (ss.mergeSort (fun x y => decide (x ≤ y))).Nodup := by
    refine (hpm.trans hp).nodup_iff.2 ?_
    exact List.Pairwise.map _ (fun a b h e => h (toList_inj e)) hnd
  generalize hms : ss.mergeSort (fun x y => decide (x ≤ y)) = ms at *
  have hlen2 : ms.length = ss.length := hpm.length_eq
  have hss : (ms.map baOf).Perm ns := by
    have := (hpm.trans hp).map baOf
    rwa [List.map_map, show (baOf ∘ ByteArray.toList) = id from funext baOf_toList, List.map_id] at this
  have hri : risingS (ms.map baOf) := by
    refine List.Pairwise.map _ (fun a b h => h) ?_
    refine (hpw.and hnd').imp ?_
    rintro a b ⟨h1, h2⟩
    show Op.bytesLess (baOf a).toList (baOf b).toList = true
    rw [toList_baOf, toList_baOf]
    cases h3 : Op.bytesLess a b with
    | true => rfl
    | false =>
      cases h4 : Op.bytesLess b a with
      | true => exact absurd ((bl_lt b a).1 h4) h1
      | false => exact absurd (bl_total a b h3 h4) h2
  have hkeep : Keeps c.w0 w' := ⟨hb.os, hb.tape, hb.output, hb.size, hb.block⟩
  have henc : ms.map encStr = (ms.map baOf).map Value.string := by rw [List.map_map]; rfl
  rcases hrow with ⟨rfl, h0⟩ | ⟨g, cap, cur, rfl, hg, hhg, hcap1, hcap2, hcs, htake⟩
  · have hm0 : ms = [] := by
      apply List.eq_nil_of_length_eq_zero; omega
    subst hm0
    refine ⟨_, .arr 2, _, Eupd c.E0 2 none, rfl, ⟨rfl, _, hss, hri, rfl⟩, hs.extend hc hkeep (.row 9 1 (strs (List.map baOf [])) false) none (fun b h => by cases h) (fun b h => by simp [AB.boxes] at h) (by simp [AB.boxes]) (fun b h => by simp [AB.boxes] at h) ?_, ?_⟩
    · simp only [BR]
      exact ⟨by omega, by simp [strs], rfl⟩
    · exact ⟨_, rfl, by simp [arRel, Eupd]⟩
  · refine ⟨_, .arr 2, _, Eupd c.E0 2 (some g), rfl, ⟨rfl, _, hss, hri, rfl⟩, hs.extend hc hkeep (.row 9 1 (strs (List.map baOf ms)) false) (some g) (fun b h => by cases h; exact hg) (fun b h => by simp [AB.boxes] at h) (by simp [AB.boxes]) (fun b h => by simp [AB.boxes] at h) ?_, ?_⟩
    · simp only [BR]
      refine ⟨by omega, by simp [strs], cap, cur, hhg, hcs, by simp [strs]; omega, hcap2, ?_⟩
      have : (cur.toList.take ((strs (List.map baOf ms)).length * 1)) = (ms.map baOf).map Value.string := by
        rw [← henc, ← htake]; congr 1; simp [strs, hlen2]
      rw [this]
      exact strs_VDs _
    · exact ⟨_, rfl, by
        simp only [arRel, Eupd]
        exact ⟨cap, cur, by simp [strs, hlen2], hhg, hcs⟩⟩
end Go.Proofs.Ytpedbknmkgcldaa

namespace Go.Proofs.Ytpedbknmkgcldaa
open Go.Ab Go.RowKit Go.MapKept
attribute [local irreducible] ACalls AW ADraw Into
set_option maxRecDepth 100000
theorem keysK_ok (es : List (KV × MV)) : ACalls Try.prog 99 [.map 0] [.map es] (fun av L => av = .fn 119 [.ptr 1 0] ∧ L = [.map es, .cells [.map 0]]) := by
  refine acalls_go ttOk zOk foOk Try.func99 rfl Try.ntmps99 rfl true rfl ?_
  conv => whnf
  exact ⟨rfl, rfl⟩
theorem pe_keys (ps : List (ByteArray × ByteArray)) : (ps.map pe).map (·.1) = (ps.map (·.1)).map (fun n => KV.one (.str n)) := by
  simp [pe, List.map_map, Function.comp]
theorem keys_row (k : Kp) (hn : (k.ps.map (·.1)).Nodup) (hl : k.ps.length ≤ 1000000) (hs : ∀ p ∈ k.ps, p.1.size ≤ 1000000) : ACalls Try.prog 56 [.ptr 0 0] k.K (fun av L => av = .arr 6 ∧ ∃ ss : List ByteArray, ss.Perm (k.ps.map (·.1)) ∧ risingS ss ∧ L = k.K ++ [.row 9 1 (strs ss) false]) := by
  refine acalls_go ttOk zOk foOk Try.func56 rfl Try.ntmps56 rfl true rfl ?_
  conv => whnf
  repeat' (first | ((with_reducible apply z_wrap); (focus omega); (conv => whnf)) | ((with_reducible refine mt_dec (fun _ => ?_) (fun _ => ?_)) <;> (conv => whnf)) | ((with_reducible refine mt_eq (fun _ => ?_) (fun _ => ?_)) <;> (conv => whnf)) | ((with_reducible refine mt_ne (fun _ => ?_) (fun _ => ?_)) <;> (conv => whnf)) | ((with_reducible refine mt_not (fun _ => ?_) (fun _ => ?_)) <;> (conv => whnf)) | ((with_reducible refine mt_any (fun _ => ?_) (fun _ => ?_)) <;> (conv => whnf)))
  refine (keysK_ok _).mono ?_
  rintro _ _ ⟨rfl, rfl⟩
  conv => whnf
  repeat' (first | ((with_reducible apply z_wrap); (focus omega); (conv => whnf)) | ((with_reducible refine mt_dec (fun _ => ?_) (fun _ => ?_)) <;> (conv => whnf)) | ((with_reducible refine mt_eq (fun _ => ?_) (fun _ => ?_)) <;> (conv => whnf)) | ((with_reducible refine mt_ne (fun _ => ?_) (fun _ => ?_)) <;> (conv => whnf)) | ((with_reducible refine mt_not (fun _ => ?_) (fun _ => ?_)) <;> (conv => whnf)) | ((with_reducible refine mt_any (fun _ => ?_) (fun _ => ?_)) <;> (conv => whnf)))
  refine (sortedK_ok _ (k.ps.map (·.1)) (pe_keys k.ps) hn (by simpa using hl) ?_).mono ?_
  · intro n hm
    obtain ⟨p, hp, rfl⟩ := List.mem_map.1 hm
    have h2 : (1000000 : Nat) ≤ maxLen := by decide
    exact Nat.le_trans (hs p hp) h2
  rintro _ _ ⟨rfl, ss, hss, hr, rfl⟩
  conv => whnf
  exact ⟨rfl, ss, hss, hr, rfl⟩
theorem keysC (l : Lg) (ps : List (ByteArray × ByteArray)) (dead : Bool) (hn : (ps.map (·.1)).Nodup) (hl : ps.length ≤ 1000000) (hs : ∀ p ∈ ps, p.1.size ≤ 1000000) : ACalls Try.prog 56 [.ptr 0 0] (Kc l ps dead) (fun av L => av = .arr 6 ∧ ∃ ss : List ByteArray, ss.Perm (ps.map (·.1)) ∧ risingS ss ∧ L = Kc l ps dead ++ [.row 9 1 (strs ss) false]) := keys_row ⟨l, ps, dead⟩ hn hl hs
end Go.Proofs.Ytpedbknmkgcldaa

namespace Go.Proofs.Ytpedbknmkgcldaa
open Go.Ab Go.RowKit Go.MapKept
attribute [local irreducible] ACalls AW ADraw Into
set_option maxRecDepth 100000
def getR (o : Option ByteArray) : AV := match o with | some v => .tup [.d (.str v), .d (.int .i64 0)] | none => .tup [.d (.str ⟨#[]⟩), .d (.int .i64 3)]
theorem get_ok (k : Kp) (key : ByteArray) : ACalls Try.prog 58 [.ptr 0 0, .d (.str key)] k.K (fun av L => av = getR (getP key k.ps) ∧ L = k.K) := by
  refine acalls_go ttOk zOk foOk Try.func58 rfl Try.ntmps58 rfl false rfl ?_
  conv => whnf
  repeat' (first | ((with_reducible apply z_wrap); (focus omega); (conv => whnf)) | ((with_reducible refine mt_dec (fun _ => ?_) (fun _ => ?_)) <;> (conv => whnf)) | ((with_reducible refine mt_eq (fun _ => ?_) (fun _ => ?_)) <;> (conv => whnf)) | ((with_reducible refine mt_ne (fun _ => ?_) (fun _ => ?_)) <;> (conv => whnf)) | ((with_reducible refine mt_not (fun _ => ?_) (fun _ => ?_)) <;> (conv => whnf)) | ((with_reducible refine mt_any (fun _ => ?_) (fun _ => ?_)) <;> (conv => whnf)))
  cases hf : findP key k.ps 0 with
  | none =>
    refine ⟨_, mf_none hf, ?_⟩
    rw [(findP_none hf).1]
    conv => whnf
    repeat' (first | ((with_reducible apply z_wrap); (focus omega); (conv => whnf)) | ((with_reducible refine mt_dec (fun _ => ?_) (fun _ => ?_)) <;> (conv => whnf)) | ((with_reducible refine mt_eq (fun _ => ?_) (fun _ => ?_)) <;> (conv => whnf)) | ((with_reducible refine mt_ne (fun _ => ?_) (fun _ => ?_)) <;> (conv => whnf)) | ((with_reducible refine mt_not (fun _ => ?_) (fun _ => ?_)) <;> (conv => whnf)) | ((with_reducible refine mt_any (fun _ => ?_) (fun _ => ?_)) <;> (conv => whnf)))
    exact ⟨rfl, rfl⟩
  | some p =>
    obtain ⟨i, v⟩ := p
    refine ⟨_, mf_some hf, ?_⟩
    rw [(findP_some hf).2.1]
    conv => whnf
    repeat' (first | ((with_reducible apply z_wrap); (focus omega); (conv => whnf)) | ((with_reducible refine mt_dec (fun _ => ?_) (fun _ => ?_)) <;> (conv => whnf)) | ((with_reducible refine mt_eq (fun _ => ?_) (fun _ => ?_)) <;> (conv => whnf)) | ((with_reducible refine mt_ne (fun _ => ?_) (fun _ => ?_)) <;> (conv => whnf)) | ((with_reducible refine mt_not (fun _ => ?_) (fun _ => ?_)) <;> (conv => whnf)) | ((with_reducible refine mt_any (fun _ => ?_) (fun _ => ?_)) <;> (conv => whnf)))
    exact ⟨rfl, rfl⟩
theorem getC (l : Lg) (ps : List (ByteArray × ByteArray)) (dead : Bool) (key : ByteArray) : ACalls Try.prog 58 [.ptr 0 0, .d (.str key)] (Kc l ps dead) (fun av L => av = getR (getP key ps) ∧ L = Kc l ps dead) := get_ok ⟨l, ps, dead⟩ key
end Go.Proofs.Ytpedbknmkgcldaa

namespace Go.Proofs.Ytpedbknmkgcldaa
open Go.Ab Go.RowKit Go.MapKept
attribute [local irreducible] ACalls AW ADraw Into
set_option maxRecDepth 100000
theorem num11_ok (n : Int) : ACalls Try.prog 54 [.d (.int .i64 n)] [] (fun av L => av = .d (.int .i64 n) ∧ L = []) := by
  refine acalls_go ttOk zOk foOk Try.func54 rfl Try.ntmps54 rfl false rfl ?_
  conv => whnf
  exact ⟨rfl, rfl⟩
/-- the store as an opening tells it, the disk ahead of it -/
def Ko (l : Lg) (ps : List (ByteArray × ByteArray)) : List AB := [.cells [.d (.int .i64 l.d.calls), .d (.bool l.d.off), .d (.int .i64 l.d.upto), .map 1], .map (l.d.fs.map Fl.ent), .cells [.ptr 3 0, .map 4, .d (.int .i64 (psum ps)), .d (.bool false)], .cells (.ptr 0 0 :: .arr 5 :: l.tail), .map (ps.map pe), .row 9 1 (strs l.recs) l.sh]
set_option maxHeartbeats 4000000 in
theorem kopen_new : ACalls Try.prog 53 [.ptr 0 0] newDk.L (fun av L => av = .tup [.ptr 2 0, .d (.int .i64 0)] ∧ ∃ l : Lg, L = Ko l [] ∧ l.dat = LS0.l) := by
  refine acalls_go ttOk zOk foOk Try.func53 rfl Try.ntmps53 rfl true rfl ?_
  conv => whnf
  repeat' (first | ((with_reducible apply z_wrap); (focus omega); (conv => whnf)) | ((with_reducible refine mt_dec (fun _ => ?_) (fun _ => ?_)) <;> (conv => whnf)) | ((with_reducible refine mt_eq (fun _ => ?_) (fun _ => ?_)) <;> (conv => whnf)) | ((with_reducible refine mt_ne (fun _ => ?_) (fun _ => ?_)) <;> (conv => whnf)) | ((with_reducible refine mt_not (fun _ => ?_) (fun _ => ?_)) <;> (conv => whnf)) | ((with_reducible refine mt_any (fun _ => ?_) (fun _ => ?_)) <;> (conv => whnf)))
  refine open_good.mono ?_
  rintro _ _ ⟨rfl, l, rfl, hl⟩
  conv => whnf
  repeat' (first | ((with_reducible apply z_wrap); (focus omega); (conv => whnf)) | ((with_reducible refine mt_dec (fun _ => ?_) (fun _ => ?_)) <;> (conv => whnf)) | ((with_reducible refine mt_eq (fun _ => ?_) (fun _ => ?_)) <;> (conv => whnf)) | ((with_reducible refine mt_ne (fun _ => ?_) (fun _ => ?_)) <;> (conv => whnf)) | ((with_reducible refine mt_not (fun _ => ?_) (fun _ => ?_)) <;> (conv => whnf)) | ((with_reducible refine mt_any (fun _ => ?_) (fun _ => ?_)) <;> (conv => whnf)))
  obtain ⟨_, _, p3, p4⟩ := LS.pre LS0_ok hl
  refine (all_ok l p3).mono ?_
  rintro _ _ ⟨rfl, rfl⟩
  have hr : l.recs = [] := p4
  conv => whnf
  repeat' (first | ((with_reducible apply z_wrap); (focus omega); (conv => whnf)) | ((with_reducible refine mt_dec (fun _ => ?_) (fun _ => ?_)) <;> (conv => whnf)) | ((with_reducible refine mt_eq (fun _ => ?_) (fun _ => ?_)) <;> (conv => whnf)) | ((with_reducible refine mt_ne (fun _ => ?_) (fun _ => ?_)) <;> (conv => whnf)) | ((with_reducible refine mt_not (fun _ => ?_) (fun _ => ?_)) <;> (conv => whnf)) | ((with_reducible refine mt_any (fun _ => ?_) (fun _ => ?_)) <;> (conv => whnf)))
  refine loop_go ttOk zOk foOk (σ := Unit) (fun _ => ([(6, .ptr 2 0), (22, .arr 3), (23, .d (.int .i64 (strs l.recs).length)), (24, .d (.int .i64 0))], [.cells [.d (.int .i64 l.d.calls), .d (.bool l.d.off), .d (.int .i64 l.d.upto), .map 1], .map (l.d.fs.map Fl.ent), .cells [.ptr 4 0, .map 5, .d (.int .i64 (psum [])), .d (.bool false)], .row 9 1 (strs l.recs) false, .cells (.ptr 0 0 :: .arr 6 :: l.tail), .map [], .row 9 1 (strs l.recs) l.sh])) (fun _ => True) (fun _ => 0) [6, 22, 23, 24] ?_ ?_
  · conv => whnf
    exact ⟨(), rfl, rfl, trivial⟩
  · intro _ _
    conv => whnf
    have hz : (strs l.recs).length = 0 := by rw [hr]; rfl
    repeat' (first | ((with_reducible apply z_wrap); (focus omega); (conv => whnf)) | ((with_reducible refine mt_dec (fun _ => ?_) (fun _ => ?_)) <;> (conv => whnf)) | ((with_reducible refine mt_eq (fun _ => ?_) (fun _ => ?_)) <;> (conv => whnf)) | ((with_reducible refine mt_ne (fun _ => ?_) (fun _ => ?_)) <;> (conv => whnf)) | ((with_reducible refine mt_not (fun _ => ?_) (fun _ => ?_)) <;> (conv => whnf)) | ((with_reducible refine mt_any (fun _ => ?_) (fun _ => ?_)) <;> (conv => whnf)))
    · rename_i h
      exfalso; omega
    · exact ⟨rfl, l, rfl, hl⟩
end Go.Proofs.Ytpedbknmkgcldaa

namespace Go.Proofs.Ytpedbknmkgcldaa
open Go.Ab Go.RowKit Go.MapKept
attribute [local irreducible] ACalls AW ADraw Into
set_option maxRecDepth 100000
def Act11.wt (a : Act11) : Int := a.key.size + a.val.size + a.picks.length
def hv11 : Int → List Act11 → Int
  | n, [] => n
  | n, a :: r => if n < 1048576 then hv11 (n + a.wt) r else n
def sw11 : List Act11 → Int
  | [] => 0
  | a :: r => a.wt + sw11 r
def Scr11.heavy (p : Scr11) : Bool := decide (hv11 0 p.acts > 40000) || (decide (p.offs.length > 20) || decide (p.acts.length > 200))
theorem wt11_range {a : Act11} (h : a.ok) : 0 ≤ a.wt ∧ a.wt ≤ 562949953421312 := by
  have h1 := h.key
  have h2 := h.val
  have h3 := h.picks
  unfold Act11.wt
  omega
theorem wt11_nonneg (a : Act11) : 0 ≤ a.wt := by unfold Act11.wt; omega
theorem sw11_nonneg (l : List Act11) : 0 ≤ sw11 l := by
  induction l with
  | nil => simp [sw11]
  | cons a r ih => have := wt11_nonneg a; simp only [sw11]; omega
theorem hv11_exact (l : List Act11) : ∀ n, hv11 n l < 1048576 → hv11 n l = n + sw11 l := by
  induction l with
  | nil => intro n _; simp [hv11, sw11]
  | cons a r ih =>
    intro n h
    simp only [hv11] at h ⊢
    split
    · rename_i hn
      rw [if_pos hn] at h
      rw [ih _ h]
      simp only [sw11]; omega
    · rename_i hn
      rw [if_neg hn] at h
      omega
theorem sw11_light {p : Scr11} (h : p.heavy = false) : sw11 p.acts ≤ 40000 := by
  simp only [Scr11.heavy, Bool.or_eq_false_iff, decide_eq_false_iff_not] at h
  have := hv11_exact p.acts 0 (by omega)
  omega
theorem sw11_take {l : List Act11} {k : Nat} {a : Act11} (h : l[k]? = some a) : sw11 (l.take (k + 1)) = sw11 (l.take k) + a.wt := by
  rw [List.take_add_one, h]
  have : ∀ (x : List Act11) (b : Act11), sw11 (x ++ [b]) = sw11 x + b.wt := by
    intro x b
    induction x with
    | nil => simp [sw11]
    | cons c r ih => simp only [List.cons_append, sw11, ih]; omega
  exact this _ _
theorem sw11_le (l : List Act11) (k : Nat) : sw11 (l.take k) ≤ sw11 l := by
  have : ∀ (x y : List Act11), sw11 (x ++ y) = sw11 x + sw11 y := by
    intro x y
    induction x with
    | nil => simp [sw11]
    | cons c r ih => simp only [List.cons_append, sw11, ih]; omega
  have h := this (l.take k) (l.drop k)
  rw [List.take_append_drop] at h
  have := sw11_nonneg (l.drop k)
  omega
set_option maxHeartbeats 4000000 in
theorem heavy11_ok (p : Scr11) (hp : p.ok) : ACalls Try.prog 61 [p.av] [] (fun av L => av = .d (.bool p.heavy) ∧ L = []) := by
  refine acalls_go ttOk zOk foOk Try.func61 rfl Try.ntmps61 rfl false rfl ?_
  conv => whnf
  refine loop_go2 ttOk zOk foOk (σ := Nat) (ρ := Int) (fun k n => ([(1, .ptr 0 0), (3, .d (.int .i64 n)), (4, .d (.int .i64 k))], [.cells p.cells])) (fun k n => k ≤ p.acts.length ∧ 0 ≤ n ∧ n ≤ 562949954469888 ∧ hv11 n (p.acts.drop k) = hv11 0 p.acts) (fun k _ => p.acts.length - k) [1, 3, 4] ?_ ?_
  · conv => whnf
    exact ⟨0, 0, rfl, rfl, by omega, by omega, by omega, rfl⟩
  · rintro k n ⟨hk, h0, hb, he⟩
    conv => whnf
    have hla := hp.la
    have key : (¬ (k < p.acts.length) ∨ ¬ n < 1048576) → hv11 0 p.acts = n := by
      intro h
      rw [← he]
      by_cases hk2 : k < p.acts.length
      · have hd : p.acts.drop k = p.acts[k] :: p.acts.drop (k + 1) := (List.getElem_cons_drop hk2).symm
        rw [hd, hv11, if_neg (by rcases h with h | h; exact absurd hk2 h; exact h)]
      · rw [List.drop_eq_nil_of_le (by omega), hv11]
    repeat' (first | ((with_reducible apply rd_intro); (focus (intro K hK; (conv => whnf); first | exact hK | (intro z hz; rw [wrapI (by omega)] at hz; subst hz; exact hK))); (conv => whnf)) | ((with_reducible apply gd_and); (focus ((conv => whnf); first | rfl | (intro K hK; (conv => whnf); first | exact hK | (intro z hz; rw [wrapI (by omega)] at hz; subst hz; exact hK)))); (conv => whnf)) | ((with_reducible apply z_wrap); (focus omega); (conv => whnf)) | ((with_reducible refine mt_dec (fun _ => ?_) (fun _ => ?_)) <;> (conv => whnf)) | ((with_reducible refine mt_eq (fun _ => ?_) (fun _ => ?_)) <;> (conv => whnf)) | ((with_reducible refine mt_ne (fun _ => ?_) (fun _ => ?_)) <;> (conv => whnf)) | ((with_reducible refine mt_not (fun _ => ?_) (fun _ => ?_)) <;> (conv => whnf)) | ((with_reducible refine mt_any (fun _ => ?_) (fun _ => ?_)) <;> (conv => whnf)))
    · rename_i h hn
      simp only [List.length_map] at h
      obtain ⟨a, ha⟩ : ∃ a, p.acts[k]? = some a := ⟨_, List.getElem?_eq_getElem (by omega)⟩
      have hok := hp.a a (List.mem_of_getElem? ha)
      have hwt := wt11_range hok
      have hd : p.acts.drop k = a :: p.acts.drop (k + 1) := by
        rw [← List.getElem_cons_drop (by omega)]
        rw [List.getElem?_eq_some_iff.1 ha |>.2]
      rw [hd, hv11, if_pos hn] at he
      have h1 := hok.key
      have h2 := hok.val
      have h3 := hok.picks
      have hnl : (nums a.picks).length = a.picks.length := List.length_map ..
      have hwd : a.wt = a.key.size + a.val.size + a.picks.length := rfl
      ((with_reducible refine draw_pl ttOk zOk foOk mixedOk pl61x5 ?_ ?_); (focus kernel_rfl); (conv => whnf))
      repeat' (first | (first | ((with_reducible apply rd_intro); (focus (intro K hK; (conv => whnf); first | exact hK | (intro z hz; rw [wrapI (by omega)] at hz; subst hz; exact hK))); (conv => whnf)) | ((with_reducible apply gd_and); (focus ((conv => whnf); first | rfl | (intro K hK; (conv => whnf); first | exact hK | (intro z hz; rw [wrapI (by omega)] at hz; subst hz; exact hK)))); (conv => whnf)) | ((with_reducible apply z_wrap); (focus omega); (conv => whnf)) | ((with_reducible refine mt_dec (fun _ => ?_) (fun _ => ?_)) <;> (conv => whnf)) | ((with_reducible refine mt_eq (fun _ => ?_) (fun _ => ?_)) <;> (conv => whnf)) | ((with_reducible refine mt_ne (fun _ => ?_) (fun _ => ?_)) <;> (conv => whnf)) | ((with_reducible refine mt_not (fun _ => ?_) (fun _ => ?_)) <;> (conv => whnf)) | ((with_reducible refine mt_any (fun _ => ?_) (fun _ => ?_)) <;> (conv => whnf))) | ((with_reducible apply rd_intro); (focus (intro K hK; (conv => whnf); exact ⟨by omega, a.cs, by simp [ha], hK⟩)); (conv => whnf)))
      refine ⟨k + 1, n + a.wt, ?_, rfl, ⟨by omega, by omega, by omega, he⟩, by omega⟩
      rw [hwd, ← hnl, show n + ((a.key.size : Int) + a.val.size + (nums a.picks).length) = n + a.key.size + a.val.size + (nums a.picks).length by omega]
      rfl
    all_goals
      have hno : (nums p.offs).length = p.offs.length := List.length_map ..
      have hna : (p.acts.map Act11.cs).length = p.acts.length := List.length_map ..
      have e := key (by omega)
      refine ⟨?_, rfl⟩
      refine boolEq ?_
      simp only [Scr11.heavy, e, Bool.or_eq_true, decide_eq_true_eq]
      simp
      omega
end Go.Proofs.Ytpedbknmkgcldaa

namespace Go.Proofs.Ytpedbknmkgcldaa
open Go.Ab Go.RowKit Go.MapKept
attribute [local irreducible] ACalls AW ADraw Into
set_option maxRecDepth 100000
def pc (p : ByteArray × ByteArray) : List DV := [.str p.1, .str p.2]
def prs (l : List (ByteArray × ByteArray)) : List (List DV) := l.map pc
def fi (r : List (ByteArray × ByteArray)) (key : ByteArray) : Nat := (r.takeWhile fun p => lessS p.1 key).length
def ft (r : List (ByteArray × ByteArray)) (key : ByteArray) : Bool := match r[fi r key]? with | some p => decide (p.1 = key) | none => false
theorem tw_len {α : Type} {P : α → Bool} : ∀ {r : List α} {k : Nat}, k ≤ r.length → (r.take k).all P = true → (k = r.length ∨ ∃ x, r[k]? = some x ∧ P x = false) → (r.takeWhile P).length = k
  | [], k, hk, _, _ => by simp at hk; simp [hk]
  | x :: r, 0, _, _, h => by
    rcases h with h | ⟨y, h1, h2⟩
    · simp at h
    · simp at h1; subst h1; simp [List.takeWhile, h2]
  | x :: r, k + 1, hk, ha, h => by
    simp only [List.take_succ_cons, List.all_cons, Bool.and_eq_true] at ha
    simp only [List.takeWhile, ha.1, List.length_cons]
    congr 1
    refine tw_len (by simpa using hk) ha.2 ?_
    rcases h with h | ⟨y, h1, h2⟩
    · left; simpa using h
    · right; exact ⟨y, by simpa using h1, h2⟩
theorem toList_beq (a b : ByteArray) : (a.toList == b.toList) = decide (a = b) := by
  by_cases h : a = b
  · subst h; simp
  · rw [decide_eq_false h, beq_eq_false_iff_ne]
    intro e
    apply h
    rw [ByteArray.toList_eq, ByteArray.toList_eq] at e
    rcases a with ⟨⟨a⟩⟩; rcases b with ⟨⟨b⟩⟩
    simpa using e
set_option maxHeartbeats 4000000 in
theorem find_ok (r : List (ByteArray × ByteArray)) (key : ByteArray) (hr : r.length ≤ 1000000) : ACalls Try.prog 64 [.d (.sl 2 (prs r)), .d (.str key)] [] (fun av L => av = .tup [.d (.int .i64 (fi r key)), .d (.bool (ft r key))] ∧ L = []) := by
  have hpl : (prs r).length = r.length := List.length_map ..
  refine acalls_go ttOk zOk foOk Try.func64 rfl Try.ntmps64 rfl false rfl ?_
  conv => whnf
  refine loop_go ttOk zOk foOk (σ := Nat) (fun k => ([(0, .d (.sl 2 (prs r))), (1, .d (.str key)), (6, .d (.int .i64 k))], [])) (fun k => k ≤ r.length ∧ (r.take k).all (fun p => lessS p.1 key) = true) (fun k => r.length - k) [0, 1, 6] ?_ ?_
  · conv => whnf
    exact ⟨0, rfl, rfl, by simp⟩
  · rintro k ⟨hk, hall⟩
    conv => whnf
    repeat' (first | ((with_reducible apply rd_intro); (focus (intro K hK; (conv => whnf); first | exact hK | (intro z hz; rw [wrapI (by omega)] at hz; subst hz; exact hK))); (conv => whnf)) | ((with_reducible apply gd_and); (focus ((conv => whnf); first | rfl | (intro K hK; (conv => whnf); first | exact hK | (intro z hz; rw [wrapI (by omega)] at hz; subst hz; exact hK)))); (conv => whnf)) | ((with_reducible apply z_wrap); (focus omega); (conv => whnf)) | ((with_reducible refine mt_dec (fun _ => ?_) (fun _ => ?_)) <;> (conv => whnf)) | ((with_reducible refine mt_eq (fun _ => ?_) (fun _ => ?_)) <;> (conv => whnf)) | ((with_reducible refine mt_ne (fun _ => ?_) (fun _ => ?_)) <;> (conv => whnf)) | ((with_reducible refine mt_not (fun _ => ?_) (fun _ => ?_)) <;> (conv => whnf)) | ((with_reducible refine mt_any (fun _ => ?_) (fun _ => ?_)) <;> (conv => whnf)))
    · rename_i h
      obtain ⟨p, hp⟩ : ∃ p, r[k]? = some p := ⟨_, List.getElem?_eq_getElem (by omega)⟩
      have hpp : (prs r)[((k : Nat) : Int).toNat]? = some (pc p) := by rw [Int.toNat_natCast, prs, List.getElem?_map, hp]; rfl
      refine ⟨by omega, pc p, hpp, ?_⟩
      conv => whnf
      repeat' (first | ((with_reducible apply rd_intro); (focus (intro K hK; (conv => whnf); first | exact hK | (intro z hz; rw [wrapI (by omega)] at hz; subst hz; exact hK))); (conv => whnf)) | ((with_reducible apply gd_and); (focus ((conv => whnf); first | rfl | (intro K hK; (conv => whnf); first | exact hK | (intro z hz; rw [wrapI (by omega)] at hz; subst hz; exact hK)))); (conv => whnf)) | ((with_reducible apply z_wrap); (focus omega); (conv => whnf)) | ((with_reducible refine mt_dec (fun _ => ?_) (fun _ => ?_)) <;> (conv => whnf)) | ((with_reducible refine mt_eq (fun _ => ?_) (fun _ => ?_)) <;> (conv => whnf)) | ((with_reducible refine mt_ne (fun _ => ?_) (fun _ => ?_)) <;> (conv => whnf)) | ((with_reducible refine mt_not (fun _ => ?_) (fun _ => ?_)) <;> (conv => whnf)) | ((with_reducible refine mt_any (fun _ => ?_) (fun _ => ?_)) <;> (conv => whnf)))
      · rename_i hless
        refine ⟨k + 1, rfl, rfl, ⟨by omega, ?_⟩, by omega⟩
        rw [List.take_add_one, hp]
        simp only [List.all_append, hall, Option.toList, List.all_cons, List.all_nil, Bool.true_and, Bool.and_true]
        exact hless
      · rename_i hless
        have hfi : fi r key = k := tw_len hk hall (.inr ⟨p, hp, hless⟩)
        have hft : ft r key = decide (p.1 = key) := by unfold ft; rw [hfi, hp]
        rw [hfi, hft]
        ((with_reducible refine draw_pl ttOk zOk foOk mixedOk pl64x4 ?_ ?_); (focus kernel_rfl); (conv => whnf))
        repeat' (first | ((with_reducible apply rd_intro); (focus (intro K hK; (conv => whnf); first | exact hK | (intro z hz; rw [wrapI (by omega)] at hz; subst hz; exact hK))); (conv => whnf)) | ((with_reducible apply gd_and); (focus ((conv => whnf); first | rfl | (intro K hK; (conv => whnf); first | exact hK | (intro z hz; rw [wrapI (by omega)] at hz; subst hz; exact hK)))); (conv => whnf)) | ((with_reducible apply z_wrap); (focus omega); (conv => whnf)) | ((with_reducible refine mt_dec (fun _ => ?_) (fun _ => ?_)) <;> (conv => whnf)) | ((with_reducible refine mt_eq (fun _ => ?_) (fun _ => ?_)) <;> (conv => whnf)) | ((with_reducible refine mt_ne (fun _ => ?_) (fun _ => ?_)) <;> (conv => whnf)) | ((with_reducible refine mt_not (fun _ => ?_) (fun _ => ?_)) <;> (conv => whnf)) | ((with_reducible refine mt_any (fun _ => ?_) (fun _ => ?_)) <;> (conv => whnf)))
        · ((with_reducible apply rd_intro); (focus (intro K hK; (conv => whnf); exact ⟨by omega, pc p, hpp, hK⟩)); (conv => whnf))
          repeat' (first | ((with_reducible apply rd_intro); (focus (intro K hK; (conv => whnf); first | exact hK | (intro z hz; rw [wrapI (by omega)] at hz; subst hz; exact hK))); (conv => whnf)) | ((with_reducible apply gd_and); (focus ((conv => whnf); first | rfl | (intro K hK; (conv => whnf); first | exact hK | (intro z hz; rw [wrapI (by omega)] at hz; subst hz; exact hK)))); (conv => whnf)) | ((with_reducible apply z_wrap); (focus omega); (conv => whnf)) | ((with_reducible refine mt_dec (fun _ => ?_) (fun _ => ?_)) <;> (conv => whnf)) | ((with_reducible refine mt_eq (fun _ => ?_) (fun _ => ?_)) <;> (conv => whnf)) | ((with_reducible refine mt_ne (fun _ => ?_) (fun _ => ?_)) <;> (conv => whnf)) | ((with_reducible refine mt_not (fun _ => ?_) (fun _ => ?_)) <;> (conv => whnf)) | ((with_reducible refine mt_any (fun _ => ?_) (fun _ => ?_)) <;> (conv => whnf)))
          rw [toList_beq]
          exact ⟨rfl, rfl⟩
        · rename_i h2; exact absurd h h2
    · rename_i h
      have hkl : k = r.length := by omega
      have hfi : fi r key = k := tw_len hk hall (.inl hkl)
      have hft : ft r key = false := by unfold ft; rw [hfi, hkl, List.getElem?_eq_none (Nat.le_refl _)]
      rw [hfi, hft]
      ((with_reducible refine draw_pl ttOk zOk foOk mixedOk pl64x4 ?_ ?_); (focus kernel_rfl); (conv => whnf))
      repeat' (first | ((with_reducible apply rd_intro); (focus (intro K hK; (conv => whnf); first | exact hK | (intro z hz; rw [wrapI (by omega)] at hz; subst hz; exact hK))); (conv => whnf)) | ((with_reducible apply gd_and); (focus ((conv => whnf); first | rfl | (intro K hK; (conv => whnf); first | exact hK | (intro z hz; rw [wrapI (by omega)] at hz; subst hz; exact hK)))); (conv => whnf)) | ((with_reducible apply z_wrap); (focus omega); (conv => whnf)) | ((with_reducible refine mt_dec (fun _ => ?_) (fun _ => ?_)) <;> (conv => whnf)) | ((with_reducible refine mt_eq (fun _ => ?_) (fun _ => ?_)) <;> (conv => whnf)) | ((with_reducible refine mt_ne (fun _ => ?_) (fun _ => ?_)) <;> (conv => whnf)) | ((with_reducible refine mt_not (fun _ => ?_) (fun _ => ?_)) <;> (conv => whnf)) | ((with_reducible refine mt_any (fun _ => ?_) (fun _ => ?_)) <;> (conv => whnf)))
      · rename_i h2; exact absurd h2 h
      · exact ⟨rfl, rfl⟩
end Go.Proofs.Ytpedbknmkgcldaa

namespace Go.Proofs.Ytpedbknmkgcldaa
open Go.Ab Go.RowKit Go.MapKept
attribute [local irreducible] ACalls AW ADraw Into
set_option maxRecDepth 100000
theorem copyPairs_row (xs : List (ByteArray × ByteArray)) (hm : xs.length ≤ 1000000) : ACalls Try.prog 101 [.d (.sl 2 (prs xs))] [] (fun av L => av = .arr 0 ∧ L = [.row 152 2 (prs xs) false]) := by
  have hpl : (prs xs).length = xs.length := List.length_map ..
  refine acalls_go ttOk zOk foOk Try.func101 rfl Try.ntmps101 rfl true rfl ?_
  conv => whnf
  refine loop_go ttOk zOk foOk (σ := Nat) (fun k => ([(0, .d (.sl 2 (prs xs))), (3, .arr 0), (4, .d (.int .i64 k))], [.row 152 2 (prs (xs.take k)) false])) (fun k => k ≤ xs.length) (fun k => xs.length - k) [0, 3, 4] ?_ ?_
  · conv => whnf
    exact ⟨0, rfl, rfl, by omega⟩
  · rintro k hk
    conv => whnf
    ((with_reducible refine mt_dec (fun _ => ?_) (fun _ => ?_)) <;> (conv => whnf))
    · rename_i h
      obtain ⟨p, hp⟩ : ∃ p, xs[k]? = some p := ⟨_, List.getElem?_eq_getElem (by omega)⟩
      have hpp : (prs xs)[((k : Nat) : Int).toNat]? = some (pc p) := by rw [Int.toNat_natCast, prs, List.getElem?_map, hp]; rfl
      refine ⟨by omega, pc p, hpp, ?_⟩
      conv => whnf
      repeat' (first | ((with_reducible apply z_wrap); (focus omega); (conv => whnf)) | ((with_reducible refine mt_dec (fun _ => ?_) (fun _ => ?_)) <;> (conv => whnf)) | ((with_reducible refine mt_eq (fun _ => ?_) (fun _ => ?_)) <;> (conv => whnf)) | ((with_reducible refine mt_ne (fun _ => ?_) (fun _ => ?_)) <;> (conv => whnf)) | ((with_reducible refine mt_not (fun _ => ?_) (fun _ => ?_)) <;> (conv => whnf)) | ((with_reducible refine mt_any (fun _ => ?_) (fun _ => ?_)) <;> (conv => whnf)))
      refine ⟨by simp [prs]; omega, ?_⟩
      conv => whnf
      repeat' (first | ((with_reducible apply z_wrap); (focus omega); (conv => whnf)) | ((with_reducible refine mt_dec (fun _ => ?_) (fun _ => ?_)) <;> (conv => whnf)) | ((with_reducible refine mt_eq (fun _ => ?_) (fun _ => ?_)) <;> (conv => whnf)) | ((with_reducible refine mt_ne (fun _ => ?_) (fun _ => ?_)) <;> (conv => whnf)) | ((with_reducible refine mt_not (fun _ => ?_) (fun _ => ?_)) <;> (conv => whnf)) | ((with_reducible refine mt_any (fun _ => ?_) (fun _ => ?_)) <;> (conv => whnf)))
      refine ⟨k + 1, rfl, ?_, by omega, by omega⟩
      rw [List.take_add_one, hp]
      simp [prs, pc]
    · rename_i h
      obtain rfl : k = xs.length := by omega
      exact ⟨by simp, by simp⟩
end Go.Proofs.Ytpedbknmkgcldaa

namespace Go.Proofs.Ytpedbknmkgcldaa
open Go.Ab Go.RowKit Go.MapKept
attribute [local irreducible] ACalls AW ADraw Into
set_option maxRecDepth 100000
theorem wrap_u64 (i : Int) : IntKind.u64.wrap i = i % 18446744073709551616 := by
  simp [IntKind.wrap, IntKind.signed, IntKind.bits]
theorem within_ok (i n : Int) (hn : 0 < n) (hn2 : n ≤ 1000000) (hi : -9223372036854775808 ≤ i ∧ i < 9223372036854775808) : ACalls Try.prog 28 [.d (.int .i64 i), .d (.int .i64 n)] [] (fun av L => av = .d (.int .i64 ((i % 18446744073709551616) % n)) ∧ L = []) := by
  refine acalls_go ttOk zOk foOk Try.func28 rfl Try.ntmps28 rfl false rfl ?_
  conv => whnf
  intro z hz
  rw [wrap_u64] at hz
  have h0 := Int.emod_nonneg i (show (18446744073709551616 : Int) ≠ 0 by decide)
  rw [← hz] at h0 ⊢
  clear hz
  conv => whnf
  intro m hm
  have hm' : m = n := by rw [hm, wrap_u64]; omega
  clear hm
  subst hm'
  conv => whnf
  refine ⟨by omega, ?_⟩
  intro r hr
  have hr' : r = z % m := by rw [hr, Int.tmod_eq_emod_of_nonneg h0]
  clear hr
  have h1 := Int.emod_nonneg z (show m ≠ 0 by omega)
  have h2 := Int.emod_lt_of_pos z hn
  rw [← hr'] at h1 h2 ⊢
  clear hr'
  conv => whnf
  intro q hq
  have hq' : q = r := by rw [hq, wrapI (by omega)]
  clear hq
  subst hq'
  conv => whnf
  exact ⟨rfl, rfl⟩
end Go.Proofs.Ytpedbknmkgcldaa

namespace Go.Proofs.Ytpedbknmkgcldaa
open Go.Ab Go.RowKit Go.MapKept
attribute [local irreducible] ACalls AW ADraw Into
set_option maxRecDepth 100000
def Act11.av (a : Act11) : AV := .agg [.d (.int .i64 a.act), .d (.str a.key), .d (.str a.val), .d (.sl 1 (nums a.picks))]
def Act11.w (a : Act11) : Int := (a.act % 18446744073709551616) % 8
def nextP (r : List (ByteArray × ByteArray)) (a : Act11) : List (ByteArray × ByteArray) × Int :=
  if a.w = 4 then (if goodK a.key = false then (r, 1) else if ft r a.key = false then (r, 3) else (r.take (fi r a.key) ++ r.drop (fi r a.key + 1), 0))
  else if a.w = 5 ∨ a.w = 6 ∨ a.w = 7 then (r, 0)
  else if badK a.key a.val = true then (r, 1) else (r.take (fi r a.key) ++ [(a.key, a.val)] ++ r.drop (if ft r a.key = true then fi r a.key + 1 else fi r a.key), 0)
theorem fi_le (r : List (ByteArray × ByteArray)) (key : ByteArray) : fi r key ≤ r.length := by
  unfold fi
  exact (List.takeWhile_sublist _).length_le
theorem ft_lt {r : List (ByteArray × ByteArray)} {key : ByteArray} (h : ft r key = true) : fi r key < r.length := by
  unfold ft at h
  split at h
  · rename_i p hp; exact (List.getElem?_eq_some_iff.1 hp).1
  · cases h
theorem prs_cut (r : List (ByteArray × ByteArray)) (hi lo : Nat) : ((prs r).take hi).drop lo = prs ((r.take hi).drop lo) := by simp [prs]
theorem prs_app (a b : List (ByteArray × ByteArray)) : prs a ++ prs b = prs (a ++ b) := by simp [prs]
theorem gk_empty {k : ByteArray} (h : (k.toList == (⟨#[]⟩ : ByteArray).toList) = true) : goodK k = false := by
  rw [ba_empty] at h
  have : k.size = 0 := by simpa using h
  simp [goodK, this]
theorem gk_good {k : ByteArray} (h : (k.toList == (⟨#[]⟩ : ByteArray).toList) = false) (h2 : ¬ (k.size : Int) > 32) : goodK k = true := by
  rw [ba_empty] at h
  have : ¬ k.size = 0 := by simpa using h
  simp [goodK]; omega
set_option maxHeartbeats 8000000 in
theorem nextP_ok (r : List (ByteArray × ByteArray)) (a : Act11) (ha : a.ok) (hk : a.key.size ≤ 40000) (hv : a.val.size ≤ 40000) (hr : r.length ≤ 100000) : ACalls Try.prog 62 [.d (.sl 2 (prs r)), a.av] [] (fun av L => av = .tup [.d (.sl 2 (prs (nextP r a).1)), .d (.int .i64 (nextP r a).2)] ∧ L = []) := by
  have hpl : (prs r).length = r.length := List.length_map ..
  have hfi := fi_le r a.key
  obtain ⟨i, hi⟩ : ∃ i, fi r a.key = i := ⟨_, rfl⟩
  obtain ⟨t, ht⟩ : ∃ t, ft r a.key = t := ⟨_, rfl⟩
  have hlt : t = true → i < r.length := fun h => by rw [← hi]; exact ft_lt (by rw [ht]; exact h)
  rw [hi] at hfi
  refine acalls_go ttOk zOk foOk Try.func62 rfl Try.ntmps62 rfl false rfl ?_
  conv => whnf
  refine (find_ok r a.key (by omega)).mono ?_
  rintro _ _ ⟨rfl, rfl⟩
  rw [hi, ht]
  conv => whnf
  repeat' (first | ((with_reducible apply rd_intro); (focus (intro K hK; (conv => whnf); first | exact hK | (intro z hz; rw [wrapI (by omega)] at hz; subst hz; exact hK))); (conv => whnf)) | ((with_reducible apply gd_and); (focus ((conv => whnf); first | rfl | (intro K hK; (conv => whnf); first | exact hK | (intro z hz; rw [wrapI (by omega)] at hz; subst hz; exact hK)))); (conv => whnf)) | ((with_reducible apply z_wrap); (focus omega); (conv => whnf)) | ((with_reducible refine mt_dec (fun _ => ?_) (fun _ => ?_)) <;> (conv => whnf)) | ((with_reducible refine mt_eq (fun _ => ?_) (fun _ => ?_)) <;> (conv => whnf)) | ((with_reducible refine mt_ne (fun _ => ?_) (fun _ => ?_)) <;> (conv => whnf)) | ((with_reducible refine mt_not (fun _ => ?_) (fun _ => ?_)) <;> (conv => whnf)) | ((with_reducible refine mt_any (fun _ => ?_) (fun _ => ?_)) <;> (conv => whnf)))
  refine (within_ok a.act 8 (by decide) (by decide) ha.act).mono ?_
  rintro _ _ ⟨rfl, rfl⟩
  conv => whnf
  rw [show (a.act % 18446744073709551616) % 8 = a.w from rfl]
  repeat' (first | ((with_reducible apply rd_intro); (focus (intro K hK; (conv => whnf); first | exact hK | (intro z hz; rw [wrapI (by omega)] at hz; subst hz; exact hK))); (conv => whnf)) | ((with_reducible apply gd_and); (focus ((conv => whnf); first | rfl | (intro K hK; (conv => whnf); first | exact hK | (intro z hz; rw [wrapI (by omega)] at hz; subst hz; exact hK)))); (conv => whnf)) | ((with_reducible apply z_wrap); (focus omega); (conv => whnf)) | ((with_reducible refine mt_dec (fun _ => ?_) (fun _ => ?_)) <;> (conv => whnf)) | ((with_reducible refine mt_eq (fun _ => ?_) (fun _ => ?_)) <;> (conv => whnf)) | ((with_reducible refine mt_ne (fun _ => ?_) (fun _ => ?_)) <;> (conv => whnf)) | ((with_reducible refine mt_not (fun _ => ?_) (fun _ => ?_)) <;> (conv => whnf)) | ((with_reducible refine mt_any (fun _ => ?_) (fun _ => ?_)) <;> (conv => whnf)))
  · rename_i h4 h0
    have hg := gk_empty h0
    rw [show nextP r a = (r, 1) by simp only [nextP, if_pos h4, if_pos hg]]
    exact ⟨rfl, rfl⟩
  · rename_i h4 h0 h32
    have hg : goodK a.key = false := by simp [goodK]; omega
    rw [show nextP r a = (r, 1) by simp only [nextP, if_pos h4, if_pos hg]]
    exact ⟨rfl, rfl⟩
  · rename_i h4 h0 h32 htf
    have hg := gk_good h0 h32
    rw [show nextP r a = (r, 3) by simp only [nextP, if_pos h4, hg, ht, htf]; rfl]
    exact ⟨rfl, rfl⟩
  · rename_i h4 h0 h32 htt
    have hg := gk_good h0 h32
    have hil := hlt htt
    rw [show nextP r a = (r.take i ++ r.drop (i + 1), 0) by simp only [nextP, if_pos h4, hg, ht, htt, hi]; rfl]
    refine ⟨by decide, by omega, by omega, ?_⟩
    rw [show ((prs r).take ((i : Nat) : Int).toNat).drop (Int.toNat 0) = prs (r.take i) by rw [Int.toNat_natCast]; show ((prs r).take i).drop 0 = _; rw [prs_cut, List.drop_zero]]
    conv => whnf
    repeat' (first | ((with_reducible apply rd_intro); (focus (intro K hK; (conv => whnf); first | exact hK | (intro z hz; rw [wrapI (by omega)] at hz; subst hz; exact hK))); (conv => whnf)) | ((with_reducible apply gd_and); (focus ((conv => whnf); first | rfl | (intro K hK; (conv => whnf); first | exact hK | (intro z hz; rw [wrapI (by omega)] at hz; subst hz; exact hK)))); (conv => whnf)) | ((with_reducible apply z_wrap); (focus omega); (conv => whnf)) | ((with_reducible refine mt_dec (fun _ => ?_) (fun _ => ?_)) <;> (conv => whnf)) | ((with_reducible refine mt_eq (fun _ => ?_) (fun _ => ?_)) <;> (conv => whnf)) | ((with_reducible refine mt_ne (fun _ => ?_) (fun _ => ?_)) <;> (conv => whnf)) | ((with_reducible refine mt_not (fun _ => ?_) (fun _ => ?_)) <;> (conv => whnf)) | ((with_reducible refine mt_any (fun _ => ?_) (fun _ => ?_)) <;> (conv => whnf)))
    refine (copyPairs_row (r.take i) (by rw [List.length_take]; omega)).mono ?_
    rintro _ _ ⟨rfl, rfl⟩
    conv => whnf
    repeat' (first | ((with_reducible apply rd_intro); (focus (intro K hK; (conv => whnf); first | exact hK | (intro z hz; rw [wrapI (by omega)] at hz; subst hz; exact hK))); (conv => whnf)) | ((with_reducible apply gd_and); (focus ((conv => whnf); first | rfl | (intro K hK; (conv => whnf); first | exact hK | (intro z hz; rw [wrapI (by omega)] at hz; subst hz; exact hK)))); (conv => whnf)) | ((with_reducible apply z_wrap); (focus omega); (conv => whnf)) | ((with_reducible refine mt_dec (fun _ => ?_) (fun _ => ?_)) <;> (conv => whnf)) | ((with_reducible refine mt_eq (fun _ => ?_) (fun _ => ?_)) <;> (conv => whnf)) | ((with_reducible refine mt_ne (fun _ => ?_) (fun _ => ?_)) <;> (conv => whnf)) | ((with_reducible refine mt_not (fun _ => ?_) (fun _ => ?_)) <;> (conv => whnf)) | ((with_reducible refine mt_any (fun _ => ?_) (fun _ => ?_)) <;> (conv => whnf)))
    refine ⟨by omega, by omega, by omega, ?_⟩
    rw [show ((prs r).take (((prs r).length : Nat) : Int).toNat).drop ((i : Int) + 1).toNat = prs (r.drop (i + 1)) by rw [Int.toNat_natCast, show ((i : Int) + 1).toNat = i + 1 by omega, prs_cut, hpl, List.take_length]]
    conv => whnf
    repeat' (first | ((with_reducible apply rd_intro); (focus (intro K hK; (conv => whnf); first | exact hK | (intro z hz; rw [wrapI (by omega)] at hz; subst hz; exact hK))); (conv => whnf)) | ((with_reducible apply gd_and); (focus ((conv => whnf); first | rfl | (intro K hK; (conv => whnf); first | exact hK | (intro z hz; rw [wrapI (by omega)] at hz; subst hz; exact hK)))); (conv => whnf)) | ((with_reducible apply z_wrap); (focus omega); (conv => whnf)) | ((with_reducible refine mt_dec (fun _ => ?_) (fun _ => ?_)) <;> (conv => whnf)) | ((with_reducible refine mt_eq (fun _ => ?_) (fun _ => ?_)) <;> (conv => whnf)) | ((with_reducible refine mt_ne (fun _ => ?_) (fun _ => ?_)) <;> (conv => whnf)) | ((with_reducible refine mt_not (fun _ => ?_) (fun _ => ?_)) <;> (conv => whnf)) | ((with_reducible refine mt_any (fun _ => ?_) (fun _ => ?_)) <;> (conv => whnf)))
    refine ⟨by simp [prs]; (show _ * 32 ≤ _); omega, ?_⟩
    conv => whnf
    repeat' (first | ((with_reducible apply rd_intro); (focus (intro K hK; (conv => whnf); first | exact hK | (intro z hz; rw [wrapI (by omega)] at hz; subst hz; exact hK))); (conv => whnf)) | ((with_reducible apply gd_and); (focus ((conv => whnf); first | rfl | (intro K hK; (conv => whnf); first | exact hK | (intro z hz; rw [wrapI (by omega)] at hz; subst hz; exact hK)))); (conv => whnf)) | ((with_reducible apply z_wrap); (focus omega); (conv => whnf)) | ((with_reducible refine mt_dec (fun _ => ?_) (fun _ => ?_)) <;> (conv => whnf)) | ((with_reducible refine mt_eq (fun _ => ?_) (fun _ => ?_)) <;> (conv => whnf)) | ((with_reducible refine mt_ne (fun _ => ?_) (fun _ => ?_)) <;> (conv => whnf)) | ((with_reducible refine mt_not (fun _ => ?_) (fun _ => ?_)) <;> (conv => whnf)) | ((with_reducible refine mt_any (fun _ => ?_) (fun _ => ?_)) <;> (conv => whnf)))
    rw [prs_app]
    exact ⟨rfl, rfl⟩
  · rename_i h4 h5
    rw [show nextP r a = (r, 0) by simp only [nextP, if_neg h4, if_pos (Or.inl h5 : a.w = 5 ∨ a.w = 6 ∨ a.w = 7)]]
    exact ⟨rfl, rfl⟩
  · rename_i h4 h5 h6
    rw [show nextP r a = (r, 0) by simp only [nextP, if_neg h4, if_pos (Or.inr (Or.inl h6) : a.w = 5 ∨ a.w = 6 ∨ a.w = 7)]]
    exact ⟨rfl, rfl⟩
  · rename_i h4 h5 h6 h7
    rw [show nextP r a = (r, 0) by simp only [nextP, if_neg h4, if_pos (Or.inr (Or.inr h7) : a.w = 5 ∨ a.w = 6 ∨ a.w = 7)]]
    exact ⟨rfl, rfl⟩
  · rename_i h4 h5 h6 h7 h0
    have hn : ¬ (a.w = 5 ∨ a.w = 6 ∨ a.w = 7) := by rintro (h | h | h); exact h5 h; exact h6 h; exact h7 h
    have hg := gk_empty h0
    rw [show nextP r a = (r, 1) by simp only [nextP, if_neg h4, if_neg hn, if_pos (show badK a.key a.val = true by simp [badK, hg])]]
    exact ⟨rfl, rfl⟩
  · rename_i h4 h5 h6 h7 h0 h32
    have hn : ¬ (a.w = 5 ∨ a.w = 6 ∨ a.w = 7) := by rintro (h | h | h); exact h5 h; exact h6 h; exact h7 h
    have hg : goodK a.key = false := by simp [goodK]; omega
    rw [show nextP r a = (r, 1) by simp only [nextP, if_neg h4, if_neg hn, if_pos (show badK a.key a.val = true by simp [badK, hg])]]
    exact ⟨rfl, rfl⟩
  · rename_i h4 h5 h6 h7 h0 h32 hvl
    have hn : ¬ (a.w = 5 ∨ a.w = 6 ∨ a.w = 7) := by rintro (h | h | h); exact h5 h; exact h6 h; exact h7 h
    rw [show nextP r a = (r, 1) by simp only [nextP, if_neg h4, if_neg hn, if_pos (show badK a.key a.val = true by simp [badK]; right; omega)]]
    exact ⟨rfl, rfl⟩
  · rename_i h4 h5 h6 h7 h0 h32 hvl
    have hn : ¬ (a.w = 5 ∨ a.w = 6 ∨ a.w = 7) := by rintro (h | h | h); exact h5 h; exact h6 h; exact h7 h
    have hg := gk_good h0 h32
    have hb : badK a.key a.val = false := by simp [badK, hg]; omega
    rw [show nextP r a = (r.take i ++ [(a.key, a.val)] ++ r.drop (if t = true then i + 1 else i), 0) by simp only [nextP, if_neg h4, if_neg hn, if_neg (show ¬ badK a.key a.val = true by rw [hb]; decide), hi, ht]]
    have cut : ((prs r).take ((i : Nat) : Int).toNat).drop (Int.toNat 0) = prs (r.take i) := by rw [Int.toNat_natCast]; show ((prs r).take i).drop 0 = _; rw [prs_cut, List.drop_zero]
    have hti : (prs (r.take i)).length = i := by simp [prs]; omega
    ((with_reducible refine draw_pl ttOk zOk foOk mixedOk pl62x16 ?_ ?_); (focus kernel_rfl); (conv => whnf))
    repeat' (first | ((with_reducible apply rd_intro); (focus (intro K hK; (conv => whnf); first | exact hK | (intro z hz; rw [wrapI (by omega)] at hz; subst hz; exact hK))); (conv => whnf)) | ((with_reducible apply gd_and); (focus ((conv => whnf); first | rfl | (intro K hK; (conv => whnf); first | exact hK | (intro z hz; rw [wrapI (by omega)] at hz; subst hz; exact hK)))); (conv => whnf)) | ((with_reducible apply z_wrap); (focus omega); (conv => whnf)) | ((with_reducible refine mt_dec (fun _ => ?_) (fun _ => ?_)) <;> (conv => whnf)) | ((with_reducible refine mt_eq (fun _ => ?_) (fun _ => ?_)) <;> (conv => whnf)) | ((with_reducible refine mt_ne (fun _ => ?_) (fun _ => ?_)) <;> (conv => whnf)) | ((with_reducible refine mt_not (fun _ => ?_) (fun _ => ?_)) <;> (conv => whnf)) | ((with_reducible refine mt_any (fun _ => ?_) (fun _ => ?_)) <;> (conv => whnf)))
    ((with_reducible apply rd_intro); (focus (intro K hK; (conv => whnf); refine ⟨by decide, by omega, by omega, ?_⟩; rw [cut]; exact hK)); (conv => whnf))
    repeat' (first | ((with_reducible apply rd_intro); (focus (intro K hK; (conv => whnf); first | exact hK | (intro z hz; rw [wrapI (by omega)] at hz; subst hz; exact hK))); (conv => whnf)) | ((with_reducible apply gd_and); (focus ((conv => whnf); first | rfl | (intro K hK; (conv => whnf); first | exact hK | (intro z hz; rw [wrapI (by omega)] at hz; subst hz; exact hK)))); (conv => whnf)) | ((with_reducible apply z_wrap); (focus omega); (conv => whnf)) | ((with_reducible refine mt_dec (fun _ => ?_) (fun _ => ?_)) <;> (conv => whnf)) | ((with_reducible refine mt_eq (fun _ => ?_) (fun _ => ?_)) <;> (conv => whnf)) | ((with_reducible refine mt_ne (fun _ => ?_) (fun _ => ?_)) <;> (conv => whnf)) | ((with_reducible refine mt_not (fun _ => ?_) (fun _ => ?_)) <;> (conv => whnf)) | ((with_reducible refine mt_any (fun _ => ?_) (fun _ => ?_)) <;> (conv => whnf)))
    refine (copyPairs_row (r.take i) (by rw [List.length_take]; omega)).mono ?_
    rintro _ _ ⟨rfl, rfl⟩
    conv => whnf
    repeat' (first | ((with_reducible apply rd_intro); (focus (intro K hK; (conv => whnf); first | exact hK | (intro z hz; rw [wrapI (by omega)] at hz; subst hz; exact hK))); (conv => whnf)) | ((with_reducible apply gd_and); (focus ((conv => whnf); first | rfl | (intro K hK; (conv => whnf); first | exact hK | (intro z hz; rw [wrapI (by omega)] at hz; subst hz; exact hK)))); (conv => whnf)) | ((with_reducible apply z_wrap); (focus omega); (conv => whnf)) | ((with_reducible refine mt_dec (fun _ => ?_) (fun _ => ?_)) <;> (conv => whnf)) | ((with_reducible refine mt_eq (fun _ => ?_) (fun _ => ?_)) <;> (conv => whnf)) | ((with_reducible refine mt_ne (fun _ => ?_) (fun _ => ?_)) <;> (conv => whnf)) | ((with_reducible refine mt_not (fun _ => ?_) (fun _ => ?_)) <;> (conv => whnf)) | ((with_reducible refine mt_any (fun _ => ?_) (fun _ => ?_)) <;> (conv => whnf)))
    refine ⟨by rw [hti]; (show (i + 1) * 32 ≤ _); omega, ?_⟩
    conv => whnf
    repeat' (first | ((with_reducible apply rd_intro); (focus (intro K hK; (conv => whnf); first | exact hK | (intro z hz; rw [wrapI (by omega)] at hz; subst hz; exact hK))); (conv => whnf)) | ((with_reducible apply gd_and); (focus ((conv => whnf); first | rfl | (intro K hK; (conv => whnf); first | exact hK | (intro z hz; rw [wrapI (by omega)] at hz; subst hz; exact hK)))); (conv => whnf)) | ((with_reducible apply z_wrap); (focus omega); (conv => whnf)) | ((with_reducible refine mt_dec (fun _ => ?_) (fun _ => ?_)) <;> (conv => whnf)) | ((with_reducible refine mt_eq (fun _ => ?_) (fun _ => ?_)) <;> (conv => whnf)) | ((with_reducible refine mt_ne (fun _ => ?_) (fun _ => ?_)) <;> (conv => whnf)) | ((with_reducible refine mt_not (fun _ => ?_) (fun _ => ?_)) <;> (conv => whnf)) | ((with_reducible refine mt_any (fun _ => ?_) (fun _ => ?_)) <;> (conv => whnf)))
    · rename_i htt
      have hil := hlt htt
      rw [if_pos htt]
      refine ⟨by omega, by omega, by omega, ?_⟩
      rw [show ((prs r).take (((prs r).length : Nat) : Int).toNat).drop ((i : Int) + 1).toNat = prs (r.drop (i + 1)) by rw [Int.toNat_natCast, show ((i : Int) + 1).toNat = i + 1 by omega, prs_cut, hpl, List.take_length]]
      conv => whnf
      repeat' (first | ((with_reducible apply rd_intro); (focus (intro K hK; (conv => whnf); first | exact hK | (intro z hz; rw [wrapI (by omega)] at hz; subst hz; exact hK))); (conv => whnf)) | ((with_reducible apply gd_and); (focus ((conv => whnf); first | rfl | (intro K hK; (conv => whnf); first | exact hK | (intro z hz; rw [wrapI (by omega)] at hz; subst hz; exact hK)))); (conv => whnf)) | ((with_reducible apply z_wrap); (focus omega); (conv => whnf)) | ((with_reducible refine mt_dec (fun _ => ?_) (fun _ => ?_)) <;> (conv => whnf)) | ((with_reducible refine mt_eq (fun _ => ?_) (fun _ => ?_)) <;> (conv => whnf)) | ((with_reducible refine mt_ne (fun _ => ?_) (fun _ => ?_)) <;> (conv => whnf)) | ((with_reducible refine mt_not (fun _ => ?_) (fun _ => ?_)) <;> (conv => whnf)) | ((with_reducible refine mt_any (fun _ => ?_) (fun _ => ?_)) <;> (conv => whnf)))
      refine ⟨by simp [prs]; (show _ * 32 ≤ _); omega, ?_⟩
      conv => whnf
      repeat' (first | ((with_reducible apply rd_intro); (focus (intro K hK; (conv => whnf); first | exact hK | (intro z hz; rw [wrapI (by omega)] at hz; subst hz; exact hK))); (conv => whnf)) | ((with_reducible apply gd_and); (focus ((conv => whnf); first | rfl | (intro K hK; (conv => whnf); first | exact hK | (intro z hz; rw [wrapI (by omega)] at hz; subst hz; exact hK)))); (conv => whnf)) | ((with_reducible apply z_wrap); (focus omega); (conv => whnf)) | ((with_reducible refine mt_dec (fun _ => ?_) (fun _ => ?_)) <;> (conv => whnf)) | ((with_reducible refine mt_eq (fun _ => ?_) (fun _ => ?_)) <;> (conv => whnf)) | ((with_reducible refine mt_ne (fun _ => ?_) (fun _ => ?_)) <;> (conv => whnf)) | ((with_reducible refine mt_not (fun _ => ?_) (fun _ => ?_)) <;> (conv => whnf)) | ((with_reducible refine mt_any (fun _ => ?_) (fun _ => ?_)) <;> (conv => whnf)))
      refine ⟨?_, rfl⟩
      rw [← prs_app, ← prs_app]
      rfl
    · rename_i htt
      rw [if_neg (by rw [htt]; decide)]
      refine ⟨by omega, by omega, by omega, ?_⟩
      rw [show ((prs r).take (((prs r).length : Nat) : Int).toNat).drop ((i : Int)).toNat = prs (r.drop i) by rw [Int.toNat_natCast, Int.toNat_natCast, prs_cut, hpl, List.take_length]]
      conv => whnf
      repeat' (first | ((with_reducible apply rd_intro); (focus (intro K hK; (conv => whnf); first | exact hK | (intro z hz; rw [wrapI (by omega)] at hz; subst hz; exact hK))); (conv => whnf)) | ((with_reducible apply gd_and); (focus ((conv => whnf); first | rfl | (intro K hK; (conv => whnf); first | exact hK | (intro z hz; rw [wrapI (by omega)] at hz; subst hz; exact hK)))); (conv => whnf)) | ((with_reducible apply z_wrap); (focus omega); (conv => whnf)) | ((with_reducible refine mt_dec (fun _ => ?_) (fun _ => ?_)) <;> (conv => whnf)) | ((with_reducible refine mt_eq (fun _ => ?_) (fun _ => ?_)) <;> (conv => whnf)) | ((with_reducible refine mt_ne (fun _ => ?_) (fun _ => ?_)) <;> (conv => whnf)) | ((with_reducible refine mt_not (fun _ => ?_) (fun _ => ?_)) <;> (conv => whnf)) | ((with_reducible refine mt_any (fun _ => ?_) (fun _ => ?_)) <;> (conv => whnf)))
      refine ⟨by simp [prs]; (show _ * 32 ≤ _); omega, ?_⟩
      conv => whnf
      repeat' (first | ((with_reducible apply rd_intro); (focus (intro K hK; (conv => whnf); first | exact hK | (intro z hz; rw [wrapI (by omega)] at hz; subst hz; exact hK))); (conv => whnf)) | ((with_reducible apply gd_and); (focus ((conv => whnf); first | rfl | (intro K hK; (conv => whnf); first | exact hK | (intro z hz; rw [wrapI (by omega)] at hz; subst hz; exact hK)))); (conv => whnf)) | ((with_reducible apply z_wrap); (focus omega); (conv => whnf)) | ((with_reducible refine mt_dec (fun _ => ?_) (fun _ => ?_)) <;> (conv => whnf)) | ((with_reducible refine mt_eq (fun _ => ?_) (fun _ => ?_)) <;> (conv => whnf)) | ((with_reducible refine mt_ne (fun _ => ?_) (fun _ => ?_)) <;> (conv => whnf)) | ((with_reducible refine mt_not (fun _ => ?_) (fun _ => ?_)) <;> (conv => whnf)) | ((with_reducible refine mt_any (fun _ => ?_) (fun _ => ?_)) <;> (conv => whnf)))
      refine ⟨?_, rfl⟩
      rw [← prs_app, ← prs_app]
      rfl
end Go.Proofs.Ytpedbknmkgcldaa

namespace Go.Proofs.Ytpedbknmkgcldaa
open Go.Ab Go.RowKit Go.MapKept
attribute [local irreducible] ACalls AW ADraw Into
set_option maxRecDepth 100000
theorem spoil_ok (xs : List ByteArray) (hm : xs.length ≤ 8000000000) : ACalls Try.prog 50 [.arr 0] [.row 9 1 (strs xs) false] (fun av L => av = .tup [] ∧ L = [.dead]) := by
  refine acalls_go ttOk zOk foOk Try.func50 rfl Try.ntmps50 rfl true rfl ?_
  conv => whnf
  refine loop_go2 ttOk zOk foOk (σ := Nat) (ρ := List ByteArray) (fun k ys => ([(0, .arr 0), (2, .d (.int .i64 k))], [.row 9 1 (strs ys) false])) (fun k ys => k ≤ xs.length ∧ ys.length = xs.length) (fun k _ => xs.length - k) [0, 2] ?_ ?_
  · conv => whnf
    exact ⟨0, xs, rfl, rfl, by omega, rfl⟩
  · rintro k ys ⟨hk, hl⟩
    have hll : (strs ys).length = ys.length := by simp [strs]
    conv => whnf
    repeat' (first | ((with_reducible apply z_wrap); (focus omega); (conv => whnf)) | ((with_reducible refine mt_dec (fun _ => ?_) (fun _ => ?_)) <;> (conv => whnf)) | ((with_reducible refine mt_eq (fun _ => ?_) (fun _ => ?_)) <;> (conv => whnf)) | ((with_reducible refine mt_ne (fun _ => ?_) (fun _ => ?_)) <;> (conv => whnf)) | ((with_reducible refine mt_not (fun _ => ?_) (fun _ => ?_)) <;> (conv => whnf)) | ((with_reducible refine mt_any (fun _ => ?_) (fun _ => ?_)) <;> (conv => whnf)))
    · rename_i h
      refine ⟨by omega, by rw [hll]; show k < _; omega, ?_⟩
      conv => whnf
      obtain ⟨y, hy⟩ : ∃ y, ys[k]? = some y := ⟨_, List.getElem?_eq_getElem (by omega)⟩
      refine ⟨[.str y], by rw [Int.toNat_natCast, strs, List.getElem?_map, hy]; rfl, ?_⟩
      conv => whnf
      repeat' (first | ((with_reducible apply z_wrap); (focus omega); (conv => whnf)) | ((with_reducible refine mt_dec (fun _ => ?_) (fun _ => ?_)) <;> (conv => whnf)) | ((with_reducible refine mt_eq (fun _ => ?_) (fun _ => ?_)) <;> (conv => whnf)) | ((with_reducible refine mt_ne (fun _ => ?_) (fun _ => ?_)) <;> (conv => whnf)) | ((with_reducible refine mt_not (fun _ => ?_) (fun _ => ?_)) <;> (conv => whnf)) | ((with_reducible refine mt_any (fun _ => ?_) (fun _ => ?_)) <;> (conv => whnf)))
      refine ⟨k + 1, ys.set k ⟨#[115, 112, 111, 105, 108, 116]⟩, rfl, ?_, ⟨by omega, by simpa using hl⟩, by omega⟩
      simp [strs, List.map_set]
    · rename_i h
      refine ⟨by simp [strs]; omega, ?_⟩
      conv => whnf
      exact ⟨rfl, rfl⟩
end Go.Proofs.Ytpedbknmkgcldaa

namespace Go.Proofs.Ytpedbknmkgcldaa
open Go.Ab Go.RowKit Go.MapKept
attribute [local irreducible] ACalls AW ADraw Into
set_option maxRecDepth 100000
theorem rising_unique : ∀ {a b : List ByteArray}, a.Perm b → risingS a → risingS b → a = b
  | [], b, h, _, _ => by simpa using h.symm
  | x :: r, [], h, _, _ => by simp at h
  | x :: r, y :: s, h, ha, hb => by
    have ha' := List.pairwise_cons.1 ha
    have hb' := List.pairwise_cons.1 hb
    by_cases e : x = y
    · subst e
      rw [rising_unique (h.cons_inv) ha'.2 hb'.2]
    · exfalso
      have h1 : x ∈ y :: s := h.subset (by simp)
      have h2 : y ∈ x :: r := h.symm.subset (by simp)
      have h3 : x ∈ s := (List.mem_cons.1 h1).resolve_left e
      have h4 : y ∈ r := (List.mem_cons.1 h2).resolve_left (fun e2 => e e2.symm)
      have := lessS_trans (ha'.1 y h4) (hb'.1 x h3)
      rw [lessS_irr] at this
      cases this
theorem getP_mem {k v : ByteArray} : ∀ {ps : List (ByteArray × ByteArray)}, (ps.map (·.1)).Nodup → (k, v) ∈ ps → getP k ps = some v
  | [], _, h => by cases h
  | p :: r, hn, h => by
    simp only [List.map_cons, List.nodup_cons] at hn
    simp only [getP]
    rcases List.mem_cons.1 h with e | h
    · rw [← e]; simp
    · rw [if_neg (fun e => hn.1 (by rw [← e]; exact List.mem_map.2 ⟨(k, v), h, rfl⟩))]
      exact getP_mem hn.2 h
set_option maxHeartbeats 8000000 in
theorem same_ok (l : Lg) (ps : List (ByteArray × ByteArray)) (hn : (ps.map (·.1)).Nodup) (hl : ps.length ≤ 100000) (hs : ∀ p ∈ ps, p.1.size ≤ 1000000) (r : List (ByteArray × ByteArray)) (hp : r.Perm ps) (hr : risingS (r.map (·.1))) :
    ACalls Try.prog 65 [.ptr 0 0, .d (.sl 2 (prs r))] (Kc l ps false) (fun av L => av = .d (.bool true) ∧ L = Kc l ps false) := by
  have hpl : (prs r).length = r.length := List.length_map ..
  have hrl : r.length = ps.length := hp.length_eq
  refine acalls_go ttOk zOk foOk Try.func65 rfl Try.ntmps65 rfl true rfl ?_
  conv => whnf
  repeat' (first | ((with_reducible apply rd_intro); (focus (intro K hK; (conv => whnf); first | exact hK | (intro z hz; rw [wrapI (by omega)] at hz; subst hz; exact hK))); (conv => whnf)) | ((with_reducible apply gd_and); (focus ((conv => whnf); first | rfl | (intro K hK; (conv => whnf); first | exact hK | (intro z hz; rw [wrapI (by omega)] at hz; subst hz; exact hK)))); (conv => whnf)) | ((with_reducible apply z_wrap); (focus omega); (conv => whnf)) | ((with_reducible refine mt_dec (fun _ => ?_) (fun _ => ?_)) <;> (conv => whnf)) | ((with_reducible refine mt_eq (fun _ => ?_) (fun _ => ?_)) <;> (conv => whnf)) | ((with_reducible refine mt_ne (fun _ => ?_) (fun _ => ?_)) <;> (conv => whnf)) | ((with_reducible refine mt_not (fun _ => ?_) (fun _ => ?_)) <;> (conv => whnf)) | ((with_reducible refine mt_any (fun _ => ?_) (fun _ => ?_)) <;> (conv => whnf)))
  refine (keysC l ps false hn (by omega) hs).mono ?_
  rintro _ _ ⟨rfl, ss, hss, hrs, rfl⟩
  obtain rfl : ss = r.map (·.1) := rising_unique (hss.trans (hp.map _).symm) hrs hr
  have hsl : (strs (r.map (·.1))).length = r.length := by simp [strs]
  conv => whnf
  repeat' (first | ((with_reducible apply rd_intro); (focus (intro K hK; (conv => whnf); first | exact hK | (intro z hz; rw [wrapI (by omega)] at hz; subst hz; exact hK))); (conv => whnf)) | ((with_reducible apply gd_and); (focus ((conv => whnf); first | rfl | (intro K hK; (conv => whnf); first | exact hK | (intro z hz; rw [wrapI (by omega)] at hz; subst hz; exact hK)))); (conv => whnf)) | ((with_reducible apply z_wrap); (focus omega); (conv => whnf)) | ((with_reducible refine mt_dec (fun _ => ?_) (fun _ => ?_)) <;> (conv => whnf)) | ((with_reducible refine mt_eq (fun _ => ?_) (fun _ => ?_)) <;> (conv => whnf)) | ((with_reducible refine mt_ne (fun _ => ?_) (fun _ => ?_)) <;> (conv => whnf)) | ((with_reducible refine mt_not (fun _ => ?_) (fun _ => ?_)) <;> (conv => whnf)) | ((with_reducible refine mt_any (fun _ => ?_) (fun _ => ?_)) <;> (conv => whnf)))
  · rename_i h; exfalso; apply h; rw [hsl, hpl]
  refine loop_go ttOk zOk foOk (σ := Nat) (fun k => ([(0, .ptr 0 0), (1, .d (.sl 2 (prs r))), (5, .arr 6), (6, .d (.int .i64 k))], Kc l ps false ++ [.row 9 1 (strs (r.map (·.1))) false])) (fun k => k ≤ r.length) (fun k => r.length - k) [0, 1, 5, 6] ?_ ?_
  · conv => whnf
    exact ⟨0, rfl, rfl, Nat.zero_le _⟩
  · intro k hk
    conv => whnf
    repeat' (first | ((with_reducible apply rd_intro); (focus (intro K hK; (conv => whnf); first | exact hK | (intro z hz; rw [wrapI (by omega)] at hz; subst hz; exact hK))); (conv => whnf)) | ((with_reducible apply gd_and); (focus ((conv => whnf); first | rfl | (intro K hK; (conv => whnf); first | exact hK | (intro z hz; rw [wrapI (by omega)] at hz; subst hz; exact hK)))); (conv => whnf)) | ((with_reducible apply z_wrap); (focus omega); (conv => whnf)) | ((with_reducible refine mt_dec (fun _ => ?_) (fun _ => ?_)) <;> (conv => whnf)) | ((with_reducible refine mt_eq (fun _ => ?_) (fun _ => ?_)) <;> (conv => whnf)) | ((with_reducible refine mt_ne (fun _ => ?_) (fun _ => ?_)) <;> (conv => whnf)) | ((with_reducible refine mt_not (fun _ => ?_) (fun _ => ?_)) <;> (conv => whnf)) | ((with_reducible refine mt_any (fun _ => ?_) (fun _ => ?_)) <;> (conv => whnf)))
    · rename_i h
      obtain ⟨p, hpk⟩ : ∃ p, r[k]? = some p := ⟨_, List.getElem?_eq_getElem (by omega)⟩
      have hpp : (prs r)[((k : Nat) : Int).toNat]? = some (pc p) := by rw [Int.toNat_natCast, prs, List.getElem?_map, hpk]; rfl
      have hkk : (strs (r.map (·.1)))[((k : Nat) : Int).toNat]? = some [.str p.1] := by rw [Int.toNat_natCast, strs, List.getElem?_map, List.getElem?_map, hpk]; rfl
      have hget : getP p.1 ps = some p.2 := getP_mem hn (hp.subset (List.mem_of_getElem? hpk))
      refine ⟨by omega, pc p, hpp, ?_⟩
      conv => whnf
      repeat' (first | ((with_reducible apply rd_intro); (focus (intro K hK; (conv => whnf); first | exact hK | (intro z hz; rw [wrapI (by omega)] at hz; subst hz; exact hK))); (conv => whnf)) | ((with_reducible apply gd_and); (focus ((conv => whnf); first | rfl | (intro K hK; (conv => whnf); first | exact hK | (intro z hz; rw [wrapI (by omega)] at hz; subst hz; exact hK)))); (conv => whnf)) | ((with_reducible apply z_wrap); (focus omega); (conv => whnf)) | ((with_reducible refine mt_dec (fun _ => ?_) (fun _ => ?_)) <;> (conv => whnf)) | ((with_reducible refine mt_eq (fun _ => ?_) (fun _ => ?_)) <;> (conv => whnf)) | ((with_reducible refine mt_ne (fun _ => ?_) (fun _ => ?_)) <;> (conv => whnf)) | ((with_reducible refine mt_not (fun _ => ?_) (fun _ => ?_)) <;> (conv => whnf)) | ((with_reducible refine mt_any (fun _ => ?_) (fun _ => ?_)) <;> (conv => whnf)))
      refine (getC l ps false p.1).mono ?_
      rintro _ _ ⟨rfl, rfl⟩
      rw [hget]
      conv => whnf
      repeat' (first | ((with_reducible apply rd_intro); (focus (intro K hK; (conv => whnf); first | exact hK | (intro z hz; rw [wrapI (by omega)] at hz; subst hz; exact hK))); (conv => whnf)) | ((with_reducible apply gd_and); (focus ((conv => whnf); first | rfl | (intro K hK; (conv => whnf); first | exact hK | (intro z hz; rw [wrapI (by omega)] at hz; subst hz; exact hK)))); (conv => whnf)) | ((with_reducible apply z_wrap); (focus omega); (conv => whnf)) | ((with_reducible refine mt_dec (fun _ => ?_) (fun _ => ?_)) <;> (conv => whnf)) | ((with_reducible refine mt_eq (fun _ => ?_) (fun _ => ?_)) <;> (conv => whnf)) | ((with_reducible refine mt_ne (fun _ => ?_) (fun _ => ?_)) <;> (conv => whnf)) | ((with_reducible refine mt_not (fun _ => ?_) (fun _ => ?_)) <;> (conv => whnf)) | ((with_reducible refine mt_any (fun _ => ?_) (fun _ => ?_)) <;> (conv => whnf)))
      ((with_reducible refine draw_pl ttOk zOk foOk mixedOk pl65x8 ?_ ?_); (focus kernel_rfl); (conv => whnf))
      repeat' (first | ((with_reducible apply rd_intro); (focus (intro K hK; (conv => whnf); first | exact hK | (intro z hz; rw [wrapI (by omega)] at hz; subst hz; exact hK))); (conv => whnf)) | ((with_reducible apply gd_and); (focus ((conv => whnf); first | rfl | (intro K hK; (conv => whnf); first | exact hK | (intro z hz; rw [wrapI (by omega)] at hz; subst hz; exact hK)))); (conv => whnf)) | ((with_reducible apply z_wrap); (focus omega); (conv => whnf)) | ((with_reducible refine mt_dec (fun _ => ?_) (fun _ => ?_)) <;> (conv => whnf)) | ((with_reducible refine mt_eq (fun _ => ?_) (fun _ => ?_)) <;> (conv => whnf)) | ((with_reducible refine mt_ne (fun _ => ?_) (fun _ => ?_)) <;> (conv => whnf)) | ((with_reducible refine mt_not (fun _ => ?_) (fun _ => ?_)) <;> (conv => whnf)) | ((with_reducible refine mt_any (fun _ => ?_) (fun _ => ?_)) <;> (conv => whnf)))
      ((with_reducible apply rd_intro); (focus (intro K hK; (conv => whnf); exact ⟨by omega, by rw [hsl]; (show k < r.length); omega, hK⟩)); (conv => whnf))
      repeat' (first | ((with_reducible apply rd_intro); (focus (intro K hK; (conv => whnf); first | exact hK | (intro z hz; rw [wrapI (by omega)] at hz; subst hz; exact hK))); (conv => whnf)) | ((with_reducible apply gd_and); (focus ((conv => whnf); first | rfl | (intro K hK; (conv => whnf); first | exact hK | (intro z hz; rw [wrapI (by omega)] at hz; subst hz; exact hK)))); (conv => whnf)) | ((with_reducible apply z_wrap); (focus omega); (conv => whnf)) | ((with_reducible refine mt_dec (fun _ => ?_) (fun _ => ?_)) <;> (conv => whnf)) | ((with_reducible refine mt_eq (fun _ => ?_) (fun _ => ?_)) <;> (conv => whnf)) | ((with_reducible refine mt_ne (fun _ => ?_) (fun _ => ?_)) <;> (conv => whnf)) | ((with_reducible refine mt_not (fun _ => ?_) (fun _ => ?_)) <;> (conv => whnf)) | ((with_reducible refine mt_any (fun _ => ?_) (fun _ => ?_)) <;> (conv => whnf)))
      ((with_reducible apply rd_intro); (focus (intro K hK; (conv => whnf); exact ⟨[.str p.1], hkk, hK⟩)); (conv => whnf))
      repeat' (first | ((with_reducible apply rd_intro); (focus (intro K hK; (conv => whnf); first | exact hK | (intro z hz; rw [wrapI (by omega)] at hz; subst hz; exact hK))); (conv => whnf)) | ((with_reducible apply gd_and); (focus ((conv => whnf); first | rfl | (intro K hK; (conv => whnf); first | exact hK | (intro z hz; rw [wrapI (by omega)] at hz; subst hz; exact hK)))); (conv => whnf)) | ((with_reducible apply z_wrap); (focus omega); (conv => whnf)) | ((with_reducible refine mt_dec (fun _ => ?_) (fun _ => ?_)) <;> (conv => whnf)) | ((with_reducible refine mt_eq (fun _ => ?_) (fun _ => ?_)) <;> (conv => whnf)) | ((with_reducible refine mt_ne (fun _ => ?_) (fun _ => ?_)) <;> (conv => whnf)) | ((with_reducible refine mt_not (fun _ => ?_) (fun _ => ?_)) <;> (conv => whnf)) | ((with_reducible refine mt_any (fun _ => ?_) (fun _ => ?_)) <;> (conv => whnf)))
      ((with_reducible apply rd_intro); (focus (intro K hK; (conv => whnf); exact ⟨by omega, pc p, hpp, hK⟩)); (conv => whnf))
      repeat' (first | ((with_reducible apply rd_intro); (focus (intro K hK; (conv => whnf); first | exact hK | (intro z hz; rw [wrapI (by omega)] at hz; subst hz; exact hK))); (conv => whnf)) | ((with_reducible apply gd_and); (focus ((conv => whnf); first | rfl | (intro K hK; (conv => whnf); first | exact hK | (intro z hz; rw [wrapI (by omega)] at hz; subst hz; exact hK)))); (conv => whnf)) | ((with_reducible apply z_wrap); (focus omega); (conv => whnf)) | ((with_reducible refine mt_dec (fun _ => ?_) (fun _ => ?_)) <;> (conv => whnf)) | ((with_reducible refine mt_eq (fun _ => ?_) (fun _ => ?_)) <;> (conv => whnf)) | ((with_reducible refine mt_ne (fun _ => ?_) (fun _ => ?_)) <;> (conv => whnf)) | ((with_reducible refine mt_not (fun _ => ?_) (fun _ => ?_)) <;> (conv => whnf)) | ((with_reducible refine mt_any (fun _ => ?_) (fun _ => ?_)) <;> (conv => whnf)))
      · rename_i h2; simp at h2
      refine (num11_ok 0).mono ?_
      rintro _ _ ⟨rfl, rfl⟩
      conv => whnf
      repeat' (first | (first | ((with_reducible apply rd_intro); (focus (intro K hK; (conv => whnf); first | exact hK | (intro z hz; rw [wrapI (by omega)] at hz; subst hz; exact hK))); (conv => whnf)) | ((with_reducible apply gd_and); (focus ((conv => whnf); first | rfl | (intro K hK; (conv => whnf); first | exact hK | (intro z hz; rw [wrapI (by omega)] at hz; subst hz; exact hK)))); (conv => whnf)) | ((with_reducible apply z_wrap); (focus omega); (conv => whnf)) | ((with_reducible refine mt_dec (fun _ => ?_) (fun _ => ?_)) <;> (conv => whnf)) | ((with_reducible refine mt_eq (fun _ => ?_) (fun _ => ?_)) <;> (conv => whnf)) | ((with_reducible refine mt_ne (fun _ => ?_) (fun _ => ?_)) <;> (conv => whnf)) | ((with_reducible refine mt_not (fun _ => ?_) (fun _ => ?_)) <;> (conv => whnf)) | ((with_reducible refine mt_any (fun _ => ?_) (fun _ => ?_)) <;> (conv => whnf))) | ((with_reducible apply gd_and); (focus ((conv => whnf); intro K hK; (conv => whnf); exact ⟨by omega, by rw [hsl]; (show k < r.length); omega, hK⟩)); (conv => whnf)) | ((with_reducible apply gd_and); (focus ((conv => whnf); intro K hK; (conv => whnf); exact ⟨[.str p.1], hkk, hK⟩)); (conv => whnf)) | ((with_reducible apply gd_and); (focus ((conv => whnf); intro K hK; (conv => whnf); exact ⟨by omega, pc p, hpp, hK⟩)); (conv => whnf)) | ((with_reducible apply rd_intro); (focus (intro K hK; (conv => whnf); exact ⟨by omega, pc p, hpp, hK⟩)); (conv => whnf)))
      · rename_i h3; simp at h3
      · exact ⟨k + 1, rfl, rfl, by omega, by omega⟩
    · rename_i h
      obtain rfl : k = r.length := by omega
      (refine Or.inr ?_; (conv => whnf))
      refine (spoil_ok (r.map (·.1)) (by simp; omega)).mono ?_
      rintro _ _ ⟨rfl, rfl⟩
      conv => whnf
      exact ⟨rfl, rfl⟩
end Go.Proofs.Ytpedbknmkgcldaa

namespace Go.Proofs.Ytpedbknmkgcldaa
open Go.Ab Go.RowKit
theorem ba_ext {a b : ByteArray} (h : a.data.toList = b.data.toList) : a = b := by
  rcases a with ⟨⟨a⟩⟩; rcases b with ⟨⟨b⟩⟩
  simpa using h
theorem ba_extract (s : ByteArray) (i j : Nat) : (s.extract i j).data.toList = (s.data.toList.drop i).take (j - i) := by
  rw [ByteArray.data_extract, Array.toList_extract, List.extract_eq_take_drop]
theorem rec_list (kind k v : ByteArray) : (recK kind k v).data.toList = kind.data.toList ++ (UInt8.ofNat k.size :: (k.data.toList ++ v.data.toList)) := by
  unfold recK
  simp
theorem rec_at (kind k v : ByteArray) (h : kind.size = 1) : (recK kind k v)[1]? = some (UInt8.ofNat k.size) := by
  have hl : kind.data.toList.length = 1 := by simpa using h
  have e : (recK kind k v)[1]? = (recK kind k v).data.toList[1]? := by
    by_cases hs : 1 < (recK kind k v).size
    · have h1 : (recK kind k v)[1]? = some ((recK kind k v)[1]'hs) := by simp [hs]
      have h2 : (recK kind k v).data.toList[1]? = some ((recK kind k v)[1]'hs) := by
        rw [List.getElem?_eq_getElem (by simpa using hs)]; rfl
      rw [h1, h2]
    · exfalso
      have := rec_size kind k v
      omega
  rw [e, rec_list, List.getElem?_append_right (by omega), hl]
  rfl
theorem rec_key (kind k v : ByteArray) (h : kind.size = 1) : (recK kind k v).extract 2 (2 + k.size) = k := by
  have hl : kind.data.toList.length = 1 := by simpa using h
  have hk : k.data.toList.length = k.size := by simp
  apply ba_ext
  rw [ba_extract, rec_list, List.drop_append, hl, List.drop_eq_nil_of_le (by omega)]
  simp only [List.nil_append, Nat.add_sub_cancel_left]
  show (k.data.toList ++ v.data.toList).take k.size = _
  rw [← hk, List.take_left]
theorem rec_val (kind k v : ByteArray) (h : kind.size = 1) : (recK kind k v).extract (2 + k.size) (recK kind k v).size = v := by
  have hl : kind.data.toList.length = 1 := by simpa using h
  have hk : k.data.toList.length = k.size := by simp
  have hv : v.data.toList.length = v.size := by simp
  have hs := rec_size kind k v
  apply ba_ext
  rw [ba_extract, rec_list, List.drop_append, hl, List.drop_eq_nil_of_le (by omega), show 2 + k.size - 1 = k.size + 1 by omega]
  simp only [List.nil_append, List.drop_succ_cons]
  rw [← hk, List.drop_left, List.take_of_length_le (by omega)]
theorem rec_kind (kind k v : ByteArray) (h : kind.size = 1) : (recK kind k v).extract 0 1 = kind := by
  have hl : kind.data.toList.length = 1 := by simpa using h
  apply ba_ext
  rw [ba_extract, rec_list, List.drop_zero, List.take_append_of_le_length (by omega), List.take_of_length_le (by omega)]
/-! what a record does -/
inductive Op11 where
  | put (k v : ByteArray)
  | del (k : ByteArray)
def Op11.enc : Op11 → ByteArray
  | .put k v => recK kP k v
  | .del k => recK kD k ⟨#[]⟩
def Op11.app (ps : List (ByteArray × ByteArray)) : Op11 → List (ByteArray × ByteArray)
  | .put k v => setP k v ps
  | .del k => delP k ps
def Op11.ok : Op11 → Prop
  | .put k v => k.size ≤ 32 ∧ v.size ≤ 4032
  | .del k => k.size ≤ 32
theorem del_sub2 (k : ByteArray) : ∀ ps : List (ByteArray × ByteArray), (delP k ps).Sublist ps
  | [] => List.Sublist.refl _
  | p :: r => by
    simp only [delP]
    split
    · exact List.sublist_cons_self ..
    · exact (del_sub2 k r).cons_cons p
theorem del_notin {k : ByteArray} : ∀ {ps : List (ByteArray × ByteArray)}, (ps.map (·.1)).Nodup → k ∉ (delP k ps).map (·.1)
  | [], _ => by simp [delP]
  | p :: r, hn => by
    simp only [List.map_cons, List.nodup_cons] at hn
    simp only [delP]
    split
    · rename_i e; rw [e]; exact hn.1
    · rename_i e
      simp only [List.map_cons, List.mem_cons, not_or]
      exact ⟨e, del_notin hn.2⟩
theorem set_nodup {k v : ByteArray} {ps : List (ByteArray × ByteArray)} (hn : (ps.map (·.1)).Nodup) : ((setP k v ps).map (·.1)).Nodup := by
  unfold setP
  rw [List.map_append, List.nodup_append]
  refine ⟨hn.sublist ((del_sub2 k ps).map _), by simp, ?_⟩
  intro a ha b hb e
  simp only [List.map_cons, List.map_nil, List.mem_singleton] at hb
  rw [e, hb] at ha
  exact del_notin hn ha
theorem app_nodup {ps : List (ByteArray × ByteArray)} (hn : (ps.map (·.1)).Nodup) (o : Op11) : ((o.app ps).map (·.1)).Nodup := by
  cases o with
  | put k v => exact set_nodup hn
  | del k => exact hn.sublist ((del_sub2 k ps).map _)
theorem app_psum (ps : List (ByteArray × ByteArray)) (o : Op11) : psum (o.app ps) ≤ psum ps + 4 * (o.enc.size + 16) := by
  cases o with
  | put k v =>
    have h1 := del_psum k ps
    have h2 := rec_size kP k v
    have h3 : kP.size = 1 := rfl
    show psum (setP k v ps) ≤ psum ps + 4 * ((recK kP k v).size + 16)
    simp only [setP, psum_app, psum]
    omega
  | del k =>
    have h1 := del_psum k ps
    show psum (delP k ps) ≤ _
    omega
end Go.Proofs.Ytpedbknmkgcldaa

namespace Go.Proofs.Ytpedbknmkgcldaa
open Go.Ab Go.RowKit Go.MapKept
attribute [local irreducible] ACalls AW ADraw Into
set_option maxRecDepth 100000
theorem wrap8 (n : Nat) (h : n ≤ 255) : ((UInt8.ofNat n).toNat : Int) = n := by simp; omega
theorem readP_ok (k : Kp) (hp : psum k.ps ≤ 1000000000) (hn : (k.ps.map (·.1)).Nodup) (key val : ByteArray) (hk : key.size ≤ 32) (hv : val.size ≤ 100000) : ACalls Try.prog 95 [.ptr 0 0, .d (.str (recK kP key val))] k.K (fun av L => av = .d (.bool true) ∧ L = Kp.K { k with ps := setP key val k.ps }) := by
  have hs := rec_size kP key val
  have hkp : kP.size = 1 := rfl
  have h1 := rec_at kP key val hkp
  have h2 := rec_key kP key val hkp
  have h3 := rec_val kP key val hkp
  have h4 := rec_kind kP key val hkp
  obtain ⟨s, hrec⟩ : ∃ s, recK kP key val = s := ⟨_, rfl⟩
  rw [hrec] at hs h1 h2 h3 h4 ⊢
  obtain ⟨c, hc⟩ : ∃ c, UInt8.ofNat key.size = c := ⟨_, rfl⟩
  have hcn : (c.toNat : Int) = key.size := by rw [← hc]; exact wrap8 _ (by omega)
  rw [hc] at h1
  have e1 : s.extract (Int.toNat 2) (2 + (c.toNat : Int)).toNat = key := by rw [show (2 + (c.toNat : Int)).toNat = 2 + key.size by omega]; exact h2
  have e2 : s.extract (2 + (c.toNat : Int)).toNat ((s.size : Nat) : Int).toNat = val := by rw [show (2 + (c.toNat : Int)).toNat = 2 + key.size by omega, Int.toNat_natCast]; exact h3
  obtain ⟨kk, hkk⟩ : ∃ kk, kk = kP := ⟨_, rfl⟩
  have e3 : s.extract (Int.toNat 0) (Int.toNat 1) = kk := by rw [hkk]; exact h4
  refine acalls_go ttOk zOk foOk Try.func95 rfl Try.ntmps95 rfl false rfl ?_
  conv => whnf
  repeat' (first | ((with_reducible apply rd_intro); (focus (intro K hK; (conv => whnf); first | exact hK | (intro z hz; rw [wrapI (by omega)] at hz; subst hz; exact hK))); (conv => whnf)) | ((with_reducible apply gd_and); (focus ((conv => whnf); first | rfl | (intro K hK; (conv => whnf); first | exact hK | (intro z hz; rw [wrapI (by omega)] at hz; subst hz; exact hK)))); (conv => whnf)) | ((with_reducible apply z_wrap); (focus omega); (conv => whnf)) | ((with_reducible refine mt_dec (fun _ => ?_) (fun _ => ?_)) <;> (conv => whnf)) | ((with_reducible refine mt_eq (fun _ => ?_) (fun _ => ?_)) <;> (conv => whnf)) | ((with_reducible refine mt_ne (fun _ => ?_) (fun _ => ?_)) <;> (conv => whnf)) | ((with_reducible refine mt_not (fun _ => ?_) (fun _ => ?_)) <;> (conv => whnf)) | ((with_reducible refine mt_any (fun _ => ?_) (fun _ => ?_)) <;> (conv => whnf)))
  · exfalso; omega
  ((with_reducible refine ix_str h1 ?_ ?_); (focus (first | rfl | omega)); (conv => whnf))
  repeat' (first | ((with_reducible apply rd_intro); (focus (intro K hK; (conv => whnf); first | exact hK | (intro z hz; rw [wrapI (by omega)] at hz; subst hz; exact hK))); (conv => whnf)) | ((with_reducible apply gd_and); (focus ((conv => whnf); first | rfl | (intro K hK; (conv => whnf); first | exact hK | (intro z hz; rw [wrapI (by omega)] at hz; subst hz; exact hK)))); (conv => whnf)) | ((with_reducible apply z_wrap); (focus omega); (conv => whnf)) | ((with_reducible refine mt_dec (fun _ => ?_) (fun _ => ?_)) <;> (conv => whnf)) | ((with_reducible refine mt_eq (fun _ => ?_) (fun _ => ?_)) <;> (conv => whnf)) | ((with_reducible refine mt_ne (fun _ => ?_) (fun _ => ?_)) <;> (conv => whnf)) | ((with_reducible refine mt_not (fun _ => ?_) (fun _ => ?_)) <;> (conv => whnf)) | ((with_reducible refine mt_any (fun _ => ?_) (fun _ => ?_)) <;> (conv => whnf)))
  · exfalso; omega
  rename_i hge
  ((with_reducible refine draw_pl ttOk zOk foOk mixedOk pl95x3 ?_ ?_); (focus kernel_rfl); (conv => whnf))
  repeat' (first | ((with_reducible apply rd_intro); (focus (intro K hK; (conv => whnf); first | exact hK | (intro z hz; rw [wrapI (by omega)] at hz; subst hz; exact hK))); (conv => whnf)) | ((with_reducible apply gd_and); (focus ((conv => whnf); first | rfl | (intro K hK; (conv => whnf); first | exact hK | (intro z hz; rw [wrapI (by omega)] at hz; subst hz; exact hK)))); (conv => whnf)) | ((with_reducible apply z_wrap); (focus omega); (conv => whnf)) | ((with_reducible refine mt_dec (fun _ => ?_) (fun _ => ?_)) <;> (conv => whnf)) | ((with_reducible refine mt_eq (fun _ => ?_) (fun _ => ?_)) <;> (conv => whnf)) | ((with_reducible refine mt_ne (fun _ => ?_) (fun _ => ?_)) <;> (conv => whnf)) | ((with_reducible refine mt_not (fun _ => ?_) (fun _ => ?_)) <;> (conv => whnf)) | ((with_reducible refine mt_any (fun _ => ?_) (fun _ => ?_)) <;> (conv => whnf)))
  ((with_reducible apply rd_intro); (focus (intro K hK; (conv => whnf); exact ⟨by decide, c, h1, hK⟩)); (conv => whnf))
  repeat' (first | ((with_reducible apply rd_intro); (focus (intro K hK; (conv => whnf); first | exact hK | (intro z hz; rw [wrapI (by omega)] at hz; subst hz; exact hK))); (conv => whnf)) | ((with_reducible apply gd_and); (focus ((conv => whnf); first | rfl | (intro K hK; (conv => whnf); first | exact hK | (intro z hz; rw [wrapI (by omega)] at hz; subst hz; exact hK)))); (conv => whnf)) | ((with_reducible apply z_wrap); (focus omega); (conv => whnf)) | ((with_reducible refine mt_dec (fun _ => ?_) (fun _ => ?_)) <;> (conv => whnf)) | ((with_reducible refine mt_eq (fun _ => ?_) (fun _ => ?_)) <;> (conv => whnf)) | ((with_reducible refine mt_ne (fun _ => ?_) (fun _ => ?_)) <;> (conv => whnf)) | ((with_reducible refine mt_not (fun _ => ?_) (fun _ => ?_)) <;> (conv => whnf)) | ((with_reducible refine mt_any (fun _ => ?_) (fun _ => ?_)) <;> (conv => whnf)))
  ((with_reducible apply rd_intro); (focus (intro K hK; (conv => whnf); refine ⟨by decide, by omega, by omega, ?_⟩; rw [e1]; exact hK)); (conv => whnf))
  repeat' (first | ((with_reducible apply rd_intro); (focus (intro K hK; (conv => whnf); first | exact hK | (intro z hz; rw [wrapI (by omega)] at hz; subst hz; exact hK))); (conv => whnf)) | ((with_reducible apply gd_and); (focus ((conv => whnf); first | rfl | (intro K hK; (conv => whnf); first | exact hK | (intro z hz; rw [wrapI (by omega)] at hz; subst hz; exact hK)))); (conv => whnf)) | ((with_reducible apply z_wrap); (focus omega); (conv => whnf)) | ((with_reducible refine mt_dec (fun _ => ?_) (fun _ => ?_)) <;> (conv => whnf)) | ((with_reducible refine mt_eq (fun _ => ?_) (fun _ => ?_)) <;> (conv => whnf)) | ((with_reducible refine mt_ne (fun _ => ?_) (fun _ => ?_)) <;> (conv => whnf)) | ((with_reducible refine mt_not (fun _ => ?_) (fun _ => ?_)) <;> (conv => whnf)) | ((with_reducible refine mt_any (fun _ => ?_) (fun _ => ?_)) <;> (conv => whnf)))
  ((with_reducible apply rd_intro); (focus (intro K hK; (conv => whnf); exact ⟨by decide, c, h1, hK⟩)); (conv => whnf))
  repeat' (first | ((with_reducible apply rd_intro); (focus (intro K hK; (conv => whnf); first | exact hK | (intro z hz; rw [wrapI (by omega)] at hz; subst hz; exact hK))); (conv => whnf)) | ((with_reducible apply gd_and); (focus ((conv => whnf); first | rfl | (intro K hK; (conv => whnf); first | exact hK | (intro z hz; rw [wrapI (by omega)] at hz; subst hz; exact hK)))); (conv => whnf)) | ((with_reducible apply z_wrap); (focus omega); (conv => whnf)) | ((with_reducible refine mt_dec (fun _ => ?_) (fun _ => ?_)) <;> (conv => whnf)) | ((with_reducible refine mt_eq (fun _ => ?_) (fun _ => ?_)) <;> (conv => whnf)) | ((with_reducible refine mt_ne (fun _ => ?_) (fun _ => ?_)) <;> (conv => whnf)) | ((with_reducible refine mt_not (fun _ => ?_) (fun _ => ?_)) <;> (conv => whnf)) | ((with_reducible refine mt_any (fun _ => ?_) (fun _ => ?_)) <;> (conv => whnf)))
  ((with_reducible apply rd_intro); (focus (intro K hK; (conv => whnf); refine ⟨by omega, by omega, by omega, ?_⟩; rw [e2]; exact hK)); (conv => whnf))
  repeat' (first | ((with_reducible apply rd_intro); (focus (intro K hK; (conv => whnf); first | exact hK | (intro z hz; rw [wrapI (by omega)] at hz; subst hz; exact hK))); (conv => whnf)) | ((with_reducible apply gd_and); (focus ((conv => whnf); first | rfl | (intro K hK; (conv => whnf); first | exact hK | (intro z hz; rw [wrapI (by omega)] at hz; subst hz; exact hK)))); (conv => whnf)) | ((with_reducible apply z_wrap); (focus omega); (conv => whnf)) | ((with_reducible refine mt_dec (fun _ => ?_) (fun _ => ?_)) <;> (conv => whnf)) | ((with_reducible refine mt_eq (fun _ => ?_) (fun _ => ?_)) <;> (conv => whnf)) | ((with_reducible refine mt_ne (fun _ => ?_) (fun _ => ?_)) <;> (conv => whnf)) | ((with_reducible refine mt_not (fun _ => ?_) (fun _ => ?_)) <;> (conv => whnf)) | ((with_reducible refine mt_any (fun _ => ?_) (fun _ => ?_)) <;> (conv => whnf)))
  refine ⟨by decide, by decide, by omega, ?_⟩
  rw [e3]
  conv => whnf
  ((with_reducible refine mt_any (fun _ => ?_) (fun _ => ?_)) <;> (conv => whnf))
  · refine (set_ok k hp hn key val (by omega) (by omega)).mono ?_
    rintro _ _ ⟨rfl, rfl⟩
    conv => whnf
    exact ⟨rfl, rfl⟩
  · rename_i h
    exfalso
    rw [hkk, ByteArray.toList_eq, ByteArray.toList_eq] at h
    exact absurd h (by decide)
theorem readD_ok (k : Kp) (hp : psum k.ps ≤ 1000000000) (key val : ByteArray) (hk : key.size ≤ 32) (hv : val.size ≤ 100000) : ACalls Try.prog 95 [.ptr 0 0, .d (.str (recK kD key val))] k.K (fun av L => av = .d (.bool true) ∧ L = Kp.K { k with ps := delP key k.ps }) := by
  have hs := rec_size kD key val
  have hkp : kD.size = 1 := rfl
  have h1 := rec_at kD key val hkp
  have h2 := rec_key kD key val hkp
  have h3 := rec_val kD key val hkp
  have h4 := rec_kind kD key val hkp
  obtain ⟨s, hrec⟩ : ∃ s, recK kD key val = s := ⟨_, rfl⟩
  rw [hrec] at hs h1 h2 h3 h4 ⊢
  obtain ⟨c, hc⟩ : ∃ c, UInt8.ofNat key.size = c := ⟨_, rfl⟩
  have hcn : (c.toNat : Int) = key.size := by rw [← hc]; exact wrap8 _ (by omega)
  rw [hc] at h1
  have e1 : s.extract (Int.toNat 2) (2 + (c.toNat : Int)).toNat = key := by rw [show (2 + (c.toNat : Int)).toNat = 2 + key.size by omega]; exact h2
  have e2 : s.extract (2 + (c.toNat : Int)).toNat ((s.size : Nat) : Int).toNat = val := by rw [show (2 + (c.toNat : Int)).toNat = 2 + key.size by omega, Int.toNat_natCast]; exact h3
  obtain ⟨kk, hkk⟩ : ∃ kk, kk = kD := ⟨_, rfl⟩
  have e3 : s.extract (Int.toNat 0) (Int.toNat 1) = kk := by rw [hkk]; exact h4
  refine acalls_go ttOk zOk foOk Try.func95 rfl Try.ntmps95 rfl false rfl ?_
  conv => whnf
  repeat' (first | ((with_reducible apply rd_intro); (focus (intro K hK; (conv => whnf); first | exact hK | (intro z hz; rw [wrapI (by omega)] at hz; subst hz; exact hK))); (conv => whnf)) | ((with_reducible apply gd_and); (focus ((conv => whnf); first | rfl | (intro K hK; (conv => whnf); first | exact hK | (intro z hz; rw [wrapI (by omega)] at hz; subst hz; exact hK)))); (conv => whnf)) | ((with_reducible apply z_wrap); (focus omega); (conv => whnf)) | ((with_reducible refine mt_dec (fun _ => ?_) (fun _ => ?_)) <;> (conv => whnf)) | ((with_reducible refine mt_eq (fun _ => ?_) (fun _ => ?_)) <;> (conv => whnf)) | ((with_reducible refine mt_ne (fun _ => ?_) (fun _ => ?_)) <;> (conv => whnf)) | ((with_reducible refine mt_not (fun _ => ?_) (fun _ => ?_)) <;> (conv => whnf)) | ((with_reducible refine mt_any (fun _ => ?_) (fun _ => ?_)) <;> (conv => whnf)))
  · exfalso; omega
  ((with_reducible refine ix_str h1 ?_ ?_); (focus (first | rfl | omega)); (conv => whnf))
  repeat' (first | ((with_reducible apply rd_intro); (focus (intro K hK; (conv => whnf); first | exact hK | (intro z hz; rw [wrapI (by omega)] at hz; subst hz; exact hK))); (conv => whnf)) | ((with_reducible apply gd_and); (focus ((conv => whnf); first | rfl | (intro K hK; (conv => whnf); first | exact hK | (intro z hz; rw [wrapI (by omega)] at hz; subst hz; exact hK)))); (conv => whnf)) | ((with_reducible apply z_wrap); (focus omega); (conv => whnf)) | ((with_reducible refine mt_dec (fun _ => ?_) (fun _ => ?_)) <;> (conv => whnf)) | ((with_reducible refine mt_eq (fun _ => ?_) (fun _ => ?_)) <;> (conv => whnf)) | ((with_reducible refine mt_ne (fun _ => ?_) (fun _ => ?_)) <;> (conv => whnf)) | ((with_reducible refine mt_not (fun _ => ?_) (fun _ => ?_)) <;> (conv => whnf)) | ((with_reducible refine mt_any (fun _ => ?_) (fun _ => ?_)) <;> (conv => whnf)))
  · exfalso; omega
  rename_i hge
  ((with_reducible refine draw_pl ttOk zOk foOk mixedOk pl95x3 ?_ ?_); (focus kernel_rfl); (conv => whnf))
  repeat' (first | ((with_reducible apply rd_intro); (focus (intro K hK; (conv => whnf); first | exact hK | (intro z hz; rw [wrapI (by omega)] at hz; subst hz; exact hK))); (conv => whnf)) | ((with_reducible apply gd_and); (focus ((conv => whnf); first | rfl | (intro K hK; (conv => whnf); first | exact hK | (intro z hz; rw [wrapI (by omega)] at hz; subst hz; exact hK)))); (conv => whnf)) | ((with_reducible apply z_wrap); (focus omega); (conv => whnf)) | ((with_reducible refine mt_dec (fun _ => ?_) (fun _ => ?_)) <;> (conv => whnf)) | ((with_reducible refine mt_eq (fun _ => ?_) (fun _ => ?_)) <;> (conv => whnf)) | ((with_reducible refine mt_ne (fun _ => ?_) (fun _ => ?_)) <;> (conv => whnf)) | ((with_reducible refine mt_not (fun _ => ?_) (fun _ => ?_)) <;> (conv => whnf)) | ((with_reducible refine mt_any (fun _ => ?_) (fun _ => ?_)) <;> (conv => whnf)))
  ((with_reducible apply rd_intro); (focus (intro K hK; (conv => whnf); exact ⟨by decide, c, h1, hK⟩)); (conv => whnf))
  repeat' (first | ((with_reducible apply rd_intro); (focus (intro K hK; (conv => whnf); first | exact hK | (intro z hz; rw [wrapI (by omega)] at hz; subst hz; exact hK))); (conv => whnf)) | ((with_reducible apply gd_and); (focus ((conv => whnf); first | rfl | (intro K hK; (conv => whnf); first | exact hK | (intro z hz; rw [wrapI (by omega)] at hz; subst hz; exact hK)))); (conv => whnf)) | ((with_reducible apply z_wrap); (focus omega); (conv => whnf)) | ((with_reducible refine mt_dec (fun _ => ?_) (fun _ => ?_)) <;> (conv => whnf)) | ((with_reducible refine mt_eq (fun _ => ?_) (fun _ => ?_)) <;> (conv => whnf)) | ((with_reducible refine mt_ne (fun _ => ?_) (fun _ => ?_)) <;> (conv => whnf)) | ((with_reducible refine mt_not (fun _ => ?_) (fun _ => ?_)) <;> (conv => whnf)) | ((with_reducible refine mt_any (fun _ => ?_) (fun _ => ?_)) <;> (conv => whnf)))
  ((with_reducible apply rd_intro); (focus (intro K hK; (conv => whnf); refine ⟨by decide, by omega, by omega, ?_⟩; rw [e1]; exact hK)); (conv => whnf))
  repeat' (first | ((with_reducible apply rd_intro); (focus (intro K hK; (conv => whnf); first | exact hK | (intro z hz; rw [wrapI (by omega)] at hz; subst hz; exact hK))); (conv => whnf)) | ((with_reducible apply gd_and); (focus ((conv => whnf); first | rfl | (intro K hK; (conv => whnf); first | exact hK | (intro z hz; rw [wrapI (by omega)] at hz; subst hz; exact hK)))); (conv => whnf)) | ((with_reducible apply z_wrap); (focus omega); (conv => whnf)) | ((with_reducible refine mt_dec (fun _ => ?_) (fun _ => ?_)) <;> (conv => whnf)) | ((with_reducible refine mt_eq (fun _ => ?_) (fun _ => ?_)) <;> (conv => whnf)) | ((with_reducible refine mt_ne (fun _ => ?_) (fun _ => ?_)) <;> (conv => whnf)) | ((with_reducible refine mt_not (fun _ => ?_) (fun _ => ?_)) <;> (conv => whnf)) | ((with_reducible refine mt_any (fun _ => ?_) (fun _ => ?_)) <;> (conv => whnf)))
  ((with_reducible apply rd_intro); (focus (intro K hK; (conv => whnf); exact ⟨by decide, c, h1, hK⟩)); (conv => whnf))
  repeat' (first | ((with_reducible apply rd_intro); (focus (intro K hK; (conv => whnf); first | exact hK | (intro z hz; rw [wrapI (by omega)] at hz; subst hz; exact hK))); (conv => whnf)) | ((with_reducible apply gd_and); (focus ((conv => whnf); first | rfl | (intro K hK; (conv => whnf); first | exact hK | (intro z hz; rw [wrapI (by omega)] at hz; subst hz; exact hK)))); (conv => whnf)) | ((with_reducible apply z_wrap); (focus omega); (conv => whnf)) | ((with_reducible refine mt_dec (fun _ => ?_) (fun _ => ?_)) <;> (conv => whnf)) | ((with_reducible refine mt_eq (fun _ => ?_) (fun _ => ?_)) <;> (conv => whnf)) | ((with_reducible refine mt_ne (fun _ => ?_) (fun _ => ?_)) <;> (conv => whnf)) | ((with_reducible refine mt_not (fun _ => ?_) (fun _ => ?_)) <;> (conv => whnf)) | ((with_reducible refine mt_any (fun _ => ?_) (fun _ => ?_)) <;> (conv => whnf)))
  ((with_reducible apply rd_intro); (focus (intro K hK; (conv => whnf); refine ⟨by omega, by omega, by omega, ?_⟩; rw [e2]; exact hK)); (conv => whnf))
  repeat' (first | ((with_reducible apply rd_intro); (focus (intro K hK; (conv => whnf); first | exact hK | (intro z hz; rw [wrapI (by omega)] at hz; subst hz; exact hK))); (conv => whnf)) | ((with_reducible apply gd_and); (focus ((conv => whnf); first | rfl | (intro K hK; (conv => whnf); first | exact hK | (intro z hz; rw [wrapI (by omega)] at hz; subst hz; exact hK)))); (conv => whnf)) | ((with_reducible apply z_wrap); (focus omega); (conv => whnf)) | ((with_reducible refine mt_dec (fun _ => ?_) (fun _ => ?_)) <;> (conv => whnf)) | ((with_reducible refine mt_eq (fun _ => ?_) (fun _ => ?_)) <;> (conv => whnf)) | ((with_reducible refine mt_ne (fun _ => ?_) (fun _ => ?_)) <;> (conv => whnf)) | ((with_reducible refine mt_not (fun _ => ?_) (fun _ => ?_)) <;> (conv => whnf)) | ((with_reducible refine mt_any (fun _ => ?_) (fun _ => ?_)) <;> (conv => whnf)))
  refine ⟨by decide, by decide, by omega, ?_⟩
  rw [e3]
  conv => whnf
  ((with_reducible refine mt_any (fun _ => ?_) (fun _ => ?_)) <;> (conv => whnf))
  · rename_i h
    exfalso
    rw [hkk, ByteArray.toList_eq, ByteArray.toList_eq] at h
    exact absurd h (by decide)
  ((with_reducible refine mt_any (fun _ => ?_) (fun _ => ?_)) <;> (conv => whnf))
  · refine (unset_ok k hp key).mono ?_
    rintro _ _ ⟨rfl, rfl⟩
    conv => whnf
    exact ⟨rfl, rfl⟩
  · rename_i h
    exfalso
    rw [hkk, ByteArray.toList_eq, ByteArray.toList_eq] at h
    exact absurd h (by decide)
end Go.Proofs.Ytpedbknmkgcldaa
