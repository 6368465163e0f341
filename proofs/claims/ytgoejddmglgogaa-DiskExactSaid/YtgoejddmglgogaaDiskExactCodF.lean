/- DiskExact: for every script the law returns true, and its argument reads behind the call as it read before. No condition of ours. -/
import Derived.Test.YtgoejddmglgogaaDiskExactCodE
import Derived.Test.YtgoejddmglgogaaRows
set_option linter.unusedVariables false
set_option linter.unusedSimpArgs false
namespace Go.Proofs.Ytgoejddmglgogaa
open Go.Ab Go.RowKit Go.MapKept
attribute [local irreducible] ACalls AW ADraw Into fltB fnear
set_option maxRecDepth 100000
theorem spend_calls {d : DD} (h : 0 ≤ d.calls ∧ d.calls ≤ 999999) : d.spend.calls ≤ d.calls + 1 := by
  show IntKind.i64.wrap (d.calls + 1) ≤ _
  rw [wrapI (by omega)]
  omega
section
variable {d : DD} (h : 0 ≤ d.calls ∧ d.calls ≤ 999999)
include h
theorem calls_append (n : ByteArray) (b : List UInt8) : (d.append n b).2.calls ≤ d.calls + 1 := by
  have := spend_calls h
  unfold DD.append
  split
  · show d.calls ≤ _; omega
  split
  · exact this
  split
  · split
    · exact this
    split <;> exact this
  · split <;> exact this
theorem calls_sync (n : ByteArray) : (d.sync n).2.calls ≤ d.calls + 1 := by
  have := spend_calls h
  unfold DD.sync
  split
  · show d.calls ≤ _; omega
  split
  · exact this
  split <;> exact this
theorem calls_cut (n : ByteArray) (k : Int) : (d.cut n k).2.calls ≤ d.calls + 1 := by
  have := spend_calls h
  unfold DD.cut
  split
  · show d.calls ≤ _; omega
  split
  · exact this
  split
  · exact this
  split <;> exact this
theorem calls_remove (n : ByteArray) : (d.remove n).2.calls ≤ d.calls + 1 := by
  have := spend_calls h
  unfold DD.remove
  split
  · show d.calls ≤ _; omega
  split
  · exact this
  split <;> exact this
theorem calls_rename (n t : ByteArray) : (d.rename n t).2.calls ≤ d.calls + 1 := by
  have := spend_calls h
  unfold DD.rename
  split
  · show d.calls ≤ _; omega
  split
  · exact this
  split <;> exact this
end
theorem read_len {d : DD} (h : d.ok) (n : ByteArray) : (d.read n).1.length ≤ 1048576 := by
  unfold DD.read
  split
  · exact Nat.zero_le _
  split
  · exact Nat.zero_le _
  split
  · exact Nat.zero_le _
  · rename_i f hf
    exact (h.len f (mem_getN hf)).1
def J (d : Dk) (r : RD) : List AB := [.cells [.d (.int .i64 d.calls), .d (.bool d.off), .d (.int .i64 d.upto), .map 2], .cells [.arr 3, .d (.int .i64 r.calls), .d (.int .i64 r.left), .d (.bool r.off)], .map (d.fs.map Fl.ent), .row 66 3 (r.l.map FD.cs) false]
def J2 (d : Dk) (r : RD) : List AB := [.cells [.d (.int .i64 d.calls), .d (.bool d.off), .d (.int .i64 d.upto), .map 2], .cells [.arr 4, .d (.int .i64 r.calls), .d (.int .i64 r.left), .d (.bool r.off)], .map (d.fs.map Fl.ent), .dead, .row 66 3 (r.l.map FD.cs) false]
def ActS.av (x : ActS) : AV := .agg (x.cs.map .d)
theorem eqFilesI (xs : List FileS) (hm : xs.length ≤ 140737488355328) (hd : ∀ f ∈ xs, f.data.length ≤ 140737488355328) (lo n : Nat) : ACalls Try.prog 39 [.isl 0 (.sl 2 (xs.map FileS.cs)), .d (.sl 2 (xs.map FileS.cs))] [.isle lo n true] (fun av L => av = .d (.bool true) ∧ L = [.isle lo n true]) :=
  acalls_lend (flat_bool _) ⟨_, _, rfl, .inl (.inr (.inr (.inr (.inr (.inr ⟨_, _, _, _, _, _, rfl, rfl, rfl, rfl, .refl _⟩))))), _, _, rfl, .inl (.inl ⟨_, rfl, rfl⟩), rfl⟩ ((eqFiles_ok xs xs hm hd).mono fun av L ⟨t, h2, h3, h4⟩ => ⟨by rw [h3, h2.2 rfl], h4⟩)
theorem eqBytes_rowS (xs : List UInt8) (hm : xs.length ≤ 140737488355328) : ACalls Try.prog 22 [.arr 0, .d (.sl 1 (u8s xs))] [rw8 xs] (fun av L => av = .d (.bool true) ∧ L = [rw8 xs]) :=
  acalls_lend (flat_bool _) ⟨_, _, rfl, .inl (.inr (.inl ⟨_, _, _, _, _, rfl, rfl, rfl⟩)), _, _, rfl, .inl (.inl ⟨_, rfl, rfl⟩), rfl⟩ ((eqBytes_ok xs xs hm).mono fun av L ⟨h1, h2⟩ => ⟨by rw [h1]; simp, h2⟩)
def StepQ (d : Dk) (av : AV) (L : List AB) : Prop := av = .d (.bool true) ∧ ∃ (d' : Dk) (r' : RD), Alike d'.dat r' ∧ d'.dat.calls ≤ d.dat.calls + 1 ∧ (L = J d' r' ∨ L = J2 d' r')
theorem stepQ_of {d d1 : Dk} {dd : Int × DD} {rr : Int × RD} (h : dd.1 = rr.1 ∧ Alike dd.2 rr.2) (hd1 : d1.dat = dd.2) (hc : dd.2.calls ≤ d.dat.calls + 1) {L : List AB} (hL : L = J d1 rr.2 ∨ L = J2 d1 rr.2) : StepQ d (.d (.bool (decide (dd.1 = rr.1)))) L :=
  ⟨by rw [decide_eq_true h.1], d1, rr.2, by rw [hd1]; exact h.2, by rw [hd1]; exact hc, hL⟩
theorem does_ok (d : Dk) (r : RD) (h : Alike d.dat r) (hc : d.dat.calls ≤ 999998) (x : ActS) (hx : x.ok) (hb : x.bytes.length ≤ 10000) :
    ACalls Try.prog 12 [.ptr 0 0, .ptr 1 0, x.av] (J d r) (StepQ d) := by
  have hc0 := h.c0
  have hok := h.fine.ok
  have hr := h.fit (by omega)
  have hrc : r.calls ≤ 999999 := by rw [h.calls]; omega
  have hcb : 0 ≤ d.dat.calls ∧ d.dat.calls ≤ 999999 := by omega
  (refine acalls_go ttOk zOk foOk Try.func12 rfl Try.ntmps12 rfl false rfl ?_); (conv => whnf)
  (refine (within_ok x.act 11 (by decide) (by decide) hx.act).mono ?_; rintro _ _ ⟨rfl, rfl⟩; (conv => whnf))
  refine rdw ?_; repeat' ((with_reducible apply tw) <;> intro _)
  · ((with_reducible refine draw_pl ttOk zOk foOk mixedOk pl12x3 ?_ ?_); (focus kernel_rfl); (conv => whnf))
    refine rdw ?_; repeat' ((with_reducible apply tw) <;> intro _)
    refine (cut_ok d hok x.a x.n).mono ?_
    rintro _ _ ⟨d1, rfl, rfl, hd1⟩
    conv => whnf
    refine rdw ?_; repeat' ((with_reducible apply tw) <;> intro _)
    (refine (num9_ok _).mono ?_; rintro _ _ ⟨rfl, rfl⟩; (conv => whnf))
    refine rdw ?_; repeat' ((with_reducible apply tw) <;> intro _)
    refine (rCut_ok r hr hrc x.a x.n).mono ?_
    rintro _ _ ⟨rfl, rfl⟩
    conv => whnf
    refine rdw ?_; repeat' ((with_reducible apply tw) <;> intro _)
    exact stepQ_of (like_cut h (by omega) x.a x.n) hd1 (calls_cut hcb x.a x.n) (.inl rfl)
  · ((with_reducible refine draw_pl ttOk zOk foOk mixedOk pl12x5 ?_ ?_); (focus kernel_rfl); (conv => whnf))
    refine rdw ?_; repeat' ((with_reducible apply tw) <;> intro _)
    refine (sync_ok d x.a).mono ?_
    rintro _ _ ⟨d1, rfl, rfl, hd1⟩
    conv => whnf
    refine rdw ?_; repeat' ((with_reducible apply tw) <;> intro _)
    (refine (num9_ok _).mono ?_; rintro _ _ ⟨rfl, rfl⟩; (conv => whnf))
    refine rdw ?_; repeat' ((with_reducible apply tw) <;> intro _)
    refine (rSync_ok r hr hrc x.a).mono ?_
    rintro _ _ ⟨rfl, rfl⟩
    conv => whnf
    refine rdw ?_; repeat' ((with_reducible apply tw) <;> intro _)
    exact stepQ_of (like_sync h (by omega) x.a) hd1 (calls_sync hcb x.a) (.inl rfl)
  · ((with_reducible refine draw_pl ttOk zOk foOk mixedOk pl12x7 ?_ ?_); (focus kernel_rfl); (conv => whnf))
    refine rdw ?_; repeat' ((with_reducible apply tw) <;> intro _)
    refine (rename_ok d x.a x.b).mono ?_
    rintro _ _ ⟨d1, rfl, rfl, hd1⟩
    conv => whnf
    refine rdw ?_; repeat' ((with_reducible apply tw) <;> intro _)
    (refine (num9_ok _).mono ?_; rintro _ _ ⟨rfl, rfl⟩; (conv => whnf))
    refine rdw ?_; repeat' ((with_reducible apply tw) <;> intro _)
    refine (rRename_ok r hr hrc x.a x.b).mono ?_
    rintro _ _ ⟨rfl, rfl | rfl⟩
    · conv => whnf
      refine rdw ?_; repeat' ((with_reducible apply tw) <;> intro _)
      exact stepQ_of (like_rename h (by omega) x.a x.b) hd1 (calls_rename hcb x.a x.b) (.inl rfl)
    · conv => whnf
      refine rdw ?_; repeat' ((with_reducible apply tw) <;> intro _)
      exact stepQ_of (like_rename h (by omega) x.a x.b) hd1 (calls_rename hcb x.a x.b) (.inr rfl)
  · ((with_reducible refine draw_pl ttOk zOk foOk mixedOk pl12x9 ?_ ?_); (focus kernel_rfl); (conv => whnf))
    refine rdw ?_; repeat' ((with_reducible apply tw) <;> intro _)
    refine (remove_ok d x.a).mono ?_
    rintro _ _ ⟨d1, rfl, rfl, hd1⟩
    conv => whnf
    refine rdw ?_; repeat' ((with_reducible apply tw) <;> intro _)
    (refine (num9_ok _).mono ?_; rintro _ _ ⟨rfl, rfl⟩; (conv => whnf))
    refine rdw ?_; repeat' ((with_reducible apply tw) <;> intro _)
    refine (rRemove_ok r hr hrc x.a).mono ?_
    rintro _ _ ⟨rfl, rfl | rfl⟩
    · conv => whnf
      refine rdw ?_; repeat' ((with_reducible apply tw) <;> intro _)
      exact stepQ_of (like_remove h (by omega) x.a) hd1 (calls_remove hcb x.a) (.inl rfl)
    · conv => whnf
      refine rdw ?_; repeat' ((with_reducible apply tw) <;> intro _)
      exact stepQ_of (like_remove h (by omega) x.a) hd1 (calls_remove hcb x.a) (.inr rfl)
  · have hlk := like_read h x.a
    (refine (read_row d hok x.a).mono ?_; rintro _ _ ⟨rfl, rfl⟩; (conv => whnf))
    refine rdw ?_; repeat' ((with_reducible apply tw) <;> intro _)
    (refine (rRead_ok r hr x.a).mono ?_; rintro _ _ ⟨rfl, rfl⟩; (conv => whnf))
    refine rdw ?_; repeat' ((with_reducible apply tw) <;> intro _)
    (refine (num9_ok _).mono ?_; rintro _ _ ⟨rfl, rfl⟩; (conv => whnf))
    rw [hlk]
    have hrl : (r.read x.a).1.length ≤ 1048576 := by
      rw [← hlk]
      exact read_len hok x.a
    refine rdw ?_; repeat' ((with_reducible apply tw) <;> intro _)
    · (refine Or.inr ?_; (conv => whnf))
      (refine (eqBytes_rowS (r.read x.a).1 (by omega)).mono ?_; rintro _ _ ⟨rfl, rfl⟩; (conv => whnf))
      refine rdw ?_; repeat' ((with_reducible apply tw) <;> intro _)
      (refine Or.inr ?_; (conv => whnf))
      (refine (spoilB_ok (r.read x.a).1 (by omega)).mono ?_; rintro _ _ ⟨rfl, rfl⟩; (conv => whnf))
      refine rdw ?_; repeat' ((with_reducible apply tw) <;> intro _)
      exact ⟨rfl, d, r, h, by omega, .inl rfl⟩
    · rename_i k1
      exact absurd rfl k1
  · refine (list_row d h.fine).mono ?_
    rintro _ _ ⟨rfl, ss, hss, rfl⟩
    obtain ⟨hl1, hl2⟩ := like_list h hss
    rw [hl1, show (if d.off = true then (9 : Int) else 0) = r.list.2 from hl2]
    have hsl : r.list.1.length ≤ 16 := by rw [RD.list]; split; exact Nat.zero_le _; (show (r.l.map _).length ≤ 16); rw [List.length_map]; exact hr.len
    conv => whnf
    refine rdw ?_; repeat' ((with_reducible apply tw) <;> intro _)
    (refine (rList_ok r hr).mono ?_; rintro _ _ ⟨rfl, rfl⟩; (conv => whnf))
    refine rdw ?_; repeat' ((with_reducible apply tw) <;> intro _)
    (refine (num9_ok _).mono ?_; rintro _ _ ⟨rfl, rfl⟩; (conv => whnf))
    refine rdw ?_; repeat' ((with_reducible apply tw) <;> intro _)
    · (refine Or.inr ?_; (conv => whnf))
      (refine (eqStrings_row r.list.1 r.list.1 false (by omega)).mono ?_; rintro _ _ ⟨rfl, rfl⟩; (conv => whnf))
      rw [decide_eq_true (rfl : r.list.1 = r.list.1)]
      refine rdw ?_; repeat' ((with_reducible apply tw) <;> intro _)
      (refine Or.inr ?_; (conv => whnf))
      (refine (spoil_ok r.list.1 (by omega)).mono ?_; rintro _ _ ⟨rfl, rfl⟩; (conv => whnf))
      refine rdw ?_; repeat' ((with_reducible apply tw) <;> intro _)
      exact ⟨rfl, d, r, h, by omega, .inl rfl⟩
    · rename_i k1
      exact absurd rfl k1
  · refine (crashI d h.fine x.picks hx.pick (by have := hx.picks; omega)).mono ?_
    rintro _ _ ⟨⟨ss, hs1, hs2, rfl⟩, lo, n, rfl⟩
    obtain ⟨hs3, hs4⟩ := like_crash h hs1 hs2
    rw [hs4, hs3]
    conv => whnf
    refine rdw ?_; repeat' ((with_reducible apply tw) <;> intro _)
    (refine (rCrash_ok r hr x.picks hx.pick (by have := hx.picks; omega)).mono ?_; rintro _ _ ⟨rfl, rfl⟩; (conv => whnf))
    refine rdw ?_; repeat' ((with_reducible apply tw) <;> intro _)
    (refine (eqFilesI (crashAt r.l x.picks r.l.length).1 (by rw [crash_length (Nat.le_refl _)]; have := hr.len; omega) (fun f hf => Nat.le_trans (crash_len (fun f hf => (hr.lens f hf).symm) f hf) (by decide)) lo n).mono ?_; rintro _ _ ⟨rfl, rfl⟩; (conv => whnf))
    refine rdw ?_; repeat' ((with_reducible apply tw) <;> intro _)
    (refine (spoilF_ok (crashAt r.l x.picks r.l.length).1 (by rw [crash_length (Nat.le_refl _)]; have := hr.len; omega) (fun f hf => Nat.le_trans (crash_len (fun f hf => (hr.lens f hf).symm) f hf) (by decide)) lo n).mono ?_; rintro _ _ ⟨rfl, rfl⟩; (conv => whnf))
    refine rdw ?_; repeat' ((with_reducible apply tw) <;> intro _)
    exact ⟨rfl, d, r, h, by omega, .inl rfl⟩
  · ((with_reducible refine draw_pl ttOk zOk foOk mixedOk pl12x29 ?_ ?_); (focus kernel_rfl); (conv => whnf))
    refine rdw ?_; repeat' ((with_reducible apply tw) <;> intro _)
    refine (off_ok d x.n).mono ?_
    rintro _ _ ⟨d1, rfl, rfl, hd1⟩
    conv => whnf
    refine rdw ?_; repeat' ((with_reducible apply tw) <;> intro _)
    (refine (rOff_ok r x.n).mono ?_; rintro _ _ ⟨rfl, rfl⟩; (conv => whnf))
    refine rdw ?_; repeat' ((with_reducible apply tw) <;> intro _)
    rename_i k1
    refine ⟨rfl, d1, r.turn x.n, ?_, ?_, .inl rfl⟩
    · rw [hd1]
      exact h.turn (by omega) (by omega) hx.n.2
    · rw [hd1, DD.turn]
      split <;> (show d.dat.calls ≤ _; omega)
  · exact ⟨rfl, d, r, h, by omega, .inl rfl⟩
  · (refine (copyBytes_row x.bytes (by omega)).mono ?_; rintro _ _ ⟨rfl, rfl⟩; (conv => whnf))
    refine rdw ?_; repeat' ((with_reducible apply tw) <;> intro _)
    (refine Or.inr ?_; (conv => whnf))
    refine (append_row d hok x.a x.bytes (by omega)).mono ?_
    rintro _ _ ⟨d1, rfl, rfl, hd1⟩
    conv => whnf
    refine rdw ?_; repeat' ((with_reducible apply tw) <;> intro _)
    (refine Or.inr ?_; (conv => whnf))
    (refine (spoilB_ok x.bytes (by omega)).mono ?_; rintro _ _ ⟨rfl, rfl⟩; (conv => whnf))
    refine rdw ?_; repeat' ((with_reducible apply tw) <;> intro _)
    ((with_reducible refine draw_pl ttOk zOk foOk mixedOk pl12x35 ?_ ?_); (focus kernel_rfl); (conv => whnf))
    refine rdw ?_; repeat' ((with_reducible apply tw) <;> intro _)
    (refine (num9_ok _).mono ?_; rintro _ _ ⟨rfl, rfl⟩; (conv => whnf))
    refine rdw ?_; repeat' ((with_reducible apply tw) <;> intro _)
    refine (rAppend_ok r hr hrc x.a x.bytes (by omega)).mono ?_
    rintro _ _ ⟨rfl, rfl | rfl⟩
    · conv => whnf
      refine rdw ?_; repeat' ((with_reducible apply tw) <;> intro _)
      exact stepQ_of (like_append h (by omega) x.a x.bytes) hd1 (calls_append hcb x.a x.bytes) (.inl rfl)
    · conv => whnf
      refine rdw ?_; repeat' ((with_reducible apply tw) <;> intro _)
      exact stepQ_of (like_append h (by omega) x.a x.bytes) hd1 (calls_append hcb x.a x.bytes) (.inr rfl)
end Go.Proofs.Ytgoejddmglgogaa
namespace Go.Proofs.Ytgoejddmglgogaa
open Go.Ab Go.RowKit
attribute [local irreducible] ACalls AW ADraw Into
theorem sum_upto {α : Type} (f : α → Nat) (l : List α) {k : Nat} (h : k ≤ 40) (h2 : k ≤ l.length) (h3 : ¬ (k < l.length) ∨ ¬ (k < 40)) : sumTo f l k = sumTo f l 40 := by
  unfold sumTo
  rcases h3 with h3 | h3
  · rw [List.take_of_length_le (by omega), List.take_of_length_le (by omega)]
  · have : k = 40 := by omega
    rw [this]
theorem heavy_ok (p : ScriptS) (hp : p.ok) : ACalls Try.prog 4 [p.av] [] (fun av L => av = .d (.bool p.heavy) ∧ L = []) := by
  have b1 : ∀ k, sumTo (fun f => f.data.length) p.files k ≤ k * 140737488355328 := sumTo_le _ _ _ (fun x hx => (hp.f x hx).2)
  have b2 : ∀ k, sumTo (fun x => x.bytes.length + x.picks.length) p.acts k ≤ k * 281474976710656 := sumTo_le _ _ _ (fun x hx => by have h1 := (hp.a x hx).bytes; have h2 := (hp.a x hx).picks; omega)
  (refine acalls_go ttOk zOk foOk Try.func4 rfl Try.ntmps4 rfl false rfl ?_); (conv => whnf)
  refine loop_out ttOk zOk foOk (σ := Nat) (τ := Unit) (fun k => ([(1, .ptr 0 0), (3, .d (.int .i64 (sumTo (fun f => f.data.length) p.files k : Nat))), (4, .d (.int .i64 k))], [.cells p.cells])) (fun k => k ≤ 40 ∧ k ≤ p.files.length) (fun k => p.files.length - k) [1, 3, 4]
    0 (fun _ => ([(1, .ptr 0 0), (3, .d (.int .i64 (sumTo (fun f => f.data.length) p.files 40 : Nat)))], [.cells p.cells])) (fun _ => True) [1, 3] ?_ ?_ ?_
  · conv => whnf
    exact ⟨0, rfl, rfl, by omega, by omega⟩
  · rintro _ _
    have bA := b1 40
    conv => whnf
    refine loop_out ttOk zOk foOk (σ := Nat) (τ := Unit) (fun k => ([(1, .ptr 0 0), (3, .d (.int .i64 (sumTo (fun f => f.data.length) p.files 40 + sumTo (fun x => x.bytes.length + x.picks.length) p.acts k : Nat))), (5, .d (.int .i64 k))], [.cells p.cells])) (fun k => k ≤ 40 ∧ k ≤ p.acts.length) (fun k => p.acts.length - k) [1, 3, 5]
      2 (fun _ => ([(1, .ptr 0 0), (3, .d (.int .i64 (sumTo (fun f => f.data.length) p.files 40 + sumTo (fun x => x.bytes.length + x.picks.length) p.acts 40 : Nat)))], [.cells p.cells])) (fun _ => True) [1, 3] ?_ ?_ ?_
    · conv => whnf
      exact ⟨0, rfl, rfl, by omega, by omega⟩
    · rintro _ _
      conv => whnf
      repeat' ((with_reducible refine mt_dec (fun _ => ?_) (fun _ => ?_)) <;> (conv => whnf))
      all_goals
        refine ⟨?_, rfl⟩
        refine boolEq ?_
        simp [ScriptS.heavy]
        omega
    · rintro k ⟨hk, he⟩
      conv => whnf
      refine sp_dec (fun h => ?_) (fun h => ?_)
      · conv => whnf
        simp only [List.length_map] at h
        refine sp_dec (fun h40 => ?_) (fun h40 => ?_)
        · conv => whnf
          obtain ⟨f, hf⟩ : ∃ f, p.acts[k]? = some f := ⟨_, List.getElem?_eq_getElem (by omega)⟩
          have hs : sumTo (fun x => x.bytes.length + x.picks.length) p.acts (k + 1) = sumTo (fun x => x.bytes.length + x.picks.length) p.acts k + (f.bytes.length + f.picks.length) := by
            rw [sumTo_succ _ _ (show k < p.acts.length by omega), (List.getElem?_eq_some_iff.1 hf).2]
          have := b2 k
          have h1 := (hp.a f (List.mem_of_getElem? hf)).bytes
          have h2 := (hp.a f (List.mem_of_getElem? hf)).picks
          have := u8s_length f.bytes
          have : (nums f.picks).length = f.picks.length := List.length_map ..
          ((with_reducible refine draw_pl ttOk zOk foOk mixedOk pl4x9 ?_ ?_); (focus kernel_rfl); (conv => whnf))
          ((with_reducible apply rd_intro); (focus (intro K hK; (conv => whnf); first | exact hK | (intro z hz; rw [wrapI (by omega)] at hz; subst hz; exact hK))); (conv => whnf))
          ((with_reducible apply rd_intro); (focus (intro K hK; (conv => whnf); first | exact hK | (intro z hz; rw [wrapI (by omega)] at hz; subst hz; exact hK))); (conv => whnf))
          ((with_reducible apply rd_intro); (focus (intro K hK; (conv => whnf); first | exact hK | (intro z hz; rw [wrapI (by omega)] at hz; subst hz; exact hK))); (conv => whnf))
          ((with_reducible apply rd_intro); (focus (intro K hK; (conv => whnf); first | exact hK | (intro z hz; rw [wrapI (by omega)] at hz; subst hz; exact hK))); (conv => whnf))
          refine ⟨_, fun K hK => (by (conv => whnf); exact ⟨by omega, f.cs, by simp [hf], hK⟩), ?_⟩
          conv => whnf
          repeat' ((with_reducible apply rd_intro); (focus (intro K hK; (conv => whnf); first | exact hK | (intro z hz; rw [wrapI (by omega)] at hz; subst hz; exact hK))); (conv => whnf))
          refine ⟨_, fun K hK => (by (conv => whnf); exact ⟨by omega, f.cs, by simp [hf], hK⟩), ?_⟩
          conv => whnf
          repeat' ((with_reducible apply rd_intro); (focus (intro K hK; (conv => whnf); first | exact hK | (intro z hz; rw [wrapI (by omega)] at hz; subst hz; exact hK))); (conv => whnf))
          ((with_reducible apply z_wrap); (focus omega); (conv => whnf))
          refine ⟨k + 1, ?_, rfl, ⟨by omega, by omega⟩, by omega⟩
          simp
          omega
        · conv => whnf
          exact ⟨(), by rw [sum_upto _ _ hk he (.inr (by omega))], rfl, trivial⟩
      · conv => whnf
        exact ⟨(), by rw [sum_upto _ _ hk he (.inl (by simpa using h))], rfl, trivial⟩
  · rintro k ⟨hk, he⟩
    conv => whnf
    refine sp_dec (fun h => ?_) (fun h => ?_)
    · conv => whnf
      simp only [List.length_map] at h
      refine sp_dec (fun h40 => ?_) (fun h40 => ?_)
      · conv => whnf
        obtain ⟨f, hf⟩ : ∃ f, p.files[k]? = some f := ⟨_, List.getElem?_eq_getElem (by omega)⟩
        have hs : sumTo (fun f => f.data.length) p.files (k + 1) = sumTo (fun f => f.data.length) p.files k + f.data.length := by
          rw [sumTo_succ _ _ (show k < p.files.length by omega), (List.getElem?_eq_some_iff.1 hf).2]
        have := b1 k
        have := (hp.f f (List.mem_of_getElem? hf)).2
        refine ⟨by omega, f.cs, by simp [hf], ?_⟩
        conv => whnf
        intro z hz
        conv => whnf
        intro z2 hz2
        conv => whnf
        refine ⟨k + 1, ?_, rfl, ⟨by omega, by omega⟩, by omega⟩
        have := u8s_length f.data
        rw [hz2, hz, wrapI (by omega), wrapI (by omega), hs, this]
        rfl
      · conv => whnf
        exact ⟨(), by rw [sum_upto _ _ hk he (.inr (by omega))], rfl, trivial⟩
    · conv => whnf
      exact ⟨(), by rw [sum_upto _ _ hk he (.inl (by simpa using h))], rfl, trivial⟩
end Go.Proofs.Ytgoejddmglgogaa
namespace Go.Proofs.Ytgoejddmglgogaa
open Go.Ab Go.RowKit Go.MapKept
attribute [local irreducible] ACalls AW ADraw Into fltB fnear
set_option maxRecDepth 100000
theorem new_nil : mayNew [] = true := by decide
theorem wakes9_ok : ACalls Try.prog 10 [] [] (fun av L => av = .d (.bool true) ∧ L = []) := by
  (refine acalls_go ttOk zOk foOk Try.func10 rfl Try.ntmps10 rfl false rfl ?_); (conv => whnf)
  refine (new_ok [] (by simp) (by simp)).mono ?_
  rintro _ _ ⟨h, _⟩
  obtain ⟨rfl, fs, rfl, hfs⟩ := h new_nil
  have : fs = [] := by simpa [newFl] using hfs
  subst this
  conv => whnf
  clear h hfs
  ((with_reducible refine (num9_ok 0).mono ?_); rintro _ _ ⟨rfl, rfl⟩; (conv => whnf))
  refine rdz ?_; repeat' ((with_reducible apply tw) <;> intro _)
  refine ⟨by simp, ?_⟩
  conv => whnf
  refine rdz ?_; repeat' ((with_reducible apply tw) <;> intro _)
  refine (append_ok (Dk.mk 0 false 0 []) ⟨by simp [Dk.dat]⟩ ⟨#[97]⟩ [97, 98, 99] (by simp)).mono ?_
  rintro _ _ ⟨d', rfl, rfl, hd'⟩
  rw [show (Dk.mk 0 false 0 []).dat.append ⟨#[97]⟩ [97, 98, 99] = (0, ⟨1, false, 0, [⟨⟨#[97]⟩, [], [97, 98, 99]⟩]⟩) by rfl] at hd' ⊢
  conv => whnf
  ((with_reducible refine (num9_ok 0).mono ?_); rintro _ _ ⟨rfl, rfl⟩; (conv => whnf))
  refine rdz ?_; repeat' ((with_reducible apply tw) <;> intro _)
  have hrd : d'.dat.read ⟨#[97]⟩ = ([97, 98, 99], 0) := by rw [hd']; rfl
  refine (read_ok d' (by rw [hd']; exact ⟨by simp⟩) ⟨#[97]⟩).mono ?_
  rintro _ _ ⟨rfl, rfl⟩
  rw [hrd]
  conv => whnf
  ((with_reducible refine (num9_ok 0).mono ?_); rintro _ _ ⟨rfl, rfl⟩; (conv => whnf))
  refine rdz ?_; repeat' ((with_reducible apply tw) <;> intro _)
  refine ⟨by simp, ?_⟩
  conv => whnf
  refine rdz ?_; repeat' ((with_reducible apply tw) <;> intro _)
  refine (eqBytes_ok [97, 98, 99] [97, 98, 99] (by simp)).mono ?_
  rintro _ _ ⟨rfl, rfl⟩
  conv => whnf
  exact ⟨rfl, rfl⟩
theorem sumTo_mono {α : Type} (f : α → Nat) (l : List α) {k m : Nat} (h : k ≤ m) : sumTo f l k ≤ sumTo f l m := by
  obtain ⟨j, rfl⟩ := Nat.exists_eq_add_of_le h
  unfold sumTo
  rw [List.take_add, List.map_append, List.sum_append]
  omega
theorem act_light {p : ScriptS} (h : p.heavy = false) {k : Nat} (hk : k < 40) {a : ActS} (ha : p.acts[k]? = some a) : a.bytes.length ≤ 10000 ∧ a.picks.length ≤ 10000 := by
  unfold ScriptS.heavy at h
  simp only [Bool.or_eq_false_iff, decide_eq_false_iff_not] at h
  have h1 : sumTo (fun x => x.bytes.length + x.picks.length) p.acts (k + 1) = sumTo (fun x => x.bytes.length + x.picks.length) p.acts k + (a.bytes.length + a.picks.length) := by
    have hlt := (List.getElem?_eq_some_iff.1 ha).1
    rw [sumTo_succ _ _ hlt, (List.getElem?_eq_some_iff.1 ha).2]
  have h2 : sumTo (fun x => x.bytes.length + x.picks.length) p.acts (k + 1) ≤ sumTo (fun x => x.bytes.length + x.picks.length) p.acts 40 := sumTo_mono _ _ (by omega)
  omega
theorem files_light {p : ScriptS} (h : p.heavy = false) : p.files.length ≤ 40 ∧ ∀ f ∈ p.files, f.data.length ≤ 10000 := by
  unfold ScriptS.heavy at h
  simp only [Bool.or_eq_false_iff, decide_eq_false_iff_not] at h
  refine ⟨by omega, fun f hf => ?_⟩
  obtain ⟨k, hk⟩ := List.getElem?_of_mem hf
  have hlt := (List.getElem?_eq_some_iff.1 hk).1
  have h1 : sumTo (fun f => f.data.length) p.files (k + 1) = sumTo (fun f => f.data.length) p.files k + f.data.length := by
    rw [sumTo_succ _ _ hlt, (List.getElem?_eq_some_iff.1 hk).2]
  have h2 : sumTo (fun f => f.data.length) p.files (k + 1) ≤ sumTo (fun f => f.data.length) p.files 40 := sumTo_mono _ _ (by omega)
  omega
def K (p : ScriptS) (d : Dk) (r : RD) : List AB := [.cells [.d (.sl 2 (p.files.map FileS.cs)), .d (.sl 6 (p.acts.map ActS.cs))], .cells [.d (.int .i64 d.calls), .d (.bool d.off), .d (.int .i64 d.upto), .map 3], .cells [.arr 4, .d (.int .i64 r.calls), .d (.int .i64 r.left), .d (.bool r.off)], .map (d.fs.map Fl.ent), .row 66 3 (r.l.map FD.cs) false]
theorem diskExact_ok (p : ScriptS) (hp : p.ok) : ACalls Try.prog 3 [p.av] [] (fun av L => av = .d (.bool true) ∧ L = []) := by
  (refine acalls_go ttOk zOk foOk Try.func3 rfl Try.ntmps3 rfl false rfl ?_); (conv => whnf)
  (refine (heavy_ok p hp).mono ?_; rintro _ _ ⟨rfl, rfl⟩; (conv => whnf))
  refine rdz ?_; repeat' ((with_reducible apply tw) <;> intro _)
  · exact ⟨rfl, rfl⟩
  rename_i hhv
  obtain ⟨hfl, hfd⟩ := files_light hhv
  refine (copyFilesI p.files (by omega) (fun f hf => by have := hfd f hf; omega)).mono ?_
  rintro _ _ ⟨rfl, lo, n, rfl⟩
  conv => whnf
  refine rdz ?_; repeat' ((with_reducible apply tw) <;> intro _)
  refine (newI p.files (fun f hf => by have := hfd f hf; omega) (by omega) lo n).mono ?_
  intro av L hn
  cases hm : mayNew p.files with
  | false =>
    obtain ⟨rfl, rfl⟩ := hn.2 hm
    conv => whnf
    refine rdz ?_; repeat' ((with_reducible apply tw) <;> intro _)
    (refine (spoilF_ok p.files (by omega) (fun f hf => by have := hfd f hf; omega) lo n).mono ?_; rintro _ _ ⟨rfl, rfl⟩; (conv => whnf))
    refine rdz ?_; repeat' ((with_reducible apply tw) <;> intro _)
    (refine (rMay_ok p.files (by omega)).mono ?_; rintro _ _ ⟨rfl, rfl⟩; (conv => whnf))
    rw [hm]
    refine rdz ?_; repeat' ((with_reducible apply tw) <;> intro _)
    · (refine (num9_ok 1).mono ?_; rintro _ _ ⟨rfl, rfl⟩; (conv => whnf))
      refine rdz ?_; repeat' ((with_reducible apply tw) <;> intro _)
      (refine (wakes9_ok).mono ?_; rintro _ _ ⟨rfl, rfl⟩; (conv => whnf))
      refine rdz ?_; repeat' ((with_reducible apply tw) <;> intro _)
      exact ⟨rfl, rfl⟩
    · rename_i k1
      cases k1
  | true =>
    obtain ⟨rfl, fs, rfl, hfs⟩ := hn.1 hm
    have hx := newFl_dat hfs
    have hal := like_new hm
    conv => whnf
    refine rdz ?_; repeat' ((with_reducible apply tw) <;> intro _)
    (refine (spoilF_ok p.files (by omega) (fun f hf => by have := hfd f hf; omega) lo n).mono ?_; rintro _ _ ⟨rfl, rfl⟩; (conv => whnf))
    refine rdz ?_; repeat' ((with_reducible apply tw) <;> intro _)
    (refine (rMay_ok p.files (by omega)).mono ?_; rintro _ _ ⟨rfl, rfl⟩; (conv => whnf))
    rw [hm]
    refine rdz ?_; repeat' ((with_reducible apply tw) <;> intro _)
    · rename_i k1
      cases k1
    (refine (num9_ok 0).mono ?_; rintro _ _ ⟨rfl, rfl⟩; (conv => whnf))
    refine rdz ?_; repeat' ((with_reducible apply tw) <;> intro _)
    (refine (rNew_ok p.files (may_rising hm).1 (fun f hf => ((may_rising hm).2.1 f hf).2)).mono ?_; rintro _ _ ⟨rfl, rfl⟩; (conv => whnf))
    refine rdz ?_; repeat' ((with_reducible apply tw) <;> intro _)
    refine loop_go2 ttOk zOk foOk (σ := Nat) (ρ := Dk × RD) (fun k q => ([(1, .ptr 0 0), (4, .ptr 1 0), (6, .ptr 2 0), (7, .d (.int .i64 k))], K p q.1 q.2))
      (fun k q => k ≤ p.acts.length ∧ k ≤ 40 ∧ Alike q.1.dat q.2 ∧ q.1.dat.calls ≤ k) (fun k _ => p.acts.length - k) [1, 4, 6, 7] ?_ ?_
    · conv => whnf
      exact ⟨0, (Dk.mk 0 false 0 fs, newR p.files), rfl, rfl, Nat.zero_le _, Nat.zero_le _, by rw [hx]; exact hal, by show (0 : Int) ≤ 0; decide⟩
    · rintro k ⟨d, r⟩ ⟨hk, hk2, hlk, hcl⟩
      replace hlk : Alike d.dat r := hlk
      replace hcl : d.dat.calls ≤ k := hcl
      have hpl : (p.acts.map ActS.cs).length = p.acts.length := List.length_map ..
      conv => whnf
      refine rdz ?_; repeat' ((with_reducible apply tw) <;> intro _)
      · rename_i k1 k2
        obtain ⟨x, hxx⟩ : ∃ x, p.acts[k]? = some x := ⟨_, List.getElem?_eq_getElem (by omega)⟩
        obtain ⟨hbl, hpk⟩ := act_light hhv (by omega) hxx
        ((with_reducible refine ix_map hxx ?_ ?_); (focus (first | rfl | omega)); (conv => whnf))
        refine (does_ok d r hlk (by omega) x (hp.a x (List.mem_of_getElem? hxx)) hbl).mono ?_
        rintro _ _ ⟨rfl, d1, r1, h1, h2, rfl | rfl⟩
        · conv => whnf
          (refine (calls_ok d1).mono ?_; rintro _ _ ⟨rfl, rfl⟩; (conv => whnf))
          (refine (rCalls_ok r1).mono ?_; rintro _ _ ⟨rfl, rfl⟩; (conv => whnf))
          refine rdz ?_; repeat' ((with_reducible apply tw) <;> intro _)
          · rename_i k3
            exact absurd h1.calls.symm k3
          · exact ⟨k + 1, (d1, r1), rfl, rfl, ⟨by omega, by omega, h1, by show d1.dat.calls ≤ _; omega⟩, by omega⟩
        · conv => whnf
          (refine (calls_ok d1).mono ?_; rintro _ _ ⟨rfl, rfl⟩; (conv => whnf))
          (refine (rCalls_ok r1).mono ?_; rintro _ _ ⟨rfl, rfl⟩; (conv => whnf))
          refine rdz ?_; repeat' ((with_reducible apply tw) <;> intro _)
          · rename_i k3
            exact absurd h1.calls.symm k3
          · exact ⟨k + 1, (d1, r1), rfl, rfl, ⟨by omega, by omega, h1, by show d1.dat.calls ≤ _; omega⟩, by omega⟩
      · (refine (wakes9_ok).mono ?_; rintro _ _ ⟨rfl, rfl⟩; (conv => whnf))
        refine rdz ?_; repeat' ((with_reducible apply tw) <;> intro _)
        exact ⟨rfl, rfl⟩
      · (refine (wakes9_ok).mono ?_; rintro _ _ ⟨rfl, rfl⟩; (conv => whnf))
        refine rdz ?_; repeat' ((with_reducible apply tw) <;> intro _)
        exact ⟨rfl, rfl⟩
end Go.Proofs.Ytgoejddmglgogaa
/- DiskExact: for every script the law returns true, and its argument reads behind the call as it read before. No condition of ours. -/
namespace Go.Proofs.Ytgoejddmglgogaa
open Go.Ab Go.RowKit Go.ChangeShapes Go.WideShapes Go.ChangeAt
theorem own : ownKnob Try.prog.godebug = none := by kernel_rfl
theorem laidOut : laidOutB Try.prog = true := by kernel_rfl
set_option maxRecDepth 100000 in
theorem diskExact_lifted (os : Os) (started : os.Started) (H : Type) (enc : TypeId × Value → H) :
    ReturnsInHanded {} Try.checked os 3 .any (Rows.diskExactSpec.pre6 enc Try.prog Try.f3 Rows.diskExactRow.domain false) (Rows.diskExactSpec.post enc Try.prog Try.f3 false true false false) := by
  refine returnsInHanded_of_change_sized (C := Try.checked) own started (by kernel_rfl) Try.func3
    (ChangeSpec.witness6 (enc := enc) (C := Try.checked) false ⟨#[], #[.agg #[.slice none 0 0, .slice none 0 0]], []⟩ 8 (by kernel_rfl) (by kernel_rfl) (by kernel_rfl) (by kernel_rfl)) ?_
  intro W base args ds gs before hval hW _ hsz _
  exact law_contract ttOk (f := Try.f3) (tb := 4) (t := 25) rfl rfl Try.underlying4 rfl (fun _ _ => rfl) laidOut (by kernel_rfl) (of_decide_eq_true (by kernel_rfl)) 6 (by kernel_rfl) argS
    (fun W base v ds h1 h2 => argS_ok Try.underlying25 h1 h2)
    (fun ds hd => by
      obtain ⟨p, hp, hok⟩ := script_of hd
      rw [hp]
      exact diskExact_ok p hok) hval hW hsz
theorem diskExact_holds : Rows.DiskExactSaid :=
  OpenClaim.holds_of_wide 3 Try.f3 rfl rfl rfl rfl rfl rfl rfl ⟨rfl, rfl, rfl, rfl, rfl⟩ rfl rfl rfl rfl rfl (by kernel_rfl) Try.func3 (by kernel_rfl)
    (of_decide_eq_true (by kernel_rfl)) (by unfold Func.isWrapper; first | (rw [if_pos (by decide +kernel)]; kernel_rfl) | (rw [if_neg (by decide +kernel)]; exact ⟨rfl, rfl⟩))
    (fun os started H enc _ => diskExact_lifted os started H enc)
#print axioms diskExact_holds
end Go.Proofs.Ytgoejddmglgogaa
