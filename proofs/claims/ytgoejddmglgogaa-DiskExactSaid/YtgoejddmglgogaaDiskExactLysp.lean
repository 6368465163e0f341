/- DiskExact: abstract runs. -/
import Derived.Test.YtgoejddmglgogaaDiskExactLynq
set_option linter.unusedVariables false
set_option linter.unusedSimpArgs false
namespace Go.Ab
open Go.RowKit
def Triv : Sh → Value → Prop
  | .int, v => ∃ k, v = .int .i64 k
  | .str, v => ∃ s, v = .string s
  | .u8, v => ∃ k, v = .int .u8 k
  | .sl _, v => v = .slice none 0 0
theorem SL_none (lo n : Nat) (w : World) (k m : Nat) : SL lo n w k m (.slice none 0 0) := by
  cases k with
  | zero => rfl
  | succ k => exact ⟨none, 0, 0, rfl, Nat.le_refl _, ⟨by simp [maxLen], by omega⟩, .inl rfl⟩
theorem Triv.ok {lo n : Nat} {w : World} {k : Nat} {sh : Sh} {v : Value} (h : Triv sh v) : ShOk (fun m' v' => SL lo n w k m' v') sh v := by
  cases sh with
  | int => exact h
  | str => exact h
  | u8 => exact h
  | sl m => have h : v = .slice none 0 0 := h; subst h; exact SL_none lo n w k m
theorem setCell_at {w : World} {b k : Nat} {v : Value} {c : Array Value} {e : TypeId} {mk : Nat × Nat} (h : w.heap[b]? = some (.cells c e mk)) : (w.setCell ⟨b, k, none⟩ v).heap[b]? = some (.cells (c.setIfInBounds k v) e mk) := by
  simp [World.setCell, Array.getElem?_modify, h]
theorem setCell_ne {w : World} {b k j : Nat} {v : Value} (h : j ≠ b) : (w.setCell ⟨b, k, none⟩ v).heap[j]? = w.heap[j]? := by
  simp [World.setCell, Array.getElem?_modify, Ne.symm h]
theorem setCell_size {w : World} {a : Addr} {v : Value} : (w.setCell a v).heap.size = w.heap.size := by simp [World.setCell]
structure Spoil (lo n : Nat) (w w' : World) : Prop where
  os : w'.os = w.os
  tape : w'.tape = w.tape
  output : w'.output = w.output
  size : w.heap.size ≤ w'.heap.size
  block : ∀ b, b < w.heap.size → ¬ (lo ≤ b ∧ b < lo + n) → w'.heap[b]? = w.heap[b]?
  sl : ∀ k m v, SL lo n w k m v → SL lo n w' k m v
  like : Likes w w'
theorem Spoil.refl (lo n : Nat) (w : World) : Spoil lo n w w := ⟨rfl, rfl, rfl, Nat.le_refl _, fun _ _ _ => rfl, fun _ _ _ h => h, .refl w⟩
theorem Spoil.trans {lo n : Nat} {a b c : World} (h : Spoil lo n a b) (k : Spoil lo n b c) : Spoil lo n a c :=
  ⟨k.os.trans h.os, k.tape.trans h.tape, k.output.trans h.output, Nat.le_trans h.size k.size, fun x hx hn => (k.block x (Nat.lt_of_lt_of_le hx h.size) hn).trans (h.block x hx hn), fun k1 m v hv => k.sl _ _ _ (h.sl _ _ _ hv), h.like.trans k.like⟩
theorem Spoil.keeps {lo n : Nat} {w w' : World} (hn : ∀ b, lo ≤ b → b < lo + n → b < w.heap.size) (k : Keeps w w') : Spoil lo n w w' :=
  ⟨k.os, k.tape, k.output, k.size, fun b hb _ => k.block b hb, fun k1 m v hv => SL_mono (fun b h1 h2 cur e m h => by rw [k.block b (hn b h1 h2)]; exact h) k1 m v hv, k.likes⟩
theorem cell_set_at {w : World} {b o : Nat} {cur : Array Value} {e : TypeId} {mk : Nat × Nat} {u x : Value} (hh : w.heap[b]? = some (.cells cur e mk)) (hx : w.cell? ⟨b, o, none⟩ = some x) : (w.setCell ⟨b, o, none⟩ u).cell? ⟨b, o, none⟩ = some u := by
  rw [cell_of_row w b o cur e mk hh] at hx
  have hlt : o < cur.size := (Array.getElem?_eq_some_iff.1 hx).1
  rw [cell_of_row _ b o _ e mk (setCell_at hh), Array.getElem?_setIfInBounds_self_of_lt hlt]
theorem cell_set_ne {w : World} {b o : Nat} {a : Addr} {u : Value} (h : ¬ (a.block = b ∧ a.off = o)) : (w.setCell ⟨b, o, none⟩ u).cell? a = w.cell? a := by
  refine World.cell?_setCell_other _ _ _ _ (fun e => ?_)
  subst e
  exact h ⟨rfl, rfl⟩
theorem Spoil.cell {lo n : Nat} {w : World} {b o : Nat} {cur : Array Value} {e : TypeId} {mk : Nat × Nat} {u : Value} (h1 : lo ≤ b) (h2 : b < lo + n) (hh : w.heap[b]? = some (.cells cur e mk))
    (hu : ∀ sh, (gsh (gsz e))[o % gsz e]? = some sh → Triv sh u) : Spoil lo n w (w.setCell ⟨b, o, none⟩ u) := by
  refine ⟨rfl, rfl, rfl, by rw [setCell_size]; exact Nat.le_refl _, fun x _ hn => setCell_ne fun e => hn (by subst e; exact ⟨h1, h2⟩), ?_, ?_⟩
  rotate_right
  · intro x c1 e1 m1 k1 k2
    by_cases hx : x = b
    · subst hx
      rw [hh] at k1
      simp only [Option.some.injEq, Obj.cells.injEq] at k1
      obtain ⟨rfl, rfl, rfl⟩ := k1
      exact ⟨_, _, setCell_at hh, by simp, by rw [Array.size_setIfInBounds]; exact k2⟩
    · exact ⟨c1, m1, by rw [setCell_ne hx]; exact k1, rfl, k2⟩
  intro k
  induction k with
  | zero => intro m v hv; exact hv
  | succ k ih =>
    intro m v hv
    obtain ⟨p, len, cap, k1, k2, k3, k4⟩ := hv
    refine ⟨p, len, cap, k1, k2, k3, k4.imp id ?_⟩
    rintro ⟨a, e1, e2, e3, e4, ⟨cur1, e', mk1, e5, e6, e7, e8, e9⟩, e10⟩
    refine ⟨a, e1, e2, e3, e4, ?_, fun i j sh hi hj => ?_⟩
    · by_cases hb : a.block = b
      · rw [hb] at e5 ⊢
        rw [hh] at e5
        simp only [Option.some.injEq, Obj.cells.injEq] at e5
        obtain ⟨rfl, rfl, rfl⟩ := e5
        exact ⟨_, _, _, setCell_at hh, by rw [Array.size_setIfInBounds]; exact e6, e7, e8, by rw [Array.size_setIfInBounds]; exact e9⟩
      · exact ⟨cur1, e', mk1, by rw [setCell_ne hb]; exact e5, e6, e7, e8, e9⟩
    · obtain ⟨u1, c1, c2⟩ := e10 i j sh hi hj
      by_cases hx : a.block = b ∧ a.off + i * m + j = o
      · obtain ⟨rfl, rfl⟩ := hx
        rw [hh] at e5
        simp only [Option.some.injEq, Obj.cells.injEq] at e5
        obtain ⟨rfl, rfl, rfl⟩ := e5
        have hjm : j < m := Nat.lt_of_lt_of_le (List.getElem?_eq_some_iff.1 hj).1 (gsh_len m)
        refine ⟨u, cell_set_at hh c1, (hu sh ?_).ok⟩
        rw [e7]
        have : (a.off + i * m + j) % m = j := by
          rw [Nat.add_right_comm, Nat.add_mul_mod_self_right, Nat.add_mod, e8, Nat.zero_add, Nat.mod_mod, Nat.mod_eq_of_lt hjm]
        rw [this]
        exact hj
      · refine ⟨u1, by rw [cell_set_ne (a := ⟨a.block, a.off + i * m + j, none⟩) hx]; exact c1, ?_⟩
        cases sh with
        | int => exact c2
        | str => exact c2
        | u8 => exact c2
        | sl m' => exact ih m' u1 c2
theorem Spoil.cells {lo n : Nat} {b : Nat} {e : TypeId} {mk : Nat × Nat} (h1 : lo ≤ b) (h2 : b < lo + n) : ∀ (us : List Value) (o : Nat) (w : World) (cur : Array Value), w.heap[b]? = some (.cells cur e mk) →
    (∀ (j : Nat) (u : Value), us[j]? = some u → ∀ sh, (gsh (gsz e))[(o + j) % gsz e]? = some sh → Triv sh u) → Spoil lo n w (w.setCells b o us)
  | [], o, w, cur, _, _ => .refl _ _ _
  | u :: r, o, w, cur, hh, hu => by
    refine (Spoil.cell h1 h2 hh (fun sh hs => hu 0 u rfl sh hs)).trans (Spoil.cells h1 h2 r (o + 1) _ _ (setCell_at hh) fun j v hj sh hs => hu (j + 1) v (by simpa using hj) sh ?_)
    rw [show o + (j + 1) = o + 1 + j by omega]
    exact hs
theorem FitC_get {f : Nat → DV → Prop} : ∀ {l : List Sh} {cs : List DV}, FitC f l cs → ∀ {j : Nat} {sh : Sh}, l[j]? = some sh → ∃ x, cs[j]? = some x ∧ match sh with
    | .int => ∃ k, x = .int .i64 k
    | .str => ∃ s, x = .str s
    | .u8 => ∃ k, x = .int .u8 k
    | .sl m => f m x
  | [], cs, h, j, sh, hj => by simp at hj
  | .int :: r, cs, h, j, sh, hj => by
    obtain ⟨k, l, rfl, h2⟩ := h
    cases j with
    | zero => simp at hj; subst hj; exact ⟨_, rfl, k, rfl⟩
    | succ j => simpa using FitC_get h2 (by simpa using hj)
  | .str :: r, cs, h, j, sh, hj => by
    obtain ⟨k, l, rfl, h2⟩ := h
    cases j with
    | zero => simp at hj; subst hj; exact ⟨_, rfl, k, rfl⟩
    | succ j => simpa using FitC_get h2 (by simpa using hj)
  | .u8 :: r, cs, h, j, sh, hj => by
    obtain ⟨k, l, rfl, h2⟩ := h
    cases j with
    | zero => simp at hj; subst hj; exact ⟨_, rfl, k, rfl⟩
    | succ j => simpa using FitC_get h2 (by simpa using hj)
  | .sl m :: r, cs, h, j, sh, hj => by
    obtain ⟨x, l, rfl, h1, h2⟩ := h
    cases j with
    | zero => simp at hj; subst hj; exact ⟨_, rfl, h1⟩
    | succ j => simpa using FitC_get h2 (by simpa using hj)
theorem VDC_get {rd : Addr → Value → Prop} : ∀ {cs : List DV} {a : Addr}, VDC rd cs a → a.spot = none → ∀ {j : Nat} {x : DV}, cs[j]? = some x → ∃ u, rd ⟨a.block, a.off + j, none⟩ u ∧ u.oneCell' = true ∧ VD rd x u
  | [], a, h, ha, j, x, hj => by simp at hj
  | c :: r, a, h, ha, j, x, hj => by
    simp only [VDC] at h
    obtain ⟨⟨u, h1, h0, h2⟩, h3⟩ := h
    cases j with
    | zero => simp at hj; subst hj; exact ⟨u, by simpa [addr_eta a ha] using h1, h0, h2⟩
    | succ j =>
      obtain ⟨u', k1, k2, k3⟩ := VDC_get h3 rfl (j := j) (by simpa using hj)
      exact ⟨u', by simpa [Nat.add_assoc, Nat.add_comm 1 j] using k1, k2, k3⟩
theorem SL_of {lo n : Nat} {w : World} : ∀ (k m : Nat) (x : DV) (v : Value), FitS k m x → VD (rdI lo n w) x v → SL lo n w k m v
  | 0, m, x, v, hf, hv => by
    have hf : x = .nils := hf
    subst hf
    simp only [VD] at hv
    exact hv
  | k + 1, m, x, v, hf, hv => by
    rcases hf with rfl | ⟨xs, rfl, hl, hc⟩
    · simp only [VD] at hv
      subst hv
      exact SL_none lo n w (k + 1) m
    · simp only [VD] at hv
      obtain ⟨hm, p, cap, rfl, h2, h3, h4, h5⟩ := hv
      refine ⟨p, xs.length, cap, rfl, h2, ⟨h3, hl⟩, ?_⟩
      by_cases h0 : cap = 0
      · exact .inl h0
      refine .inr ?_
      cases p with
      | none => exact absurd (h4 rfl) h0
      | some a =>
        obtain ⟨k1, k2, k3⟩ := h5 a rfl
        obtain ⟨t1, t2, t3⟩ := k2 (by omega)
        rcases t3 with t3 | ⟨m', t4, t5⟩
        · exact absurd (spot_none t3) (by simp)
        cases t4
        obtain ⟨_, cur, e, mk, cap', t6, t7, t8, t9, t10, t11⟩ := (t5 lo rfl).2 (by first | assumption | omega)
        simp only [Value.slice.injEq, Option.some.injEq] at t6
        obtain ⟨t6, _, rfl⟩ := t6
        have hsp : a.spot = none := by rw [t6]
        refine ⟨a, rfl, hsp, t1, t2, ⟨cur, e, mk, t7, t8, t9, t10, t11⟩, fun i j sh hi hj => ?_⟩
        have hx : xs[i]? = some xs[i] := List.getElem?_eq_getElem hi
        obtain ⟨g1, g2⟩ := VDE_get m k3 hsp hx
        obtain ⟨y, hy, hm⟩ := FitC_get (hc _ (List.mem_of_getElem? hx)) hj
        obtain ⟨u, u1, u2, u3⟩ := VDC_get g2 rfl hy
        obtain ⟨_, _, u4⟩ := u1
        rcases u4 with u4 | ⟨_, u4, _⟩
        rotate_left
        · cases u4
        refine ⟨u, u4, ?_⟩
        cases sh with
        | int => obtain ⟨z, rfl⟩ := hm; simp only [VD] at u3; exact ⟨z, u3⟩
        | str => obtain ⟨z, rfl⟩ := hm; simp only [VD] at u3; exact ⟨z, u3⟩
        | u8 => obtain ⟨z, rfl⟩ := hm; simp only [VD] at u3; exact ⟨z, u3⟩
        | sl m' => exact SL_of k m' y u hm u3
theorem SL_of_is {lo n : Nat} {ok : IsK} {w : World} {x : DV} {v : Value} {m : Nat} (hf : FitS 3 m x) (h : islRel w x v (.isle lo n ok)) : SL lo n w 3 m v := by
  cases ok with
  | bool ok =>
    cases ok with
    | true => exact SL_of 3 m x v hf h
    | false => exact h m hf
  | hole b k ok =>
    have hx : x.isSlo = false := by
      rcases hf with rfl | ⟨xs, rfl, _⟩
      · rfl
      · rfl
    exact SL_of 3 m x v hf (VD.mono (fun a u hr => ⟨hr.1, hr.2.1, hr.2.2.imp (fun h => h.1) id⟩) _ _ (h.1 hx))
theorem SimH.spoil {c : Ctx} (hc : c.wf) {E : Nat → Option Nat} {lo n : Nat} {ok : IsK} {w w' : World} (h : SimH c E [.isle lo n ok] w) (hs : Spoil lo n w w') :
    SimH c E [.isle lo n false] w' ∧ (rcOf c.M0 E [.isle lo n ok] w).le (rcOf c.M0 E [.isle lo n false] w') := by
  have h0 : ([AB.isle lo n ok] : List AB)[0]? = some (.isle lo n ok) := rfl
  have hbx : ∀ b, (lo ≤ b ∧ b < lo + n) ↔ b ∈ (AB.isle lo n ok).boxes := fun b => by simp only [AB.boxes, List.mem_range'_1]
  have one : ∀ (x : AB) (j : Nat) (ab : AB), ([x] : List AB)[j]? = some ab → j = 0 ∧ ab = x := by
    intro x j ab hj
    cases j with
    | zero => simp at hj; exact ⟨rfl, hj.symm⟩
    | succ j => simp at hj
  have hle : (rcOf c.M0 E [.isle lo n ok] w).le (rcOf c.M0 E [.isle lo n false] w') := by
    refine ⟨?_, ?_, ?_, ?_, ?_⟩
    · refine rdle rfl hs.like fun a u h1 h2 => ?_
      have hn : ¬ (lo ≤ a.block ∧ a.block < lo + n) := fun hb => h2 (.inr (.inr ⟨0, _, h0, (hbx _).1 hb⟩))
      refine ⟨by rw [World.cell?_of_block (w := w) (hs.block a.block (cell?_lt h1) hn)]; exact h1, ?_⟩
      rintro (hm | ⟨i, ab, hi, he, hm⟩ | ⟨i, ab, hi, hm⟩)
      · exact h2 (.inl hm)
      · obtain ⟨rfl, rfl⟩ := one _ _ _ hi
        exact hm.elim
      · obtain ⟨rfl, rfl⟩ := one _ _ _ hi
        exact hn ((hbx _).2 hm)
    · rintro i b ⟨ab, h1, h2, h3⟩
      obtain ⟨rfl, rfl⟩ := one _ _ _ h1
      simp [AB.isCell] at h2
    · rintro i v ⟨ab, h1, h2⟩
      obtain ⟨rfl, rfl⟩ := one _ _ _ h1
      exact h2.elim
    · rintro i j o v ⟨ab, h1, h2⟩
      obtain ⟨rfl, rfl⟩ := one _ _ _ h1
      exact h2.elim
    · rintro i x v ⟨ab, h1, h2⟩
      obtain ⟨rfl, rfl⟩ := one _ _ _ h1
      refine ⟨.isle lo n false, rfl, fun m hf => ?_⟩
      exact hs.sl _ _ _ (SL_of_is hf h2)
  refine ⟨⟨hs.os.trans h.os, hs.tape.trans h.tape, hs.output.trans h.output, Nat.le_trans h.size hs.size, ?_, ?_, ?_, ?_, h.old.trans hle, ?_, h.lk.trans hs.like, fun s0 hs0 j e1 m1 ys sh1 b hj he => ?_⟩, hle⟩
  rotate_right
  · obtain ⟨_, hx⟩ := one _ _ _ hj; cases hx
  · intro b hp
    have hn : ¬ (lo ≤ b ∧ b < lo + n) := fun hb => h.bx.low 0 _ b h0 ((hbx _).1 hb) hp
    rw [hs.block b (Nat.lt_of_lt_of_le (hc.low b hp) h.size) hn]
    exact h.prot b hp
  · intro j ab hj
    obtain ⟨rfl, rfl⟩ := one _ _ _ hj
    intro b h1 h2
    have := h.blt h0 ((hbx b).1 ⟨h1, h2⟩)
    exact ⟨_, Array.getElem?_eq_getElem (Nat.lt_of_lt_of_le this hs.size)⟩
  · intro j ab b hj hl
    obtain ⟨rfl, rfl⟩ := one _ _ _ hj
    cases hl
  · intro i j ab ab' b hi hj hl
    obtain ⟨rfl, rfl⟩ := one _ _ _ hi
    cases hl
  · refine ⟨?_, ?_, ?_, ?_⟩
    · intro j ab b hj hb
      obtain ⟨rfl, rfl⟩ := one _ _ _ hj
      exact h.bx.low 0 _ b h0 hb
    · intro i j ab ab' b hi hb hj hl
      obtain ⟨rfl, rfl⟩ := one _ _ _ hj
      cases hl
    · intro j ab hj
      obtain ⟨rfl, rfl⟩ := one _ _ _ hj
      have := h.bx.nd 0 _ h0
      exact this
    · intro i j ab ab' b hi hj _ _
      obtain ⟨rfl, rfl⟩ := one _ _ _ hi
      obtain ⟨rfl, _⟩ := one _ _ _ hj
      rfl
theorem isl_SL {c : Ctx} {E : Nat → Option Nat} {lo n : Nat} {ok : IsK} {w : World} {x : DV} {v : Value} {m : Nat} (hf : FitS 3 m x) (h : VR (rcOf c.M0 E [.isle lo n ok] w) (.isl 0 x) v) : SL lo n w 3 m v := by
  simp only [VR] at h
  obtain ⟨⟨ab, hab, hr⟩, _⟩ := h
  simp at hab
  subst hab
  exact SL_of_is hf hr
theorem acalls_spoil {P : Program} {f : FuncId} {avs : List AV} {lo n : Nat} {ok : IsK}
    (h : ∀ (c : Ctx) (E : Nat → Option Nat) (w : World) (vs : Array Value), (∀ b, lo ≤ b → b < lo + n → b < w.heap.size) → VRt (rcOf c.M0 E [.isle lo n ok] w) avs vs.toList → Calls P f vs w fun e w' => e = .returned (.tuple #[]) ∧ Spoil lo n w w') :
    ACalls P f avs [.isle lo n ok] (fun av L => av = .tup [] ∧ L = [.isle lo n false]) := by
  intro c vs hc hL hs hv
  have h0 : ([AB.isle lo n ok] : List AB)[0]? = some (.isle lo n ok) := rfl
  have hn : ∀ b, lo ≤ b → b < lo + n → b < c.w0.heap.size := fun b h1 h2 => hs.blt h0 (by simp only [AB.boxes, List.mem_range'_1]; exact ⟨h1, h2⟩)
  refine (h c c.E0 c.w0 vs hn hv).mono ?_
  rintro e w' ⟨rfl, hsp⟩
  exact ⟨_, .tup [], _, c.E0, rfl, ⟨rfl, rfl⟩, (hs.spoil hc hsp).1, by simp [VR, VRt]⟩
end Go.Ab
