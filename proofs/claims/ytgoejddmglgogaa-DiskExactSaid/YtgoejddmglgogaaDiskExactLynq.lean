/- DiskExact: abstract runs. -/
import Derived.Test.YtgoejddmglgogaaDiskExactLyis
set_option linter.unusedVariables false
set_option linter.unusedSimpArgs false
namespace Go.Ab
open Go.RowKit
inductive QD : DV → DV → Prop
  | flat {y : DV} (h : flatD y) : QD y y
  | sl {n : Nat} {xs : List (List DV)} (h : ∀ cs ∈ xs, ∀ x ∈ cs, flatD x) : QD (.sl n xs) (.slq n xs)
theorem VDC_flat {rd rd' : Addr → Value → Prop} {B : Nat} (h1 : ∀ a u, a.spot = none → a.block = B → rd a u → rd' a u) : ∀ {cs : List DV} {a : Addr}, (∀ x ∈ cs, flatD x) → a.spot = none → a.block = B → VDC rd cs a → VDC rd' cs a
  | [], a, _, _, _, _ => by simp [VDC]
  | c :: r, a, hf, ha, hb, x => by
    simp only [VDC] at x ⊢
    obtain ⟨⟨u, k1, k0, k2⟩, k3⟩ := x
    exact ⟨⟨u, h1 _ _ ha hb k1, k0, hf c (by simp) _ _ _ k2⟩, VDC_flat h1 (fun y hy => hf y (by simp [hy])) rfl hb k3⟩
theorem VDE_flat {rd rd' : Addr → Value → Prop} {B : Nat} (h1 : ∀ a u, a.spot = none → a.block = B → rd a u → rd' a u) {n : Nat} : ∀ {xs : List (List DV)} {a : Addr}, (∀ cs ∈ xs, ∀ x ∈ cs, flatD x) → a.spot = none → a.block = B → VDE rd n xs a → VDE rd' n xs a
  | [], a, _, _, _, _ => by simp [VDE]
  | c :: r, a, hf, ha, hb, x => by
    simp only [VDE] at x ⊢
    exact ⟨x.1, VDC_flat h1 (hf c (by simp)) ha hb x.2.1, VDE_flat h1 (fun y hy => hf y (by simp [hy])) rfl hb x.2.2⟩
theorem QD.into {rd rd' : Addr → Value → Prop} {N : Nat} (hp : ∀ a u, a.spot = none → rd a u → rd' a u ∧ a.block < N)
    (ht : ∀ (p : Addr) (n cap : Nat), rd ⟨p.block, p.off, some n⟩ (.slice (some p) 0 cap) → rd' ⟨p.block, p.off, some 0⟩ (.slice (some p) n cap))
    (h0 : ∀ b o, b < N → rd' ⟨b, o, some 0⟩ (.int .i64 0)) {y y' : DV} {v : Value} (h : QD y y') (hv : VD rd y v) : VD rd' y' v := by
  cases h with
  | flat h => exact h _ _ _ hv
  | @sl n xs h =>
    simp only [VD] at hv ⊢
    obtain ⟨hn, a, cap, h1, h2, h3, h4, h5⟩ := hv
    refine ⟨hn, a, cap, h1, h2, h3, h4, fun a' ha => ?_⟩
    obtain ⟨k1, k2, k3⟩ := h5 a' ha
    refine ⟨k1, fun hc => ht _ _ _ (k2 hc), ?_, ?_⟩
    · cases xs with
      | nil => exact .inl rfl
      | cons cs r =>
        refine .inr (h0 _ _ ?_)
        have hsp : a'.spot = none := k1.resolve_left (by simp)
        simp only [VDE] at k3
        cases cs with
        | nil => have := k3.1; simp at this; omega
        | cons x l =>
          have k4 := k3.2.1
          simp only [VDC] at k4
          obtain ⟨⟨u, k5, _⟩, _⟩ := k4
          exact (hp _ _ hsp k5).2
    · rcases k1 with rfl | hsp
      · simp [VDE]
      · exact VDE_flat (B := a'.block) (fun b u hb _ hr => (hp b u hb hr).1) h hsp rfl k3
theorem QD.out {rd rd' : Addr → Value → Prop} {N : Nat} (hp : ∀ a u, a.spot = none → a.block < N → rd' a u → rd a u)
    (ht : ∀ (p : Addr) (n cap : Nat), 0 < n → rd' ⟨p.block, p.off, some 0⟩ (.slice (some p) n cap) → rd ⟨p.block, p.off, some n⟩ (.slice (some p) 0 cap))
    (h0 : ∀ b o, rd' ⟨b, o, some 0⟩ (.int .i64 0) → b < N) {y y' : DV} {v : Value} (h : QD y y') (hv : VD rd' y' v) : VD rd y v := by
  cases h with
  | flat h => exact h _ _ _ hv
  | @sl n xs h =>
    simp only [VD] at hv ⊢
    obtain ⟨hn, a, cap, h1, h2, h3, h4, h5⟩ := hv
    refine ⟨hn, a, cap, h1, h2, h3, h4, fun a' ha => ?_⟩
    obtain ⟨k1, k2, k4, k3⟩ := h5 a' ha
    refine ⟨k1, fun hc => ht _ _ _ hn (k2 hc), ?_⟩
    rcases k4 with rfl | k4
    · simp [VDE]
    · rcases k1 with rfl | hsp
      · simp [VDE]
      · have hb := h0 _ _ k4
        exact VDE_flat (B := a'.block) (fun b u hb' e hr => hp b u hb' (by omega) hr) h hsp rfl k3
inductive QA (r : DV → DV → Prop) : AV → AV → Prop
  | d {y y' : DV} (h : r y y') : QA r (.d y) (.d y')
  | map (i : Nat) : QA r (.map i) (.map i)
def QK (k : KV) : Prop := ∀ (rd rd' : Addr → Value → Prop) (v : Value), VKV rd k v → VKV rd' k v
def QE (r : DV → DV → Prop) (e e' : KV × MV) : Prop := ∃ k b cs cs', e = (k, .box b cs) ∧ e' = (k, .box b cs') ∧ QK k ∧ All2 r cs cs'
inductive QB (r : DV → DV → Prop) : AB → AB → Prop
  | cells {cs cs' : List AV} (h : All2 (QA r) cs cs') : QB r (.cells cs) (.cells cs')
  | map {es es' : List (KV × MV)} (h : All2 (QE r) es es') : QB r (.map es) (.map es')
theorem All2.imp {α β : Type} {r s : α → β → Prop} (h : ∀ x y, r x y → s x y) {xs : List α} {ys : List β} (k : All2 r xs ys) : All2 s xs ys := by
  induction k with
  | nil => exact .nil
  | cons a _ ih => exact .cons (h _ _ a) ih
theorem All2.flip {α β : Type} {r : α → β → Prop} {xs : List α} {ys : List β} (k : All2 r xs ys) : All2 (fun y x => r x y) ys xs := by
  induction k with
  | nil => exact .nil
  | cons a _ ih => exact .cons a ih
theorem All2.at {α β : Type} {r : α → β → Prop} {xs : List α} {ys : List β} (k : All2 r xs ys) : ∀ {i : Nat} {y : β}, ys[i]? = some y → ∃ x, xs[i]? = some x ∧ r x y := by
  induction k with
  | nil => intro i y h; simp at h
  | cons a _ ih =>
    intro i y h
    cases i with
    | zero => simp at h; subst h; exact ⟨_, rfl, a⟩
    | succ i => simpa using ih (by simpa using h)
theorem All2.at' {α β : Type} {r : α → β → Prop} {xs : List α} {ys : List β} (k : All2 r xs ys) {i : Nat} {x : α} (h : xs[i]? = some x) : ∃ y, ys[i]? = some y ∧ r x y := k.flip.at h
theorem QB.flip {r : DV → DV → Prop} {a b : AB} (h : QB r a b) : QB (fun y x => r x y) b a := by
  cases h with
  | cells h => exact .cells (h.flip.imp fun _ _ k => by cases k with | d k => exact .d k | map i => exact .map i)
  | map h => exact .map (h.flip.imp fun _ _ ⟨k, b, cs, cs', e1, e2, e3, e4⟩ => ⟨k, b, cs', cs, e2, e1, e3, e4.flip⟩)
theorem All2.cs {R R' : RC} {r : DV → DV → Prop} (h : ∀ y y' v, r y y' → VD R.rd y v → VD R'.rd y' v) {xs ys : List DV} (k : All2 r xs ys) : ∀ {us : List Value}, VDs R.rd xs us → VDs R'.rd ys us := by
  induction k with
  | nil => intro us x; simpa [VDs, Cs] using x
  | cons hxy _ ih =>
    intro us x
    simp only [VDs, Cs] at x ⊢
    obtain ⟨u, us', e, e0, e1, e2⟩ := x
    exact ⟨u, us', e, e0, h _ _ _ hxy e1, ih e2⟩
theorem All2.vme {R R' : RC} {w : World} {r : DV → DV → Prop} (h : ∀ y y' v, r y y' → VD R.rd y v → VD R'.rd y' v) {es es' : List (KV × MV)} (k : All2 (QE r) es es') : ∀ {us : List MapEntry}, VME R.rd w es us → VME R'.rd w es' us := by
  induction k with
  | nil => intro us x; simpa [VME] using x
  | cons hxy _ ih =>
    intro us x
    obtain ⟨k, b, cs, cs', rfl, rfl, e3, e4⟩ := hxy
    simp only [VME, VMV] at x ⊢
    obtain ⟨u, us', e, x1, ⟨x2, cur, e', x3, x4⟩, x5⟩ := x
    exact ⟨u, us', e, e3 _ _ _ x1, ⟨x2, cur, e', x3, e4.cs h x4⟩, ih x5⟩
theorem QB.br {R R' : RC} {w : World} {eb : Option Nat} {r : DV → DV → Prop} (h : ∀ y y' v, r y y' → VD R.rd y v → VD R'.rd y' v) (hpt : ∀ i b, R.pt i b → R'.pt i b) {a b : AB} (k : QB r a b) (hb : BR R w eb a) : BR R' w eb b := by
  cases k with
  | cells k =>
    obtain ⟨x, cur, e, h1, h2, h3⟩ := hb
    refine ⟨x, cur, e, h1, h2, k.VRs (fun a b v hab hv => ?_) h3⟩
    cases hab with
    | d hab => simp only [VR] at hv ⊢; exact h _ _ _ hab hv
    | map i => simp only [VR] at hv ⊢; obtain ⟨y, y1, y2⟩ := hv; exact ⟨y, hpt _ _ y1, y2⟩
  | map k =>
    obtain ⟨x, ents, clock, h1, h2, h3, h4, h5⟩ := hb
    exact ⟨x, ents, clock, h1, h2, k.vme h h3, h4, h5⟩
theorem boxes_QE {r : DV → DV → Prop} {es es' : List (KV × MV)} (k : All2 (QE r) es es') : boxesM es' = boxesM es := by
  induction k with
  | nil => rfl
  | cons hxy _ ih =>
    obtain ⟨k, b, cs, cs', rfl, rfl, e3, e4⟩ := hxy
    simp only [boxesM, ih]
theorem QB.boxes {r : DV → DV → Prop} {a b : AB} (k : QB r a b) : b.boxes = a.boxes := by
  cases k with
  | cells k => rfl
  | map k => exact boxes_QE k
theorem QB.cell {r : DV → DV → Prop} {a b : AB} (k : QB r a b) : a.isCell = true ∧ b.isCell = true ∧ a.live = true ∧ b.live = true := by cases k <;> exact ⟨rfl, rfl, rfl, rfl⟩
theorem QB.mut {r : DV → DV → Prop} {a b : AB} (k : QB r a b) (o : Nat) : a.mut o ∧ b.mut o := by cases k <;> exact ⟨trivial, trivial⟩
theorem QB.eb {R : RC} {w : World} {eb : Option Nat} {r : DV → DV → Prop} {a b : AB} (k : QB r a b) (h : BR R w eb a) : ∃ x, eb = some x := by
  cases k with
  | cells k => obtain ⟨x, _, _, h1, _⟩ := h; exact ⟨x, h1⟩
  | map k => obtain ⟨x, _, _, h1, _⟩ := h; exact ⟨x, h1⟩
theorem Tk.thin {s : SQ} {w : World} {a : Addr} {u : Value} (h : Tk (some s) w a u) : Tk (some (s.lo : SQ)) w a u := by
  obtain ⟨n, h1, h2⟩ := h
  exact ⟨n, h1, fun s0 hs => by cases hs; exact ⟨fun _ => trivial, (h2 _ rfl).2⟩⟩
def lendQ (a b : AV) : Prop := (∃ y y', a = .d y ∧ b = .d y' ∧ DnD y y') ∨ ∃ i o, a = .ptr i o ∧ b = .ptr i o
theorem acalls_newq {P : Program} {f : FuncId} {avs avs0 : List AV} {Lin Lq : List AB} {X : AV → Prop} {post : AV → Prop} (hl : All2 lendQ avs avs0) (hq : All2 (QB QD) Lin Lq)
    (h : ACalls P f avs0 Lq (fun av L => X av ∧ L = Lq)) (hx : ∀ av, X av → ∃ av', Isl3 Lin.length av av' ∧ post av') : ACalls P f avs Lin (fun av L => post av ∧ ∃ lo n, L = Lin ++ [.isle lo n true]) := by
  intro c vs hc hL hs hv
  let N := c.w0.heap.size
  let q : Addr → Value → Prop := fun a u => (∀ (p : Addr) (n cap : Nat), u = .slice (some p) n cap → (rcOf c.M0 c.E0 Lin c.w0).rd ⟨a.block, a.off, some n⟩ (.slice (some p) 0 cap)) ∧ (u = .int .i64 0 → a.block < N)
  let M' : MZ := ⟨c.M0.m, some ⟨N, q⟩⟩
  have hmut : ∀ (E : Nat → Option Nat) b o, Mut M' E Lq b o → Mut c.M0 E Lin b o := by
    rintro E b o (hm | ⟨i, ab, h1, h2, h3⟩ | ⟨i, ab, h1, h2⟩)
    · exact .inl hm
    · obtain ⟨a, k1, k2⟩ := hq.at h1
      exact .inr (.inl ⟨i, a, k1, h2, (k2.mut o).1⟩)
    · obtain ⟨a, k1, k2⟩ := hq.at h1
      exact .inr (.inr ⟨i, a, k1, by rw [← k2.boxes]; exact h2⟩)
  have hmut' : ∀ (E : Nat → Option Nat) b o, Mut c.M0 E Lin b o → Mut M' E Lq b o := by
    rintro E b o (hm | ⟨i, ab, h1, h2, h3⟩ | ⟨i, ab, h1, h2⟩)
    · exact .inl hm
    · obtain ⟨a, k1, k2⟩ := hq.at' h1
      exact .inr (.inl ⟨i, a, k1, h2, (k2.mut o).2⟩)
    · obtain ⟨a, k1, k2⟩ := hq.at' h1
      exact .inr (.inr ⟨i, a, k1, by rw [k2.boxes]; exact h2⟩)
  have hp : ∀ a u, a.spot = none → (rcOf c.M0 c.E0 Lin c.w0).rd a u → (rcOf M' c.E0 Lq c.w0).rd a u ∧ a.block < N := fun a u ha hr =>
    ⟨.inl ⟨(rd_cell hr ha).1, fun hm => (rd_cell hr ha).2 (hmut _ _ _ hm)⟩, cell?_lt (rd_cell hr ha).1⟩
  have hin : ∀ y y' v, QD y y' → VD (rcOf c.M0 c.E0 Lin c.w0).rd y v → VD (rcOf M' c.E0 Lq c.w0).rd y' v := fun y y' v hd hv =>
    hd.into hp (fun p n cap hr => .inr ⟨0, rfl, fun s0 hs0 => by
      cases hs0
      exact ⟨fun _ => ⟨fun p' n' cap' e => (by cases e; exact hr), fun e => (by cases e)⟩, fun h => absurd h (Nat.lt_irrefl 0)⟩⟩)
      (fun b o hb => .inr ⟨0, rfl, fun s0 hs0 => by
      cases hs0
      exact ⟨fun _ => ⟨fun p' n' cap' e => (by cases e), fun _ => hb⟩, fun h => absurd h (Nat.lt_irrefl 0)⟩⟩) hv
  have hptI : ∀ i b, (rcOf c.M0 c.E0 Lin c.w0).pt i b → (rcOf M' c.E0 Lq c.w0).pt i b := by
    rintro i b ⟨ab, h1, h2, h3⟩
    obtain ⟨a, k1, k2⟩ := hq.at' h1
    exact ⟨a, k1, k2.cell.2.1, h3⟩
  have hc' : Ctx.wf ⟨c.w0, c.P0, M', c.E0, Lq, c.n⟩ := ⟨hc.low, hc.sub, fun s hs => by cases hs; exact Nat.le_refl _⟩
  have hnorow : ∀ (i e n : Nat) (xs : List (List DV)) (sh : Bool), Lq[i]? ≠ some (.row e n xs sh) := fun i e n xs sh hi => by
    obtain ⟨a, _, k2⟩ := hq.at hi
    cases k2
  have hs' : SimH ⟨c.w0, c.P0, M', c.E0, Lq, c.n⟩ c.E0 Lq c.w0 := by
    refine ⟨rfl, rfl, rfl, Nat.le_refl _, fun _ _ => rfl, ?_, ?_, ?_, .refl _, ⟨?_, ?_, ?_, ?_⟩, .refl _, fun _ _ i _ _ _ _ _ hi => absurd hi (hnorow _ _ _ _ _)⟩
    · intro i ab hi
      obtain ⟨a, k1, k2⟩ := hq.at hi
      exact k2.br hin hptI (hs.blk i a k1)
    · intro i ab b hi _ he
      obtain ⟨a, k1, k2⟩ := hq.at hi
      exact hs.low i a b k1 k2.cell.2.2.1 he
    · intro i j ab ab' b hi hj _ _ e1 e2
      obtain ⟨a, k1, k2⟩ := hq.at hi
      obtain ⟨a', k1', k2'⟩ := hq.at hj
      exact hs.inj i j a a' b k1 k1' k2.cell.2.2.1 k2'.cell.2.2.1 e1 e2
    · intro i ab b hi hb
      obtain ⟨a, k1, k2⟩ := hq.at hi
      exact hs.bx.low i a b k1 (by rw [← k2.boxes]; exact hb)
    · intro i j ab ab' b hi hb hj _ he
      obtain ⟨a, k1, k2⟩ := hq.at hi
      obtain ⟨a', k1', k2'⟩ := hq.at hj
      exact hs.bx.own i j a a' b k1 (by rw [← k2.boxes]; exact hb) k1' k2'.cell.2.2.1 he
    · intro i ab hi
      obtain ⟨a, k1, k2⟩ := hq.at hi
      rw [k2.boxes]
      exact hs.bx.nd i a k1
    · intro i j ab ab' b hi hj hb hb'
      obtain ⟨a, k1, k2⟩ := hq.at hi
      obtain ⟨a', k1', k2'⟩ := hq.at hj
      exact hs.bx.dj i j a a' b k1 k1' (by rw [← k2.boxes]; exact hb) (by rw [← k2'.boxes]; exact hb')
  have hargs : VRt (rcOf M' c.E0 Lq c.w0) avs0 vs.toList := hl.VRt (fun a b v hab hv => by
    rcases hab with ⟨y, y', rfl, rfl, hd⟩ | ⟨i, o, rfl, rfl⟩
    · simp only [VR] at hv ⊢
      exact hd _ _ _ (fun a u ha hr => (hp a u ha hr).1) hv
    · simp only [VR] at hv ⊢
      obtain ⟨b, h1, h2⟩ := hv
      exact ⟨b, hptI _ _ h1, h2⟩) hv
  refine (h _ vs hc' rfl hs' hargs).mono ?_
  rintro e w' ⟨v, av, L', E', rfl, ⟨hX, hLq⟩, h3, h4⟩
  rw [hLq] at h3 h4
  clear hLq
  obtain ⟨av', hi, hpo⟩ := hx av hX
  have hsize : N ≤ w'.heap.size := h3.size
  have hsz : N + (w'.heap.size - N) = w'.heap.size := by omega
  -- the blocks are where they were
  have hE : ∀ (i : Nat) (a : AB) (b : Nat), Lin[i]? = some a → (E' i = some b ↔ c.E0 i = some b) := by
    intro i a b hi
    obtain ⟨a', k1, k2⟩ := hq.at' hi
    obtain ⟨x, hx⟩ := k2.eb (hs.blk i a hi)
    have h5 : E' i = some x := (h3.old.pt i x ⟨a', k1, k2.cell.2.1, hx⟩).choose_spec.2.2
    rw [hx, h5]
  let is : AB := .isle N (w'.heap.size - N) true
  let E2 := Eupd E' Lin.length none
  have look : ∀ (i : Nat) (ab : AB), (Lin ++ [is])[i]? = some ab → (i = Lin.length ∧ ab = is ∧ E2 i = none) ∨ (∃ a', Lin[i]? = some ab ∧ Lq[i]? = some a' ∧ QB QD ab a' ∧ E2 i = E' i) := by
    intro i ab hi
    by_cases hil : i = Lin.length
    · subst hil
      simp at hi
      exact .inl ⟨rfl, hi.symm, by simp [E2, Eupd]⟩
    · have hi' := getElem?_push_lt hi hil
      obtain ⟨a', k1, k2⟩ := hq.at' hi'
      exact .inr ⟨a', hi', k1, k2, by simp [E2, Eupd, hil]⟩
  have back : ∀ (i : Nat) (ab : AB), Lin[i]? = some ab → (Lin ++ [is])[i]? = some ab ∧ E2 i = E' i := by
    intro i ab hi
    have hlt := (List.getElem?_eq_some_iff.1 hi).1
    exact ⟨by rw [List.getElem?_append_left hlt]; exact hi, by simp [E2, Eupd, Nat.ne_of_lt hlt]⟩
  have hp2 : ∀ a u, a.spot = none → a.block < N → (rcOf M' E' Lq w').rd a u → (rcOf c.M0 E2 (Lin ++ [is]) w').rd a u := by
    intro a u ha hb hr
    refine .inl ⟨(rd_cell hr ha).1, fun hm => (rd_cell hr ha).2 ?_⟩
    rcases hm with hm | ⟨i, ab, h1, h2, h5⟩ | ⟨i, ab, h1, h2⟩
    · exact .inl hm
    · rcases look i ab h1 with ⟨_, _, e⟩ | ⟨a', k1, k2, k3, e⟩
      · rw [e] at h2; cases h2
      · exact .inr (.inl ⟨i, a', k2, by rw [← e]; exact h2, (k3.mut _).2⟩)
    · rcases look i ab h1 with ⟨_, rfl, e⟩ | ⟨a', k1, k2, k3, e⟩
      · simp only [is, AB.boxes, List.mem_range'_1] at h2
        omega
      · exact .inr (.inr ⟨i, a', k2, by rw [k3.boxes]; exact h2⟩)
  have htk : ∀ a u n, a.spot = some n → (rcOf c.M0 c.E0 Lin c.w0).rd a u → (rcOf c.M0 E2 (Lin ++ [is]) w').rd a u := fun a u n ha hr => .inr ((rd_tk hr ha).mono h3.lk)
  have hout : ∀ y y' v, QD y y' → VD (rcOf M' E' Lq w').rd y' v → VD (rcOf c.M0 E2 (Lin ++ [is]) w').rd y v := fun y y' v hd hv =>
    hd.out hp2 (fun p n cap hn hr => by
      obtain ⟨n', e1, e2⟩ := rd_tk hr rfl
      cases e1
      exact htk _ _ _ rfl (((e2 _ rfl).1 rfl).1 p n cap rfl)) (fun b o hr => by
      obtain ⟨n', e1, e2⟩ := rd_tk hr rfl
      cases e1
      exact ((e2 _ rfl).1 rfl).2 rfl) hv
  have hpt2 : ∀ i b, (rcOf M' E' Lq w').pt i b → (rcOf c.M0 E2 (Lin ++ [is]) w').pt i b := by
    rintro i b ⟨ab, h1, h2, h5⟩
    obtain ⟨a, k1, k2⟩ := hq.at h1
    obtain ⟨m1, m2⟩ := back i a k1
    exact ⟨a, m1, k2.cell.1, by rw [m2]; exact h5⟩
  have hblt : ∀ (i : Nat) (ab : AB) (b : Nat), Lin[i]? = some ab → b ∈ ab.boxes → b < N := fun i ab b hi hb => hs.blt hi hb
  have hElt : ∀ (i : Nat) (ab : AB) (b : Nat), Lin[i]? = some ab → E' i = some b → b < N := fun i ab b hi he => by
    obtain ⟨a', k1, k2⟩ := hq.at' hi
    exact hs.lt hi k2.cell.2.2.1 ((hE i ab b hi).1 he)
  have hsim : SimH c E2 (Lin ++ [is]) w' := by
    refine ⟨h3.os, h3.tape, h3.output, h3.size, h3.prot, ?_, ?_, ?_, ?_, ⟨?_, ?_, ?_, ?_⟩, h3.lk, ?_⟩
    · intro i ab hi
      rcases look i ab hi with ⟨_, rfl, e⟩ | ⟨a', k1, k2, k3, e⟩
      · rw [e]
        intro b h1 h2
        rw [hsz] at h2
        exact ⟨_, Array.getElem?_eq_getElem h2⟩
      · rw [e]
        exact k3.flip.br (fun y y' v hd => hout y' y v hd) hpt2 (h3.blk i a' k2)
    · intro i ab b hi hl he
      rcases look i ab hi with ⟨_, rfl, e⟩ | ⟨a', k1, k2, k3, e⟩
      · rw [e] at he; cases he
      · rw [e] at he
        exact h3.low i a' b k2 k3.cell.2.2.2 he
    · intro i j ab ab' b hi hj hl hl' e1 e2
      rcases look i ab hi with ⟨_, rfl, e⟩ | ⟨a1, k1, k2, k3, e⟩
      · rw [e] at e1; cases e1
      rcases look j ab' hj with ⟨_, rfl, e'⟩ | ⟨a2, m1, m2, m3, e'⟩
      · rw [e'] at e2; cases e2
      rw [e] at e1
      rw [e'] at e2
      exact h3.inj i j a1 a2 b k2 m2 k3.cell.2.2.2 m3.cell.2.2.2 e1 e2
    · rw [hL]
      refine ⟨fun a u hr => ?_, ?_, ?_, ?_, ?_⟩
      · cases ha : a.spot with
        | none => exact hp2 a u ha (hp a u ha hr).2 (h3.old.rd a u (hp a u ha hr).1)
        | some n => exact htk a u n ha hr
      · rintro i b ⟨ab, h1, h2, h5⟩
        obtain ⟨m1, m2⟩ := back i ab h1
        exact ⟨ab, m1, h2, by rw [m2]; exact (hE i ab b h1).2 h5⟩
      · rintro i v ⟨ab, h1, h2⟩
        obtain ⟨a', k1, k2⟩ := hq.at' h1
        obtain ⟨m1, m2⟩ := back i ab h1
        refine ⟨ab, m1, ?_⟩
        cases k2 with
        | cells k =>
          obtain ⟨b, g1, g2⟩ := h2
          exact ⟨b, by rw [m2]; exact (hE i _ b h1).2 g1, g2⟩
        | map k => exact h2.elim
      · rintro i j o v ⟨ab, h1, h2⟩
        obtain ⟨a', k1, k2⟩ := hq.at' h1
        cases k2 <;> exact h2.elim
      · rintro i x v ⟨ab, h1, h2⟩
        obtain ⟨a', k1, k2⟩ := hq.at' h1
        cases k2 <;> exact h2.elim
    · intro i ab b hi hb hpb
      rcases look i ab hi with ⟨_, rfl, e⟩ | ⟨a', k1, k2, k3, e⟩
      · simp only [is, AB.boxes, List.mem_range'_1] at hb
        have := hc.low b hpb
        omega
      · exact hs.bx.low i ab b k1 hb hpb
    · intro i j ab ab' b hi hb hj hl he
      rcases look j ab' hj with ⟨_, rfl, e⟩ | ⟨a', k1, k2, k3, e⟩
      · rw [e] at he; cases he
      · rw [e] at he
        rcases look i ab hi with ⟨_, rfl, _⟩ | ⟨a1, m1, m2, m3, _⟩
        · simp only [is, AB.boxes, List.mem_range'_1] at hb
          have := hElt j ab' b k1 he
          omega
        · exact hs.bx.own i j ab ab' b m1 hb k1 k3.cell.2.2.1 ((hE j ab' b k1).1 he)
    · intro i ab hi
      rcases look i ab hi with ⟨_, rfl, e⟩ | ⟨a', k1, k2, k3, e⟩
      · simp only [is, AB.boxes]; exact List.nodup_range'
      · exact hs.bx.nd i ab k1
    · intro i j ab ab' b hi hj hb hb'
      rcases look i ab hi with ⟨e1, rfl, _⟩ | ⟨a1, k1, k2, k3, _⟩ <;> rcases look j ab' hj with ⟨e2, rfl, _⟩ | ⟨a2, m1, m2, m3, _⟩
      · omega
      · simp only [is, AB.boxes, List.mem_range'_1] at hb
        have := hblt j ab' b m1 hb'
        omega
      · simp only [is, AB.boxes, List.mem_range'_1] at hb'
        have := hblt i ab b k1 hb
        omega
      · exact hs.bx.dj i j ab ab' b k1 m1 hb hb'
    · intro s0 hs0 i e n xs sh b hi he
      rcases look i _ hi with ⟨_, e1, _⟩ | ⟨a', k1, k2, k3, _⟩
      · exact absurd e1 (by simp [is])
      · cases k3
  have conv : ∀ a b v, Isl Lin.length a b → VR (rcOf M' E' Lq w') a v → VR (rcOf c.M0 E2 (Lin ++ [is]) w') b v := by
    intro a b v hab hv
    cases hab with
    | flat hf => simp only [VR] at hv ⊢; exact hf _ _ _ hv
    | @sl m xs hno =>
      simp only [VR] at hv ⊢
      have h9 := VD_isle (lo := N) (n := w'.heap.size - N) (rd := (rcOf M' E' Lq w').rd) (fun a u hr => ⟨fun ha => (rd_cell hr ha).1, fun m hm => (rd_tk hr hm).thin⟩) hsz (.sl m xs) v (by simp only [NoO]; exact hno) hv
      refine ⟨⟨is, by simp, h9⟩, ?_⟩
      simp only [VD] at hv
      obtain ⟨_, p, cap, rfl, _⟩ := hv
      rfl
  have conv2 : ∀ a b v, Isl2 Lin.length a b → VR (rcOf M' E' Lq w') a v → VR (rcOf c.M0 E2 (Lin ++ [is]) w') b v := by
    intro a b v hab hv
    rcases hab with h | ⟨az, bs, rfl, rfl, h⟩
    · exact conv _ _ _ h hv
    · simp only [VR] at hv ⊢
      obtain ⟨us, e, h1⟩ := hv
      exact ⟨us, e, h.VRs conv h1⟩
  refine ⟨v, av', _, _, rfl, ⟨hpo, _, _, rfl⟩, hsim, ?_⟩
  rcases hi with h | ⟨az, bs, rfl, rfl, h⟩
  · exact conv2 _ _ _ h h4
  · simp only [VR] at h4 ⊢
    obtain ⟨us, e, h1⟩ := h4
    exact ⟨us, e, h.VRt conv2 h1⟩
theorem acalls_args {P : Program} {f : FuncId} {avs avs' : List AV} {Lin : List AB} {post : AV → List AB → Prop} (h : ∀ (R : RC) (us : List Value), VRt R avs us → VRt R avs' us) (k : ACalls P f avs' Lin post) : ACalls P f avs Lin post :=
  fun c vs hc hL hs hv => k c vs hc hL hs (h _ _ hv)
end Go.Ab
