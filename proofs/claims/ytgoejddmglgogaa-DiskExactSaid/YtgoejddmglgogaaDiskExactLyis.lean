/- DiskExact: abstract runs. -/
import Derived.Test.YtgoejddmglgogaaDiskExactLyk
set_option linter.unusedVariables false
set_option linter.unusedSimpArgs false
namespace Go.Ab
open Go.RowKit
def DnD (y y' : DV) : Prop := ∀ (rd rd' : Addr → Value → Prop) (v : Value), (∀ a u, a.spot = none → rd a u → rd' a u) → VD rd y v → VD rd' y' v
theorem DnD.flat {y : DV} (h : flatD y) : DnD y y := fun _ _ _ _ k => h _ _ _ k
inductive Dns : List DV → List DV → Prop
  | nil : Dns [] []
  | cons {y y' : DV} {r r' : List DV} (h : DnD y y') (k : Dns r r') : Dns (y :: r) (y' :: r')
inductive DnE : List (List DV) → List (List DV) → Prop
  | nil : DnE [] []
  | cons {y y' : List DV} {r r' : List (List DV)} (h : Dns y y') (k : DnE r r') : DnE (y :: r) (y' :: r')
theorem Dns.length {xs ys : List DV} (h : Dns xs ys) : ys.length = xs.length := by induction h <;> simp_all
theorem DnE.length {xs ys : List (List DV)} (h : DnE xs ys) : ys.length = xs.length := by induction h <;> simp_all
theorem Dns.ok {rd rd' : Addr → Value → Prop} (h1 : ∀ a u, a.spot = none → rd a u → rd' a u) {xs ys : List DV} (h : Dns xs ys) : ∀ {a : Addr}, a.spot = none → VDC rd xs a → VDC rd' ys a := by
  induction h with
  | nil => intro a _ _; simp [VDC]
  | cons h k ih =>
    intro a ha x
    simp only [VDC] at x ⊢
    obtain ⟨⟨u, e1, e2, e3⟩, e4⟩ := x
    exact ⟨⟨u, h1 _ _ ha e1, e2, h rd rd' u h1 e3⟩, ih rfl e4⟩
theorem DnE.ok {rd rd' : Addr → Value → Prop} (h1 : ∀ a u, a.spot = none → rd a u → rd' a u) {n : Nat} {xs ys : List (List DV)} (h : DnE xs ys) : ∀ {a : Addr}, a.spot = none → VDE rd n xs a → VDE rd' n ys a := by
  induction h with
  | nil => intro a _ _; simp [VDE]
  | cons h k ih =>
    intro a ha x
    simp only [VDE] at x ⊢
    exact ⟨by rw [h.length]; exact x.1, h.ok h1 ha x.2.1, ih rfl x.2.2⟩
theorem DnE.nil_iff {xs ys : List (List DV)} (h : DnE xs ys) : xs = [] → ys = [] := by cases h <;> simp
theorem DnD.slo {n : Nat} {xs ys : List (List DV)} (h : DnE xs ys) : DnD (.slo n xs) (.slo n ys) := by
  intro rd rd' v h1 x
  simp only [VD] at x ⊢
  obtain ⟨hn, a, cap, e1, e2, e3, e4, e5⟩ := x
  refine ⟨hn, a, cap, by rw [h.length]; exact e1, by rw [h.length]; exact e2, e3, e4, fun a' ha => ⟨(e5 a' ha).1.imp h.nil_iff id, ?_⟩⟩
  rcases (e5 a' ha).1 with e | hs
  · rw [h.nil_iff e]; simp [VDE]
  · exact h.ok h1 hs (e5 a' ha).2
theorem DnD.sl {n : Nat} {xs ys : List (List DV)} (h : DnE xs ys) : DnD (.sl n xs) (.slo n ys) := by
  intro rd rd' v h1 x
  have x2 : VD rd (.slo n xs) v := by
    simp only [VD] at x ⊢
    obtain ⟨hn, a, cap, e1, e2, e3, e4, e5⟩ := x
    exact ⟨hn, a, cap, e1, e2, e3, e4, fun a' ha => ⟨(e5 a' ha).1, (e5 a' ha).2.2⟩⟩
  exact DnD.slo h rd rd' v h1 x2
theorem DnE.map {α : Type} {f g : α → List DV} (h : ∀ x, Dns (f x) (g x)) : ∀ (l : List α), DnE (l.map f) (l.map g)
  | [] => .nil
  | x :: r => .cons (h x) (DnE.map h r)
theorem flat_str (s : ByteArray) : flatD (.str s) := fun _ _ _ h => by simpa [VD] using h
mutual
def NoO : DV → Prop
  | .slo _ _ => False
  | .slq _ _ => False
  | .sl _ xs => NoE xs
  | _ => True
def NoE : List (List DV) → Prop
  | [] => True
  | x :: r => NoC x ∧ NoE r
def NoC : List DV → Prop
  | [] => True
  | x :: r => NoO x ∧ NoC r
end
theorem NoE_map {α : Type} {f : α → List DV} (h : ∀ x, NoC (f x)) : ∀ (l : List α), NoE (l.map f)
  | [] => trivial
  | x :: r => ⟨h x, NoE_map h r⟩
mutual
theorem VD_isle {lo n : Nat} {w : World} {rd : Addr → Value → Prop} (hrd : ∀ a u, rd a u → (a.spot = none → w.cell? a = some u) ∧ ∀ m, a.spot = some m → Tk (some lo) w a u) (hsz : lo + n = w.heap.size) : ∀ (x : DV) (v : Value), NoO x → VD rd x v → VD (rdI lo n w) x v
  | .int k n, v, _, x => by simpa [VD] using x
  | .bool b, v, _, x => by simpa [VD] using x
  | .str b, v, _, x => by simpa [VD] using x
  | .flt k b, v, _, x => by simpa [VD] using x
  | .cplx _ _ _, v, _, x => by simpa [VD] using x
  | .nils, v, _, x => by simpa [VD] using x
  | .slo _ _, v, h, x => by simp [NoO] at h
  | .slq _ _, v, h, x => by simp [NoO] at h
  | .sl m xs, v, h, x => by
    simp only [NoO] at h
    simp only [VD] at x ⊢
    obtain ⟨hn, a, cap, h1, h2, h3, h4, h5⟩ := x
    refine ⟨hn, a, cap, h1, h2, h3, h4, fun a' ha => ?_⟩
    obtain ⟨k1, k2, k3⟩ := h5 a' ha
    have hb : 0 < cap → lo ≤ a'.block ∧ a'.block < lo + n := fun hc => by
      obtain ⟨m', e1, e2⟩ := (hrd _ _ (k2 hc)).2 m rfl
      cases e1
      obtain ⟨e3, cur, e, mk, cap', e4, e5, _⟩ := (e2 lo rfl).2 hn
      exact ⟨e3, by rw [hsz]; exact (Array.getElem?_eq_some_iff.1 e5).1⟩
    refine ⟨k1, fun hc => ⟨(hb hc).1, (hb hc).2, .inr ((hrd _ _ (k2 hc)).2 m rfl)⟩, ?_⟩
    rcases k1 with e | hs
    · subst e; simp [VDE]
    · by_cases hx : xs = []
      · subst hx; simp [VDE]
      · have hc : 0 < cap := by
          have : xs.length ≠ 0 := fun e => hx (List.eq_nil_of_length_eq_zero e)
          omega
        exact VDE_isle hrd hsz m xs a' hs (hb hc) h k3
  | .nilp, v, _, x => by simpa [VD] using x
  | .nilm, v, _, x => by simpa [VD] using x
  | .nilf, v, _, x => by simpa [VD] using x
  | .any, v, _, x => by simp [VD]
theorem VDE_isle {lo n : Nat} {w : World} {rd : Addr → Value → Prop} (hrd : ∀ a u, rd a u → (a.spot = none → w.cell? a = some u) ∧ ∀ m, a.spot = some m → Tk (some lo) w a u) (hsz : lo + n = w.heap.size) (m : Nat) : ∀ (xs : List (List DV)) (a : Addr), a.spot = none → (lo ≤ a.block ∧ a.block < lo + n) → NoE xs → VDE rd m xs a → VDE (rdI lo n w) m xs a
  | [], a, _, _, _, _ => by simp [VDE]
  | cs :: r, a, ha, hb, h, x => by
    simp only [NoE] at h
    simp only [VDE] at x ⊢
    exact ⟨x.1, VDC_isle hrd hsz cs a ha hb h.1 x.2.1, VDE_isle hrd hsz m r _ rfl hb h.2 x.2.2⟩
theorem VDC_isle {lo n : Nat} {w : World} {rd : Addr → Value → Prop} (hrd : ∀ a u, rd a u → (a.spot = none → w.cell? a = some u) ∧ ∀ m, a.spot = some m → Tk (some lo) w a u) (hsz : lo + n = w.heap.size) : ∀ (xs : List DV) (a : Addr), a.spot = none → (lo ≤ a.block ∧ a.block < lo + n) → NoC xs → VDC rd xs a → VDC (rdI lo n w) xs a
  | [], a, _, _, _, _ => by simp [VDC]
  | c :: r, a, ha, hb, h, x => by
    simp only [NoC] at h
    simp only [VDC] at x ⊢
    obtain ⟨⟨u, h1, h0, h2⟩, h3⟩ := x
    exact ⟨⟨u, ⟨hb.1, hb.2, .inl ((hrd _ _ h1).1 ha)⟩, h0, VD_isle hrd hsz c u h.1 h2⟩, VDC_isle hrd hsz r _ rfl hb h.2 h3⟩
end
inductive Isl (i : Nat) : AV → AV → Prop
  | flat {x : DV} (h : flatD x) : Isl i (.d x) (.d x)
  | sl {n : Nat} {xs : List (List DV)} (h : NoE xs) : Isl i (.d (.sl n xs)) (.isl i (.sl n xs))
def lendO1 (Lin : List AB) (a b : AV) : Prop := (∃ y y', a = .d y ∧ b = .d y' ∧ DnD y y') ∨ ∃ i x x' lo n, a = .isl i x ∧ Lin[i]? = some (.isle lo n true) ∧ b = .d x' ∧ DnD x x'
inductive All2 {α β : Type} (r : α → β → Prop) : List α → List β → Prop
  | nil : All2 r [] []
  | cons {x : α} {y : β} {xs : List α} {ys : List β} (h : r x y) (k : All2 r xs ys) : All2 r (x :: xs) (y :: ys)
def lendO2 (Lin : List AB) (a b : AV) : Prop := lendO1 Lin a b ∨ ∃ az bs, a = .agg az ∧ b = .agg bs ∧ All2 (lendO1 Lin) az bs
def Isl2 (i : Nat) (a b : AV) : Prop := Isl i a b ∨ ∃ az bs, a = .agg az ∧ b = .agg bs ∧ All2 (Isl i) az bs
def Isl3 (i : Nat) (a b : AV) : Prop := Isl2 i a b ∨ ∃ az bs, a = .tup az ∧ b = .tup bs ∧ All2 (Isl2 i) az bs
theorem All2.VRs {R R' : RC} {r : AV → AV → Prop} (h : ∀ a b v, r a b → VR R a v → VR R' b v) {xs ys : List AV} (k : All2 r xs ys) : ∀ {us : List Value}, VRs R xs us → VRs R' ys us := by
  induction k with
  | nil => intro us x; simpa [Go.Ab.VRs] using x
  | cons hxy _ ih =>
    intro us x
    simp only [Go.Ab.VRs] at x ⊢
    obtain ⟨u, us', e, e0, e1, e2⟩ := x
    exact ⟨u, us', e, e0, h _ _ _ hxy e1, ih e2⟩
theorem All2.VRt {R R' : RC} {r : AV → AV → Prop} (h : ∀ a b v, r a b → VR R a v → VR R' b v) {xs ys : List AV} (k : All2 r xs ys) : ∀ {us : List Value}, VRt R xs us → VRt R' ys us := by
  induction k with
  | nil => intro us x; simpa [Go.Ab.VRt] using x
  | cons hxy _ ih =>
    intro us x
    simp only [Go.Ab.VRt] at x ⊢
    obtain ⟨u, us', e, e1, e2⟩ := x
    exact ⟨u, us', e, h _ _ _ hxy e1, ih e2⟩
theorem lendO1_ok {c : Ctx} {E : Nat → Option Nat} {L : List AB} {w : World} (hs : SimH c E L w) (hc : c.wf) {R' : RC} (hrd : ∀ a u, w.cell? a = some u → ¬ c.M0 a.block a.off → R'.rd a u) {a b : AV} {v : Value} (h : lendO1 L a b) (hv : VR (rcOf c.M0 E L w) a v) : VR R' b v := by
  rcases h with ⟨y, y', rfl, rfl, hd⟩ | ⟨i, x, x', lo, n, rfl, hi, rfl, hd⟩
  · simp only [VR] at hv ⊢
    exact hd _ _ _ (fun a u ha hr => hrd a u (rd_cell hr ha).1 fun hm => (rd_cell hr ha).2 (.inl hm)) hv
  · simp only [VR] at hv ⊢
    obtain ⟨⟨ab, hab, har⟩, _⟩ := hv
    rw [hi] at hab
    cases hab
    refine hd _ _ _ (fun a u ha hr => ?_) har
    obtain ⟨r1, r2, r3⟩ := hr
    rcases r3 with r3 | ⟨m, hm, _⟩
    · refine hrd a u r3 fun hm => hs.bx.low i _ a.block hi ?_ (hc.sub _ _ hm)
      simp only [AB.boxes, List.mem_range'_1]
      exact ⟨r1, r2⟩
    · rw [ha] at hm; cases hm
theorem lendO2_ok {c : Ctx} {E : Nat → Option Nat} {L : List AB} {w : World} (hs : SimH c E L w) (hc : c.wf) {R' : RC} (hrd : ∀ a u, w.cell? a = some u → ¬ c.M0 a.block a.off → R'.rd a u) {a b : AV} {v : Value} (h : lendO2 L a b) (hv : VR (rcOf c.M0 E L w) a v) : VR R' b v := by
  rcases h with h | ⟨az, bs, rfl, rfl, h⟩
  · exact lendO1_ok hs hc hrd h hv
  · simp only [VR] at hv ⊢
    obtain ⟨us, e, h1⟩ := hv
    exact ⟨us, e, h.VRs (fun a b v h k => lendO1_ok hs hc hrd h k) h1⟩
theorem acalls_isle {P : Program} {f : FuncId} {avs avs0 : List AV} {Lin : List AB} {X : AV → Prop} {post : AV → Prop} (hl : All2 (lendO2 Lin) avs avs0) (h : ACalls P f avs0 [] (fun av L => X av ∧ L = []))
    (hx : ∀ av, X av → ∃ av', Isl3 Lin.length av av' ∧ post av') : ACalls P f avs Lin (fun av L => post av ∧ ∃ lo n, L = Lin ++ [.isle lo n true]) := by
  intro c vs hc hL hs hv
  have hrd : ∀ a u, c.w0.cell? a = some u → ¬ c.M0 a.block a.off → (rcOf ⟨c.M0.m, some c.w0.heap.size⟩ (fun _ => none) [] c.w0).rd a u := fun a u h1 h2 =>
    .inl ⟨h1, fun hm => hm.elim h2 fun hm => hm.elim (fun ⟨i, ab, h, _⟩ => by simp at h) fun ⟨i, ab, h, _⟩ => by simp at h⟩
  have hc' : Ctx.wf ⟨c.w0, fun b => b < c.w0.heap.size, ⟨c.M0.m, some c.w0.heap.size⟩, fun _ => none, [], c.n⟩ :=
    ⟨fun b hb => hb, fun b o hm => hc.low b (hc.sub b o hm), fun s hs => by cases hs; exact Nat.le_refl _⟩
  have hs' : SimH ⟨c.w0, fun b => b < c.w0.heap.size, ⟨c.M0.m, some c.w0.heap.size⟩, fun _ => none, [], c.n⟩ (fun _ => none) [] c.w0 :=
    ⟨rfl, rfl, rfl, Nat.le_refl _, fun _ _ => rfl, fun i ab h => by simp at h, fun i ab b h => by simp at h, fun i j ab ab' b h => by simp at h, RC.le.refl _, ⟨fun i ab b h => by simp at h, fun i j ab ab' b h => by simp at h, fun i ab h => by simp at h, fun i j ab ab' b h => by simp at h⟩, .refl _, fun _ _ i _ _ _ _ _ h => by simp at h⟩
  refine (h _ vs hc' rfl hs' (hl.VRt (fun a b v h k => lendO2_ok hs hc hrd h k) hv)).mono ?_
  rintro e w' ⟨v, av, L', E', rfl, ⟨hX, rfl⟩, h3, h4⟩
  have hk : Keeps c.w0 w' := ⟨h3.os, h3.tape, h3.output, h3.size, h3.prot⟩
  obtain ⟨av', hi, hp⟩ := hx av hX
  have hsz : c.w0.heap.size + (w'.heap.size - c.w0.heap.size) = w'.heap.size := by have := h3.size; have h5 : c.w0.heap.size ≤ w'.heap.size := this; omega
  have hbx : ∀ b ∈ (AB.isle c.w0.heap.size (w'.heap.size - c.w0.heap.size) true).boxes, c.w0.heap.size ≤ b := fun b hb => by
    simp only [AB.boxes, List.mem_range'_1] at hb
    exact hb.1
  have hext := hs.extend hc hk (.isle c.w0.heap.size (w'.heap.size - c.w0.heap.size) true) none (fun b hb => by cases hb) hbx (by simp only [AB.boxes]; exact List.nodup_range') (fun b _ => by simp) (fun b h1 h2 => by
    rw [hsz] at h2
    exact ⟨_, Array.getElem?_eq_getElem h2⟩)
  have conv : ∀ a b v, Isl Lin.length a b → VR (rcOf ⟨c.M0.m, some c.w0.heap.size⟩ E' [] w') a v → VR (rcOf c.M0 (Eupd c.E0 Lin.length none) (Lin ++ [.isle c.w0.heap.size (w'.heap.size - c.w0.heap.size) true]) w') b v := by
    intro a b v hab hv
    cases hab with
    | flat hf => simp only [VR] at hv ⊢; exact hf _ _ _ hv
    | @sl m xs hno =>
      simp only [VR] at hv ⊢
      have h9 := VD_isle (rd := (rcOf ⟨c.M0.m, some c.w0.heap.size⟩ E' [] w').rd) (fun a u hr => ⟨fun ha => (rd_cell hr ha).1, fun m hm => rd_tk hr hm⟩) hsz (.sl m xs) v (by simp only [NoO]; exact hno) hv
      refine ⟨⟨.isle c.w0.heap.size (w'.heap.size - c.w0.heap.size) true, by simp, h9⟩, ?_⟩
      simp only [VD] at hv
      obtain ⟨_, p, cap, rfl, _⟩ := hv
      rfl
  have conv2 : ∀ a b v, Isl2 Lin.length a b → VR (rcOf ⟨c.M0.m, some c.w0.heap.size⟩ E' [] w') a v → VR (rcOf c.M0 (Eupd c.E0 Lin.length none) (Lin ++ [.isle c.w0.heap.size (w'.heap.size - c.w0.heap.size) true]) w') b v := by
    intro a b v hab hv
    rcases hab with h | ⟨az, bs, rfl, rfl, h⟩
    · exact conv _ _ _ h hv
    · simp only [VR] at hv ⊢
      obtain ⟨us, e, h1⟩ := hv
      exact ⟨us, e, h.VRs conv h1⟩
  refine ⟨v, av', _, _, rfl, ⟨hp, _, _, rfl⟩, hext, ?_⟩
  rcases hi with h | ⟨az, bs, rfl, rfl, h⟩
  · exact conv2 _ _ _ h h4
  · simp only [VR] at h4 ⊢
    obtain ⟨us, e, h1⟩ := h4
    exact ⟨us, e, h.VRt conv2 h1⟩
end Go.Ab
