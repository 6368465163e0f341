/- ImageGoes: abstract runs. -/
import Derived.Test.YtmmngmnmghpfaaaGreatImageGoesLyj
set_option linter.unusedVariables false
set_option linter.unusedSimpArgs false
namespace Go.Ab
open Go.RowKit
def UpD (y y' : DV) : Prop := ∀ (rd rd' : Addr → Value → Prop) (v : Value), (∀ a u, rd a u → rd' a u) → (∀ a u n, a.spot = some n → rd' a u) → VD rd y v → VD rd' y' v
def IsK.reads : IsK → DV → Bool
  | .bool b, _ => b
  | .hole _ _ ok, x => !x.isSlo || ok
theorem islRel_rd {lo n : Nat} {ok : IsK} {w : World} {x : DV} {v : Value} (hr : ok.reads x = true) (h : islRel w x v (.isle lo n ok)) :
    VD (fun a u => lo ≤ a.block ∧ a.block < lo + n ∧ (w.cell? a = some u ∨ ∃ m, a.spot = some m)) x v := by
  cases ok with
  | bool ok =>
    cases ok with
    | true => exact VD.mono (fun a u hr => ⟨hr.1, hr.2.1, hr.2.2.imp id fun ⟨m, hm, _⟩ => ⟨m, hm⟩⟩) _ _ h
    | false => cases hr
  | hole b k ok =>
    cases x with
    | slo m xs =>
      obtain ⟨k1, k2, k3, _⟩ := h.2 m xs rfl
      exact VD.mono (fun a u hr => ⟨by have := hr.1; omega, by have := hr.2.1; omega, .inl hr.2.2⟩) _ _ (k1 (by simpa [IsK.reads, DV.isSlo] using hr))
    | _ => exact VD.mono (fun a u hr => ⟨hr.1, hr.2.1, hr.2.2.imp (fun h => h.1) fun ⟨m, hm, _⟩ => ⟨m, hm⟩⟩) _ _ (h.1 rfl)
def lend1 (Lin : List AB) (a b : AV) : Prop := (∃ y, a = .d y ∧ b = .d y) ∨ (∃ i e n xs sh, a = .arr i ∧ Lin[i]? = some (.row e n xs sh) ∧ b = .d (.sl n xs)) ∨ (∃ i h e n xs sh, a = .sub i h ∧ Lin[i]? = some (.row e n xs sh) ∧ h ≤ xs.length ∧ b = .d (.sl n (xs.take h))) ∨ (∃ i e s cap, a = .arr i ∧ Lin[i]? = some (.obs (bytesObj e s cap) s.size cap) ∧ s.size ≤ cap ∧ cap ≤ maxLen ∧ b = .d (.sl 1 (u8s s.data.toList))) ∨ (∃ y y', a = .d y ∧ b = .d y' ∧ UpD y y') ∨ ∃ i x x' lo n ok, a = .isl i x ∧ Lin[i]? = some (.isle lo n ok) ∧ ok.reads x = true ∧ b = .d x' ∧ UpD x x'
def lendS (Lin : List AB) : List AV → List AV → Prop
  | [], bs => bs = []
  | a :: as, bs => ∃ b r, bs = b :: r ∧ lend1 Lin a b ∧ lendS Lin as r
def lend2 (Lin : List AB) (a b : AV) : Prop := lend1 Lin a b ∨ ∃ as bs, a = .agg as ∧ b = .agg bs ∧ lendS Lin as bs
def lendT (Lin : List AB) : List AV → List AV → Prop
  | [], bs => bs = []
  | a :: as, bs => ∃ b r, bs = b :: r ∧ lend2 Lin a b ∧ lendT Lin as r
theorem lend1_ok {c : Ctx} {E : Nat → Option Nat} {L : List AB} {w : World} (hs : SimH c E L w) (hc : c.wf) {R' : RC} (hrd : ∀ a u, w.cell? a = some u → ¬ c.M0 a.block a.off → R'.rd a u) (hT : ∀ a u n, a.spot = some n → R'.rd a u) {a b : AV} (h : lend1 L a b) {v : Value} (hv : VR (rcOf c.M0 E L w) a v) : VR R' b v := by
  have hup : ∀ a u, (rcOf c.M0 E L w).rd a u → R'.rd a u := fun a u h => h.elim (fun h => hrd a u h.1 fun hm => h.2 (.inl hm)) fun h => h.elim fun n hn => hT a u n hn.1
  rcases h with ⟨y, rfl, rfl⟩ | ⟨i, e, n, xs, sh, rfl, hi, rfl⟩ | ⟨i, h, e, n, xs, sh, rfl, hi, hh, rfl⟩ | ⟨i, e, s, cap, rfl, hi, hsc, hcm, rfl⟩ | ⟨y, y', rfl, rfl, hu⟩ | ⟨i, x, x', lo, n, ok, rfl, hi, hrr, rfl, hu⟩
  rotate_right
  · simp only [VR] at hv ⊢
    obtain ⟨⟨ab, hab, har⟩, _⟩ := hv
    rw [hi] at hab
    cases hab
    refine hu _ _ _ (fun a u hr => ?_) hT (islRel_rd hrr har)
    obtain ⟨r1, r2, r3⟩ := hr
    rcases r3 with r3 | ⟨m, hm⟩
    · refine hrd a u r3 fun hm => hs.bx.low i _ a.block hi ?_ (hc.sub _ _ hm)
      simp only [AB.boxes, List.mem_range'_1]
      exact ⟨r1, r2⟩
    · exact hT a u m hm
  rotate_right
  · simp only [VR] at hv ⊢
    exact hu _ _ _ hup hT hv
  · simp only [VR] at hv ⊢
    exact VD.mono hup _ _ hv
  · simp only [VR] at hv ⊢
    obtain ⟨ab, hab, har⟩ := hv
    rw [hi] at hab
    cases hab
    obtain ⟨hn, hl, hbr⟩ := hs.blk i _ hi
    simp only [arRel] at har
    cases hE : E i with
    | none =>
      rw [hE] at hbr har
      simp only at hbr har
      subst hbr; subst har
      simp only [VD]
      exact ⟨hn.1, none, 0, rfl, by simp, by simp [maxLen], fun _ => rfl, fun _ h => by cases h⟩
    | some b =>
      rw [hE] at hbr har
      obtain ⟨cap, cur, rfl, hh, hsz⟩ := har
      obtain ⟨cap', cur', hh', hsz', hxc, hxm, hvx⟩ := hbr
      rw [hh] at hh'; cases hh'
      have ecap : cap = cap' := Nat.eq_of_mul_eq_mul_right hn.1 (hsz.symm.trans hsz')
      subst ecap
      have hlow := hs.low i _ b hi rfl hE
      simp only [VD]
      refine ⟨hn.1, some ⟨b, 0, none⟩, cap, rfl, hxc, hxm, (fun h => by cases h), fun a' ha => ?_⟩
      cases ha
      refine ⟨.inr rfl, fun _ => hT _ _ _ rfl, VDE_of hup n hvx hl rfl fun j u hj => ?_⟩
      refine hrd _ _ ?_ fun hm => hlow (hc.sub b _ hm)
      rw [Nat.zero_add, cell_of_row w b j cur e (0, 0) hh]
      rw [List.getElem?_take] at hj
      split at hj
      · simpa using hj
      · cases hj
  · simp only [VR] at hv ⊢
    obtain ⟨p, cap, rfl, hcap, hmax, ab, hab, hap⟩ := hv
    rw [hi] at hab
    cases hab
    simp only [apRel] at hap
    obtain ⟨b, hE, hp⟩ := hap
    cases hp
    obtain ⟨hn, hl, hbr⟩ := hs.blk i _ hi
    rw [hE] at hbr
    obtain ⟨cap', cur', hh', hsz', hxc, hxm, hvx⟩ := hbr
    have hlow := hs.low i _ b hi rfl hE
    have hlt : (xs.take h).length = h := by rw [List.length_take]; omega
    simp only [VD]
    refine ⟨hn.1, some ⟨b, 0 * n + 0, none⟩, cap, by rw [hlt], by rw [hlt]; exact hcap, hmax, (fun h => by cases h), fun a' ha => ?_⟩
    cases ha
    have hvt : VDs (rcOf c.M0 E L w).rd (xs.take h).flatten ((cur'.toList.take (xs.length * n)).take (h * n)) := by
      rw [flatten_takeN xs hl]
      exact Cs_take _ hvx
    refine ⟨.inr rfl, fun _ => hT _ _ _ rfl, VDE_of hup n hvt (fun cs hcs => hl cs (List.mem_of_mem_take hcs)) rfl fun j u hj => ?_⟩
    refine hrd _ _ ?_ fun hm => hlow (hc.sub b _ hm)
    rw [Nat.zero_mul, Nat.zero_add, Nat.zero_add, cell_of_row w b j cur' e (0, 0) hh']
    rw [List.getElem?_take] at hj
    split at hj
    · rw [List.getElem?_take] at hj
      split at hj
      · simpa using hj
      · cases hj
    · cases hj
  · simp only [VR] at hv ⊢
    obtain ⟨ab, hab, har⟩ := hv
    rw [hi] at hab
    cases hab
    obtain ⟨b, hE, hbr⟩ := hs.blk i _ hi
    simp only [arRel] at har
    obtain ⟨b', hE', rfl⟩ := har
    rw [hE] at hE'
    cases hE'
    have hlow := hs.low i _ b hi rfl hE
    have hsl : s.data.toList.length = s.size := by rw [Array.length_toList]; rfl
    simp only [VD]
    refine ⟨by omega, some ⟨b, 0, none⟩, cap, by rw [u8s_length, hsl], by rw [u8s_length, hsl]; exact hsc, hcm, (fun h => by cases h), fun a' ha => ?_⟩
    cases ha
    refine ⟨.inr rfl, fun _ => hT _ _ _ rfl, VDE_of (rd := (rcOf c.M0 E L w).rd) hup 1 (u8s_VDs s.data.toList) (u8s_one _) rfl fun j u hj => ?_⟩
    refine hrd _ _ ?_ fun hm => hlow (hc.sub b _ hm)
    rw [Nat.zero_add, cell_of_row w b j (bytesRow s cap) e ((bytesRow s cap).size, (bytesRow s cap).size + 1) hbr]
    unfold bytesRow
    have hjl : j < s.data.size := by
      have := (List.getElem?_eq_some_iff.1 hj).1
      simpa using this
    rw [Array.getElem?_append_left (by simpa using hjl)]
    simpa using hj
theorem lendS_ok {c : Ctx} {E : Nat → Option Nat} {L : List AB} {w : World} (hs : SimH c E L w) (hc : c.wf) {R' : RC} (hrd : ∀ a u, w.cell? a = some u → ¬ c.M0 a.block a.off → R'.rd a u) (hT : ∀ a u n, a.spot = some n → R'.rd a u) : ∀ {as bs : List AV}, lendS L as bs → ∀ {us : List Value}, VRs (rcOf c.M0 E L w) as us → VRs R' bs us
  | [], bs, h, us, hv => by
    simp only [lendS] at h
    subst h
    simpa [VRs] using hv
  | a :: as, bs, h, us, hv => by
    simp only [lendS] at h
    obtain ⟨b, r, rfl, h1, h2⟩ := h
    simp only [VRs] at hv ⊢
    obtain ⟨u, us', rfl, o, h3, h4⟩ := hv
    exact ⟨u, us', rfl, o, lend1_ok hs hc hrd hT h1 h3, lendS_ok hs hc hrd hT h2 h4⟩
theorem lendT_ok {c : Ctx} {E : Nat → Option Nat} {L : List AB} {w : World} (hs : SimH c E L w) (hc : c.wf) {R' : RC} (hrd : ∀ a u, w.cell? a = some u → ¬ c.M0 a.block a.off → R'.rd a u) (hT : ∀ a u n, a.spot = some n → R'.rd a u) : ∀ {as bs : List AV}, lendT L as bs → ∀ {us : List Value}, VRt (rcOf c.M0 E L w) as us → VRt R' bs us
  | [], bs, h, us, hv => by
    simp only [lendT] at h
    subst h
    simpa [VRt] using hv
  | a :: as, bs, h, us, hv => by
    simp only [lendT] at h
    obtain ⟨b, r, rfl, h1, h2⟩ := h
    simp only [VRt] at hv ⊢
    obtain ⟨u, us', rfl, h3, h4⟩ := hv
    refine ⟨u, us', rfl, ?_, lendT_ok hs hc hrd hT h2 h4⟩
    rcases h1 with h1 | ⟨xs, ys, rfl, rfl, h1⟩
    · exact lend1_ok hs hc hrd hT h1 h3
    · simp only [VR] at h3 ⊢
      obtain ⟨us, rfl, h5⟩ := h3
      exact ⟨us, rfl, lendS_ok hs hc hrd hT h1 h5⟩
def flatA (av : AV) : Prop := ∀ (R R' : RC) (v : Value), VR R av v → VR R' av v
theorem acalls_lendG {P : Program} {f : FuncId} {avs avs' : List AV} {Lin : List AB} {X : AV → Prop} (hx : ∀ av, X av → flatA av) (hl : ∀ {c : Ctx} {E : Nat → Option Nat} {w : World} {R' : RC}, SimH c E Lin w → c.wf → (∀ a u, w.cell? a = some u → ¬ c.M0 a.block a.off → R'.rd a u) → (∀ a u n, a.spot = some n → R'.rd a u) → ∀ {us : List Value}, VRt (rcOf c.M0 E Lin w) avs us → VRt R' avs' us) (h : ACalls P f avs' [] (fun av L => X av ∧ L = [])) : ACalls P f avs Lin (fun av L => X av ∧ L = Lin) := by
  intro c vs hc hL hs hv
  let own : Nat → Prop := fun b => (∃ i ab, Lin[i]? = some ab ∧ ab.live = true ∧ c.E0 i = some b) ∨ ∃ (i : Nat) (ab : AB), Lin[i]? = some ab ∧ b ∈ ab.boxes
  have hown : ∀ b, own b → b < c.w0.heap.size := by
    rintro b (⟨i, ab, h1, h2, h3⟩ | ⟨i, ab, h1, h2⟩)
    · exact hs.lt h1 h2 h3
    · exact hs.blt h1 h2
  have hc' : Ctx.wf ⟨c.w0, fun b => b < c.w0.heap.size, ⟨c.M0.m, none⟩, fun _ => none, [], c.n⟩ :=
    ⟨fun b hb => hb, fun b o hm => hc.low b (hc.sub b o hm), fun s hs => by cases hs⟩
  have hs' : SimH ⟨c.w0, fun b => b < c.w0.heap.size, ⟨c.M0.m, none⟩, fun _ => none, [], c.n⟩ (fun _ => none) [] c.w0 :=
    ⟨rfl, rfl, rfl, Nat.le_refl _, fun _ _ => rfl, fun i ab h => by simp at h, fun i ab b h => by simp at h, fun i j ab ab' b h => by simp at h, RC.le.refl _, ⟨fun i ab b h => by simp at h, fun i j ab ab' b h => by simp at h, fun i ab h => by simp at h, fun i j ab ab' b h => by simp at h⟩, .refl _, fun _ _ i _ _ _ _ _ h => by simp at h⟩
  have hrd : ∀ a u, c.w0.cell? a = some u → ¬ c.M0 a.block a.off → (rcOf ⟨c.M0.m, none⟩ (fun _ => none) [] c.w0).rd a u := fun a u h1 h2 =>
    .inl ⟨h1, fun hm => hm.elim h2 fun hm => hm.elim (fun ⟨i, ab, h, _⟩ => by simp at h) fun ⟨i, ab, h, _⟩ => by simp at h⟩
  refine (h _ vs hc' rfl hs' (hl hs hc hrd (fun a u n hn => .inr (Tk.any hn)) hv)).mono ?_
  rintro e w' ⟨v, av, L', E', rfl, ⟨hX, rfl⟩, h3, h4⟩
  have hblk : ∀ b, own b → w'.heap[b]? = c.w0.heap[b]? := fun b hb => h3.prot b (hown b hb)
  have hle : (rcOf c.M0 c.E0 Lin c.w0).le (rcOf c.M0 c.E0 Lin w') := by
    refine ⟨?_, fun _ _ h => h, ?_, fun _ _ _ _ h => h, fun i x v ⟨ab, h1, h2⟩ => ⟨ab, h1, islRel_mono (fun b hb => hblk b (.inr ⟨i, ab, h1, hb⟩)) h2⟩⟩
    · exact rdle rfl (Likes.of_blocks h3.prot) fun a u h1 h2 => ⟨(rd_cell (h3.old.rd a u (hrd a u h1 fun hm => h2 (.inl hm))) (spot_none h1)).1, h2⟩
    · rintro i v ⟨ab, h1, h2⟩
      refine ⟨ab, h1, ?_⟩
      cases ab with
      | row e n xs sh =>
        simp only [arRel] at h2 ⊢
        cases hE : c.E0 i with
        | none => rw [hE] at h2; exact h2
        | some b =>
          rw [hE] at h2
          obtain ⟨cap, cur, k1, k2, k3⟩ := h2
          exact ⟨cap, cur, k1, by rw [hblk b (.inl ⟨i, _, h1, rfl, hE⟩)]; exact k2, k3⟩
      | cells cs => exact h2
      | map es => exact h2
      | pool b cs => exact h2
      | obj o => exact h2
      | obs o n cap => exact h2
      | isle lo n ok => exact h2.elim
      | dead => exact h2
  refine ⟨v, av, Lin, c.E0, rfl, ⟨hX, rfl⟩, ⟨h3.os, h3.tape, h3.output, h3.size, fun b hb => h3.prot b (hc.low b hb), ?_, hs.low, hs.inj, ?_, hs.bx, h3.lk, hs.up⟩, ?_⟩
  · intro i ab hi
    exact BR.mono hle (hs.blk i ab hi) (fun b he hlv => hblk b (.inl ⟨i, ab, hi, hlv, he⟩)) fun b hb => hblk b (.inr ⟨i, ab, hi, hb⟩)
  · rw [hL]; exact hle
  · exact hx av hX _ _ _ h4
theorem acalls_lendP {P : Program} {f : FuncId} {avs avs' : List AV} {Lin : List AB} {X : AV → Prop} (hx : ∀ av, X av → flatA av) (hl : lendT Lin avs avs') (h : ACalls P f avs' [] (fun av L => X av ∧ L = [])) : ACalls P f avs Lin (fun av L => X av ∧ L = Lin) :=
  acalls_lendG hx (fun hs hc hrd hT => lendT_ok hs hc hrd hT hl) h
theorem VRt_join {R : RC} : ∀ {xs ys : List AV} {us vs : List Value}, VRt R xs us → VRt R ys vs → VRt R (xs ++ ys) (us ++ vs)
  | [], _, us, _, h, k => by
    simp only [VRt] at h
    subst h
    exact k
  | x :: xs, ys, us, vs, h, k => by
    simp only [VRt, List.cons_append] at h ⊢
    obtain ⟨u, us', rfl, h1, h2⟩ := h
    exact ⟨u, us' ++ vs, rfl, h1, VRt_join h2 k⟩
theorem VRt_split {R : RC} : ∀ {xs ys : List AV} {us : List Value}, VRt R (xs ++ ys) us → ∃ u1 u2, us = u1 ++ u2 ∧ VRt R xs u1 ∧ VRt R ys u2
  | [], ys, us, h => ⟨[], us, rfl, by simp [VRt], h⟩
  | x :: xs, ys, us, h => by
    simp only [List.cons_append, VRt] at h ⊢
    obtain ⟨u, us', rfl, h1, h2⟩ := h
    obtain ⟨u1, u2, rfl, h3, h4⟩ := VRt_split h2
    exact ⟨u :: u1, u2, rfl, ⟨u, u1, rfl, h1, h3⟩, h4⟩
theorem acalls_lendF {P : Program} {f g : FuncId} {avs avs' : List AV} {Lin : List AB} {X : AV → Prop} (hx : ∀ av, X av → flatA av) (hl : lendT Lin avs avs') (h : ACalls P f (avs' ++ [.fn g []]) [] (fun av L => X av ∧ L = [])) : ACalls P f (avs ++ [.fn g []]) Lin (fun av L => X av ∧ L = Lin) :=
  acalls_lendG hx (fun hs hc hrd hT us hv => by
    obtain ⟨u1, u2, rfl, h1, h2⟩ := VRt_split hv
    refine VRt_join (lendT_ok hs hc hrd hT hl h1) ?_
    simp only [VRt, VR] at h2 ⊢
    exact h2) h
end Go.Ab
