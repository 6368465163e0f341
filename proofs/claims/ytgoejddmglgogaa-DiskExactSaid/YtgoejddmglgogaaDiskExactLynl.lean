/- DiskExact: abstract runs. -/
import Derived.Test.YtgoejddmglgogaaDiskExactLysq
set_option linter.unusedVariables false
set_option linter.unusedSimpArgs false
namespace Go.Ab
open Go.RowKit
mutual
theorem VD_up {N : Nat} {rd : Addr → Value → Prop} (hrd : ∀ a u m, a.spot = some m → 0 < m → rd a u → N ≤ a.block) : ∀ (x : DV) (v : Value), NoO x → VD rd x v → VD (fun a u => rd a u ∧ N ≤ a.block) x v
  | .int k n, v, _, x => by simpa [VD] using x
  | .bool b, v, _, x => by simpa [VD] using x
  | .str b, v, _, x => by simpa [VD] using x
  | .flt k b, v, _, x => by simpa [VD] using x
  | .cplx _ _ _, v, _, x => by simpa [VD] using x
  | .nils, v, _, x => by simpa [VD] using x
  | .slo _ _, v, h, x => by simp [NoO] at h
  | .slq _ _, v, h, x => by simp [NoO] at h
  | .sl m xs, v, h, x => by
    simp only [NoO] at h
    simp only [VD] at x ⊢
    obtain ⟨hn, a, cap, h1, h2, h3, h4, h5⟩ := x
    refine ⟨hn, a, cap, h1, h2, h3, h4, fun a' ha => ?_⟩
    obtain ⟨k1, k2, k3⟩ := h5 a' ha
    refine ⟨k1, fun hc => ⟨k2 hc, hrd ⟨a'.block, a'.off, some m⟩ _ m rfl hn (k2 hc)⟩, ?_⟩
    by_cases hx : xs = []
    · subst hx; simp [VDE]
    · have hc : 0 < cap := by
        have : xs.length ≠ 0 := fun e => hx (List.eq_nil_of_length_eq_zero e)
        omega
      exact VDE_up hrd m xs a' (hrd ⟨a'.block, a'.off, some m⟩ _ m rfl hn (k2 hc)) h k3
  | .nilp, v, _, x => by simpa [VD] using x
  | .nilm, v, _, x => by simpa [VD] using x
  | .nilf, v, _, x => by simpa [VD] using x
  | .any, v, _, x => by simp [VD]
theorem VDE_up {N : Nat} {rd : Addr → Value → Prop} (hrd : ∀ a u m, a.spot = some m → 0 < m → rd a u → N ≤ a.block) (m : Nat) : ∀ (xs : List (List DV)) (a : Addr), N ≤ a.block → NoE xs → VDE rd m xs a → VDE (fun a u => rd a u ∧ N ≤ a.block) m xs a
  | [], a, _, _, _ => by simp [VDE]
  | cs :: r, a, hb, h, x => by
    simp only [NoE] at h
    simp only [VDE] at x ⊢
    exact ⟨x.1, VDC_up hrd cs a hb h.1 x.2.1, VDE_up hrd m r _ hb h.2 x.2.2⟩
theorem VDC_up {N : Nat} {rd : Addr → Value → Prop} (hrd : ∀ a u m, a.spot = some m → 0 < m → rd a u → N ≤ a.block) : ∀ (xs : List DV) (a : Addr), N ≤ a.block → NoC xs → VDC rd xs a → VDC (fun a u => rd a u ∧ N ≤ a.block) xs a
  | [], a, _, _, _ => by simp [VDC]
  | c :: r, a, hb, h, x => by
    simp only [NoC] at h
    simp only [VDC] at x ⊢
    obtain ⟨⟨u, h1, h0, h2⟩, h3⟩ := x
    exact ⟨⟨u, ⟨h1, hb⟩, h0, VD_up hrd c u h.1 h2⟩, VDC_up hrd r _ hb h.2 h3⟩
end
def NoR (y y' : DV) : Prop := y' = y ∧ NoO y
theorem QB.ren {r : DV → DV → Prop} {a b ab' : AB} {rho : Nat → Option Nat} (k : QB r a b) (h : renAB rho a = some ab') : (∃ cs, a = .cells cs ∧ ∃ cs', ab' = .cells cs' ∧ cs'.length = cs.length) ∨ ∃ es, a = .map es ∧ ab' = .map es := by
  cases k with
  | @cells cs cs' k =>
    simp only [renAB] at h
    split at h
    · rename_i l hl
      cases h
      exact .inl ⟨cs, rfl, l, rfl, renAs_length hl⟩
    · cases h
  | map k => simp only [renAB, Option.some.injEq] at h; exact .inr ⟨_, rfl, h.symm⟩
theorem acalls_fresh {P : Program} {f : FuncId} {avs avs0 : List AV} {Lin : List AB} {X post : AV → List AB → Prop} (hl : All2 (lendO2 Lin) avs avs0) (h : ACalls P f avs0 [] X)
    (hx : ∀ av L, X av L → (∀ (R R1 : RC) (v : Value), (∀ i b, R.pt i b → R1.pt i b) → (∀ x v, NoO x → VD R.rd x v → VD R1.rd x v) → VR R av v → VR R1 av v) ∧ All2 (QB NoR) L L ∧
      ∃ Lo av', renL (unN [] Lin.length) L = some Lo ∧ renA (unN [] Lin.length) av = some av' ∧ post av' (Lin ++ Lo)) : ACalls P f avs Lin post := by
  intro c vs hc hL hs hv
  let N := c.w0.heap.size
  let M' : MZ := ⟨c.M0.m, some ⟨N, fun _ _ => False⟩⟩
  have hrd : ∀ a u, c.w0.cell? a = some u → ¬ c.M0 a.block a.off → (rcOf M' (fun _ => none) [] c.w0).rd a u := fun a u h1 h2 =>
    .inl ⟨h1, fun hm => hm.elim h2 fun hm => hm.elim (fun ⟨i, ab, h, _⟩ => by simp at h) fun ⟨i, ab, h, _⟩ => by simp at h⟩
  have hc' : Ctx.wf ⟨c.w0, fun b => b < N, M', fun _ => none, [], c.n⟩ :=
    ⟨fun b hb => hb, fun b o hm => hc.low b (hc.sub b o hm), fun s hs => by cases hs; exact Nat.le_refl _⟩
  have hs' : SimH ⟨c.w0, fun b => b < N, M', fun _ => none, [], c.n⟩ (fun _ => none) [] c.w0 :=
    ⟨rfl, rfl, rfl, Nat.le_refl _, fun _ _ => rfl, fun i ab h => by simp at h, fun i ab b h => by simp at h, fun i j ab ab' b h => by simp at h, RC.le.refl _, ⟨fun i ab b h => by simp at h, fun i j ab ab' b h => by simp at h, fun i ab h => by simp at h, fun i j ab ab' b h => by simp at h⟩, .refl _, fun _ _ i _ _ _ _ _ h => by simp at h⟩
  refine (h _ vs hc' rfl hs' (hl.VRt (fun a b v h k => lendO2_ok hs hc hrd h k) hv)).mono ?_
  rintro e w' ⟨v, av, L0, E', rfl, hX, h3, h4⟩
  obtain ⟨hav, hno, Lo, av', hLo, hav', hpost⟩ := hx av L0 hX
  obtain ⟨hLol, hLook⟩ := renL_ok hLo
  let B := Lin.length
  let E2 : Nat → Option Nat := fun i => if i < B then c.E0 i else E' (i - B)
  have hE1 : ∀ i, i < B → E2 i = c.E0 i := fun i hi => by simp [E2, hi]
  have hE3 : ∀ j, E2 (B + j) = E' j := fun j => by
    show (if B + j < B then c.E0 (B + j) else E' (B + j - B)) = E' j
    rw [if_neg (by omega), Nat.add_sub_cancel_left]
  have hP : ∀ b, c.P0 b → b < N := hc.low
  have hblk0 : ∀ b, b < N → w'.heap[b]? = c.w0.heap[b]? := h3.prot
  have look : ∀ (i : Nat) (ab : AB), (Lin ++ Lo)[i]? = some ab → (i < B ∧ Lin[i]? = some ab) ∨ ∃ j ab0, i = B + j ∧ L0[j]? = some ab0 ∧ renAB (unN [] B) ab0 = some ab ∧ QB NoR ab0 ab0 := by
    intro i ab hi
    rcases Nat.lt_or_ge i B with hlt | hge
    · rw [List.getElem?_append_left hlt] at hi
      exact .inl ⟨hlt, hi⟩
    · rw [List.getElem?_append_right hge] at hi
      obtain ⟨ab0, k1, k2⟩ := hLook _ ab hi
      obtain ⟨x, m1, m2⟩ := hno.at k1
      rw [k1] at m1
      cases m1
      exact .inr ⟨i - B, ab0, by show i = Lin.length + (i - Lin.length); have : Lin.length ≤ i := hge; omega, k1, k2, m2⟩
  have back : ∀ (j : Nat) (ab0 : AB), L0[j]? = some ab0 → ∃ ab, (Lin ++ Lo)[B + j]? = some ab ∧ renAB (unN [] B) ab0 = some ab := by
    intro j ab0 hj
    have hlt : j < Lo.length := by rw [hLol]; exact (List.getElem?_eq_some_iff.1 hj).1
    obtain ⟨ab1, k1, k2⟩ := hLook j Lo[j] (List.getElem?_eq_getElem hlt)
    rw [hj] at k1
    cases k1
    exact ⟨Lo[j], by rw [List.getElem?_append_right (Nat.le_add_right _ _), show B + j - Lin.length = j from Nat.add_sub_cancel_left _ _]; exact List.getElem?_eq_getElem hlt, k2⟩
  have hlo : ∀ (j : Nat) (ab0 : AB) (b : Nat), L0[j]? = some ab0 → ab0.live = true → E' j = some b → N ≤ b := fun j ab0 b hj hl he => Nat.le_of_not_lt (h3.low j ab0 b hj hl he)
  have hbo : ∀ (j : Nat) (ab0 : AB) (b : Nat), L0[j]? = some ab0 → b ∈ ab0.boxes → N ≤ b := fun j ab0 b hj hb => Nat.le_of_not_lt (h3.bx.low j ab0 b hj hb)
  let R2 := rcOf c.M0 E2 (Lin ++ Lo) w'
  -- the old blocks
  have hle : (rcOf c.M0 c.E0 Lin c.w0).le R2 := by
    refine ⟨?_, ?_, ?_, ?_, ?_⟩
    · refine rdle rfl h3.lk fun a u h1 h2 => ?_
      have hb : a.block < N := cell?_lt h1
      refine ⟨by rw [World.cell?_of_block (w := c.w0) (hblk0 _ hb)]; exact h1, ?_⟩
      rintro (hm | ⟨i, ab, hi, he, hm⟩ | ⟨i, ab, hi, hm⟩)
      · exact h2 (.inl hm)
      · rcases look i ab hi with ⟨k1, k2⟩ | ⟨j, ab0, rfl, k1, k2, k3⟩
        · exact h2 (.inr (.inl ⟨i, ab, k2, by rw [← hE1 i k1]; exact he, hm⟩))
        · rw [hE3] at he
          have := hlo j ab0 _ k1 k3.cell.2.2.1 he
          omega
      · rcases look i ab hi with ⟨k1, k2⟩ | ⟨j, ab0, rfl, k1, k2, k3⟩
        · exact h2 (.inr (.inr ⟨i, ab, k2, hm⟩))
        · have := hbo j ab0 a.block k1 (by rw [← (renAB_alike k2).boxes]; exact hm)
          omega
    · rintro i b ⟨ab, h1, h2, h5⟩
      have hlt := (List.getElem?_eq_some_iff.1 h1).1
      exact ⟨ab, by rw [List.getElem?_append_left hlt]; exact h1, h2, by rw [hE1 i hlt]; exact h5⟩
    · rintro i v ⟨ab, h1, h2⟩
      have hlt := (List.getElem?_eq_some_iff.1 h1).1
      refine ⟨ab, by rw [List.getElem?_append_left hlt]; exact h1, ?_⟩
      cases ab with
      | row e n xs sh =>
        simp only [arRel, hE1 i hlt] at h2 ⊢
        cases hE : c.E0 i with
        | none => rw [hE] at h2; exact h2
        | some b =>
          rw [hE] at h2
          obtain ⟨cap, cur, k1, k2, k3⟩ := h2
          exact ⟨cap, cur, k1, by rw [hblk0 b (hs.lt h1 rfl hE)]; exact k2, k3⟩
      | cells cs => simp only [arRel, hE1 i hlt] at h2 ⊢; exact h2
      | map es => exact h2
      | pool b cs => exact h2
      | obj o => exact h2
      | obs o n cap => simp only [arRel, hE1 i hlt] at h2 ⊢; exact h2
      | isle lo n ok => exact h2.elim
      | dead => exact h2
    · rintro i j o v ⟨ab, h1, h2⟩
      have hlt := (List.getElem?_eq_some_iff.1 h1).1
      refine ⟨ab, by rw [List.getElem?_append_left hlt]; exact h1, ?_⟩
      cases ab with
      | row e n xs sh => simp only [apRel, hE1 i hlt] at h2 ⊢; exact h2
      | dead => exact h2
      | _ => exact h2.elim
    · rintro i x v ⟨ab, h1, h2⟩
      have hlt := (List.getElem?_eq_some_iff.1 h1).1
      exact ⟨ab, by rw [List.getElem?_append_left hlt]; exact h1, islRel_mono (fun b hb => hblk0 b (hs.blt h1 hb)) h2⟩
  -- the new ones
  let R1 : RC := { rcOf M' E' L0 w' with rd := fun a u => (rcOf M' E' L0 w').rd a u ∧ N ≤ a.block }
  have hup : ∀ x v, NoO x → VD (rcOf M' E' L0 w').rd x v → VD R1.rd x v := fun x v hn hv => VD_up (fun a u m ha hm hr => by
    obtain ⟨n, e1, e2⟩ := rd_tk hr ha
    rw [ha] at e1
    cases e1
    exact ((e2 _ rfl).2 hm).1) x v hn hv
  have hleads : Leads R1 R2 (unN [] B) := by
    refine ⟨?_, ?_, ?_, ?_, ?_⟩
    · rintro a u ⟨hr, hb⟩
      cases ha : a.spot with
      | none =>
        obtain ⟨h1, h2⟩ := rd_cell hr ha
        refine .inl ⟨h1, ?_⟩
        rintro (hm | ⟨i, ab, hi, he, hm⟩ | ⟨i, ab, hi, hm⟩)
        · have := hP _ (hc.sub _ _ hm)
          omega
        · rcases look i ab hi with ⟨k1, k2⟩ | ⟨j, ab0, rfl, k1, k2, k3⟩
          · rw [hE1 i k1] at he
            have : a.block < N := hs.lt k2 (AB.mut_live hm) he
            omega
          · rw [hE3] at he
            exact h2 (.inr (.inl ⟨j, ab0, k1, he, (k3.mut _).1⟩))
        · rcases look i ab hi with ⟨k1, k2⟩ | ⟨j, ab0, rfl, k1, k2, k3⟩
          · have : a.block < N := hs.blt k2 hm
            omega
          · exact h2 (.inr (.inr ⟨j, ab0, k1, by rw [← (renAB_alike k2).boxes]; exact hm⟩))
      | some m =>
        obtain ⟨n, e1, e2⟩ := rd_tk hr ha
        refine .inr ⟨n, e1, fun s1 hs1 => ⟨fun h0 => ((e2 _ rfl).1 h0).elim, fun h0 => ?_⟩⟩
        obtain ⟨g1, g2⟩ := (e2 _ rfl).2 h0
        exact ⟨Nat.le_trans (hc.sle s1 hs1) g1, g2⟩
    · rintro i j hij b ⟨ab, h1, h2, h5⟩
      have hj : j = B + i := by simpa [unN] using hij.symm
      subst hj
      obtain ⟨ab', k1, k2⟩ := back i ab h1
      obtain ⟨x, m1, m2⟩ := hno.at h1
      rw [h1] at m1
      cases m1
      refine ⟨ab', k1, ?_, by rw [hE3]; exact h5⟩
      rcases m2.ren k2 with ⟨cs, rfl, cs', rfl, _⟩ | ⟨es, rfl, rfl⟩ <;> rfl
    · rintro i j hij v ⟨ab, h1, h2⟩
      have hj : j = B + i := by simpa [unN] using hij.symm
      subst hj
      obtain ⟨ab', k1, k2⟩ := back i ab h1
      obtain ⟨x, m1, m2⟩ := hno.at h1
      rw [h1] at m1
      cases m1
      refine ⟨ab', k1, ?_⟩
      rcases m2.ren k2 with ⟨cs, rfl, cs', rfl, hl⟩ | ⟨es, rfl, rfl⟩
      · obtain ⟨b, g1, g2⟩ := h2
        exact ⟨b, by rw [hE3]; exact g1, by rw [hl]; exact g2⟩
      · exact h2.elim
    · rintro i j hij k o v ⟨ab, h1, h2⟩
      obtain ⟨x, m1, m2⟩ := hno.at h1
      rw [h1] at m1
      cases m1
      cases m2 <;> exact h2.elim
    · rintro i j hij x v ⟨ab, h1, h2⟩
      obtain ⟨y, m1, m2⟩ := hno.at h1
      rw [h1] at m1
      cases m1
      cases m2 <;> exact h2.elim
  have hsim : SimH c E2 (Lin ++ Lo) w' := by
    refine ⟨h3.os, h3.tape, h3.output, h3.size, fun b hb => hblk0 b (hP b hb), ?_, ?_, ?_, by rw [hL]; exact hle, ⟨?_, ?_, ?_, ?_⟩, h3.lk, ?_⟩
    · intro i ab hi
      rcases look i ab hi with ⟨k1, k2⟩ | ⟨j, ab0, rfl, k1, k2, k3⟩
      · rw [hE1 i k1]
        exact BR.mono hle (hs.blk i ab k2) (fun b he hlv => hblk0 b (hs.lt k2 hlv he)) fun b hb => hblk0 b (hs.blt k2 hb)
      · rw [hE3]
        refine renAB_ok hleads k2 (QB.br (R := rcOf M' E' L0 w') (R' := R1) (r := NoR) (fun y y' v hy hv => ?_) (fun i b h => h) k3 (h3.blk j ab0 k1))
        obtain ⟨rfl, hn⟩ := hy
        exact hup _ _ hn hv
    · intro i ab b hi hlv he hp
      rcases look i ab hi with ⟨k1, k2⟩ | ⟨j, ab0, rfl, k1, k2, k3⟩
      · rw [hE1 i k1] at he
        exact hs.low i ab b k2 hlv he hp
      · rw [hE3] at he
        have := hlo j ab0 b k1 k3.cell.2.2.1 he
        have := hP b hp
        omega
    · intro i1 i2 ab1 ab2 b hi1 hi2 hl1 hl2 he1 he2
      rcases look i1 ab1 hi1 with ⟨k1, k2⟩ | ⟨j, ab0, rfl, k1, k2, k3⟩ <;> rcases look i2 ab2 hi2 with ⟨m1, m2⟩ | ⟨j', ab0', rfl, m1, m2, m3⟩
      · rw [hE1 i1 k1] at he1
        rw [hE1 i2 m1] at he2
        exact hs.inj i1 i2 ab1 ab2 b k2 m2 hl1 hl2 he1 he2
      · rw [hE1 i1 k1] at he1
        rw [hE3] at he2
        have : b < N := hs.lt k2 hl1 he1
        have := hlo j' ab0' b m1 m3.cell.2.2.1 he2
        omega
      · rw [hE1 i2 m1] at he2
        rw [hE3] at he1
        have : b < N := hs.lt m2 hl2 he2
        have := hlo j ab0 b k1 k3.cell.2.2.1 he1
        omega
      · rw [hE3] at he1 he2
        rw [h3.inj j j' ab0 ab0' b k1 m1 k3.cell.2.2.1 m3.cell.2.2.1 he1 he2]
    · intro i ab b hi hb hp
      rcases look i ab hi with ⟨k1, k2⟩ | ⟨j, ab0, rfl, k1, k2, k3⟩
      · exact hs.bx.low i ab b k2 hb hp
      · have := hbo j ab0 b k1 (by rw [← (renAB_alike k2).boxes]; exact hb)
        have := hP b hp
        omega
    · intro i1 i2 ab1 ab2 b hi1 hb hi2 hl2 he2
      rcases look i1 ab1 hi1 with ⟨k1, k2⟩ | ⟨j, ab0, rfl, k1, k2, k3⟩ <;> rcases look i2 ab2 hi2 with ⟨m1, m2⟩ | ⟨j', ab0', rfl, m1, m2, m3⟩
      · rw [hE1 i2 m1] at he2
        exact hs.bx.own i1 i2 ab1 ab2 b k2 hb m2 hl2 he2
      · rw [hE3] at he2
        have : b < N := hs.blt k2 hb
        have := hlo j' ab0' b m1 m3.cell.2.2.1 he2
        omega
      · rw [hE1 i2 m1] at he2
        have : b < N := hs.lt m2 hl2 he2
        have := hbo j ab0 b k1 (by rw [← (renAB_alike k2).boxes]; exact hb)
        omega
      · rw [hE3] at he2
        exact h3.bx.own j j' ab0 ab0' b k1 (by rw [← (renAB_alike k2).boxes]; exact hb) m1 m3.cell.2.2.1 he2
    · intro i ab hi
      rcases look i ab hi with ⟨k1, k2⟩ | ⟨j, ab0, rfl, k1, k2, k3⟩
      · exact hs.bx.nd i ab k2
      · rw [(renAB_alike k2).boxes]; exact h3.bx.nd j ab0 k1
    · intro i1 i2 ab1 ab2 b hi1 hi2 hb1 hb2
      rcases look i1 ab1 hi1 with ⟨k1, k2⟩ | ⟨j, ab0, rfl, k1, k2, k3⟩ <;> rcases look i2 ab2 hi2 with ⟨m1, m2⟩ | ⟨j', ab0', rfl, m1, m2, m3⟩
      · exact hs.bx.dj i1 i2 ab1 ab2 b k2 m2 hb1 hb2
      · have : b < N := hs.blt k2 hb1
        have := hbo j' ab0' b m1 (by rw [← (renAB_alike m2).boxes]; exact hb2)
        omega
      · have : b < N := hs.blt m2 hb2
        have := hbo j ab0 b k1 (by rw [← (renAB_alike k2).boxes]; exact hb1)
        omega
      · rw [h3.bx.dj j j' ab0 ab0' b k1 m1 (by rw [← (renAB_alike k2).boxes]; exact hb1) (by rw [← (renAB_alike m2).boxes]; exact hb2)]
    · intro s0 hs0 i e n xs sh b hi he
      rcases look i _ hi with ⟨k1, k2⟩ | ⟨j, ab0, rfl, k1, k2, k3⟩
      · rw [hE1 i k1] at he
        exact hs.up s0 hs0 i _ _ _ _ b k2 he
      · rcases k3.ren k2 with ⟨cs, _, cs', e1, _⟩ | ⟨es, _, e1⟩ <;> cases e1
  exact ⟨v, av', _, _, rfl, hpost, hsim, renA_ok hleads av av' hav' v (hav (rcOf M' E' L0 w') R1 v (fun i b h => h) hup h4)⟩
end Go.Ab
