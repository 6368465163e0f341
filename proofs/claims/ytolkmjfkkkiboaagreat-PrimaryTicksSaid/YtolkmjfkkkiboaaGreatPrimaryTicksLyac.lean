/- PrimaryTicks: abstract runs. -/
import Derived.Test.YtolkmjfkkkiboaaGreatPrimaryTicksLyab
set_option linter.unusedVariables false
set_option linter.unusedSimpArgs false
namespace Go.Ab
noncomputable section
open Go.RowKit
theorem plain_boxes {L : List AB} (h : plainB L = true) {i : Nat} {ab : AB} (hi : L[i]? = some ab) : ab.boxes = [] := by
  have := List.all_eq_true.1 h ab (List.mem_of_getElem? hi)
  cases ab <;> first | rfl | cases this
theorem VDs_len {rd : Addr → Value → Prop} : ∀ {xs : List DV} {us : List Value}, VDs rd xs us → us.length = xs.length
  | [], us, h => by simp only [VDs, Cs] at h; subst h; rfl
  | x :: xs, us, h => by
    simp only [VDs, Cs] at h
    obtain ⟨u, us', rfl, _, _, h2⟩ := h
    simp [VDs_len (xs := xs) h2]
theorem cap_slice {c : Ctx} (hc : c.wf) {E : Nat → Option Nat} {L : List AB} {w : World} {n : Nat} {rows : List (List DV)} (h : SimH c E (L ++ [.cells [.d (.sl n rows)]]) w) (hpl : plainB L = true) (hL0 : c.L0.length ≤ L.length)
    (hb : linA (posN (upto L.length) · 0) (L ++ [.cells [.d (.sl n rows)]]) (upto L.length) = some L) {Bs : Nat} (hE : E L.length = some Bs) :
    ∃ E9, SimH c E9 L w ∧ Leads (rcOf c.M0 E (L ++ [.cells [.d (.sl n rows)]]) w) (rcOf c.M0 E9 L w) (posN (upto L.length) · 0) ∧
      ∃ (p : Option Addr) (cap b off : Nat) (el : Fin rows.length → List Value), (rcOf c.M0 E9 L w).rd ⟨Bs, 0, none⟩ (.slice p rows.length cap) ∧ rows.length ≤ cap ∧ (0 < rows.length → p = some ⟨b, off, none⟩) ∧
        ∀ k : Fin rows.length, (el k).length = n ∧ VDs (rcOf c.M0 E9 L w).rd rows[k] (el k) ∧ ∀ (j : Nat) (v : Value), (el k)[j]? = some v → (rcOf c.M0 E9 L w).rd ⟨b, off + k.val * n + j, none⟩ v := by
  have hlast : (L ++ [AB.cells [.d (.sl n rows)]])[L.length]? = some (.cells [.d (.sl n rows)]) := by simp
  obtain ⟨h9, hl⟩ := h.part (upto_nodup _) (fun i hi => upto_get (by omega)) hb
  refine ⟨_, h9, hl, ?_⟩
  obtain ⟨b0, cur, e, h1, h2, h3⟩ := h.blk L.length _ hlast
  rw [hE] at h1
  cases h1
  simp only [VRs] at h3
  obtain ⟨sv, us', hcur, h1c, hsv, rfl⟩ := h3
  have hsv0 := hsv
  simp only [VR, VD] at hsv
  obtain ⟨hn, p, cap, rfl, hcap, hmax, hnone, hall⟩ := hsv
  have hcell : w.cell? ⟨Bs, 0, none⟩ = some (.slice p rows.length cap) := by
    have : cur[0]? = some (.slice p rows.length cap) := by
      rw [← Array.getElem?_toList, hcur]; rfl
    simp [World.cell?, h2, this]
  have hmut : ¬ Mut c.M0 (Esub E (upto L.length)) L Bs 0 := by
    rintro (hm | ⟨i, ab, hi, he, hm⟩ | ⟨i, ab, hi, hm⟩)
    · exact h.low L.length _ Bs hlast rfl hE (hc.sub _ _ hm)
    · have hil := (List.getElem?_eq_some_iff.1 hi).1
      have he' : E i = some Bs := by
        have := he
        unfold Esub at this
        rw [upto_get hil] at this
        exact this
      have hlv : ab.live = true := by
        cases ab <;> first | rfl | exact hm.elim
      have := h.inj i L.length ab _ Bs (by rw [List.getElem?_append_left hil]; exact hi) hlast hlv rfl he' hE
      omega
    · rw [plain_boxes hpl hi] at hm
      cases hm
  by_cases hr : rows.length = 0
  · exact ⟨p, cap, 0, 0, fun k => absurd k.isLt (by omega), .inl ⟨hcell, hmut⟩, hcap, fun h => by omega, fun k => absurd k.isLt (by omega)⟩
  · cases p with
    | none => have := hnone rfl; omega
    | some a' =>
      obtain ⟨hsp, _, hve⟩ := hall a' rfl
      have hsp : a'.spot = none := hsp.resolve_left (fun e => hr (by rw [e]; rfl))
      have hex : ∀ k : Fin rows.length, ∃ us : List Value, us.length = n ∧ VDs (rcOf c.M0 (Esub E (upto L.length)) L w).rd rows[k] us ∧ ∀ (j : Nat) (v : Value), us[j]? = some v → (rcOf c.M0 (Esub E (upto L.length)) L w).rd ⟨a'.block, a'.off + k.val * n + j, none⟩ v := by
        intro k
        obtain ⟨g1, g2⟩ := VDE_get n hve hsp (i := k.val) (cs := rows[k]) (by simp)
        obtain ⟨us, u1, u2⟩ := VDC_vals (VDC.mono hl.rd _ _ g2) rfl
        exact ⟨us, by rw [VDs_len u1]; exact g1, u1, u2⟩
      refine ⟨some a', cap, a'.block, a'.off, fun k => Classical.choose (hex k), .inl ⟨hcell, hmut⟩, hcap, fun _ => ?_, fun k => Classical.choose_spec (hex k)⟩
      cases a' with
      | mk x y z => cases hsp; rfl
theorem aw_run {P : Program} {n k0 : Nat} {code : Code} {Q : Exit → AF → List AB → Prop} {F : AF} {L : List AB} (h : AW P n k0 code Q F L) {c : Ctx} {E : Nat → Option Nat} {a : Act} {w : World} (h1 : c.wf) (h2 : c.n = n) (h3 : c.L0.length = k0) (h4 : Sim c E F L a w) :
    code.wp P (fun x a' w' => ∃ E' F' L', Sim c E' F' L' a' w' ∧ Q x F' L') a w := h c E a w h1 h2 h3 h4
end
end Go.Ab
