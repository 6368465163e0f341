/- ImageGoes: abstract runs. -/
import Derived.Test.YtmmngmnmghpfaaaGreatImageGoesLyf
set_option linter.unusedVariables false
set_option linter.unusedSimpArgs false
namespace Go.Ab
open Go.RowKit
theorem Cs_set {α : Type} {r : α → Value → Prop} : ∀ {xs : List α} {us : List Value} {p : Nat} {x y : α}, Cs r xs us → xs[p]? = some x → (∀ v, r x v → r y v) → Cs r (xs.set p y) us
  | [], us, p, x, y, h, hx, hr => by simp at hx
  | a :: l, us, p, x, y, h, hx, hr => by
    simp only [Cs] at h
    obtain ⟨u, us', rfl, h0, h1, h2⟩ := h
    cases p with
    | zero =>
      simp at hx
      subst hx
      simp only [List.set_cons_zero, Cs]
      exact ⟨u, us', rfl, h0, hr _ h1, h2⟩
    | succ p =>
      simp at hx
      simp only [List.set_cons_succ, Cs]
      exact ⟨u, us', rfl, h0, h1, Cs_set h2 hx hr⟩
theorem SimH.recell {c : Ctx} {E : Nat → Option Nat} {L : List AB} {w : World} (h : SimH c E L w) {i : Nat} {cs cs' : List AV} (hi : L[i]? = some (.cells cs))
    (hv : ∀ us, VRs (rcOf c.M0 E L w) cs us → VRs (rcOf c.M0 E L w) cs' us) :
    SimH c E (L.set i (.cells cs')) w ∧ (rcOf c.M0 E L w).le (rcOf c.M0 E (L.set i (.cells cs')) w) := by
  obtain ⟨b, cur, e, hb, hh, hvs⟩ := h.blk i _ hi
  have hlen : cs'.length = cs.length := by rw [← VRs_length (hv _ hvs), VRs_length hvs]
  have hle : (rcOf c.M0 E L w).le (rcOf c.M0 E (L.set i (.cells cs')) w) :=
    le_set h hi rfl (.refl _ _) (fun o _ => trivial) (fun _ _ _ _ _ h => h) rfl (fun v hv => by simp only [arRel] at hv ⊢; rw [hlen]; exact hv) (fun _ _ _ hv => hv) (fun _ hb => hb)
  exact ⟨h.setE hi rfl (.refl _ _) hle rfl ⟨b, cur, e, hb, hh, VRs.mono hle _ _ (hv _ hvs)⟩ rfl, hle⟩
end Go.Ab
