/- ImageGoes: abstract runs. -/
import Derived.Test.YtmmngmnmghpfaaaGreatImageGoesLyaa
set_option linter.unusedVariables false
set_option linter.unusedSimpArgs false
namespace Go.Ab
noncomputable section
open Go.RowKit
section
variable {P : Program} {tt : TypeId → Option TI} {fo : FuncId → Bool} {n : Nat}
theorem ret_ok (ht : TTok P tt) {fn : Func} {rs : List ResultVar} (hr : fn.results.toList = rs) (ex : Bool) {c : Ctx} (hc : c.wf) {Lin : List AB} {post : AV → List AB → Prop} (hL : c.L0.length = Lin.length) {E' : Nat → Option Nat} {F' : AF} {L' : List AB} {a : Act} {w' : World} (hsF : Sim c E' F' L' a w')
    (hres : resK tt F' L' rs fun l => outK ex l L' fun l L' => finK Lin.length (tupOf l) L' post) : ∃ v av L'' E'', (results fn a.tmps).run P w' = .ok v w' ∧ post av L'' ∧ SimH c E'' L'' w' ∧ VR (rcOf c.M0 E'' L'' w') av v := by
  obtain ⟨l, us, h1, h2, h3⟩ := resK_ok ht hsF hres
  have hout : ∃ l' L2, finK Lin.length (tupOf l') L2 post ∧ SimH c E' L2 w' ∧ VRt (rcOf c.M0 E' L2 w') l' us := by
    unfold outK at h1
    cases ex with
    | true => exact ⟨l, L', h1, hsF.h, h3⟩
    | false =>
      obtain ⟨ys, L2, k1, k2, _, k4⟩ := argsK_ok hc hsF.h h1 h3
      exact ⟨ys, L2, k1, k2, k4⟩
  obtain ⟨l', L2, h4, h5, h6⟩ := hout
  have hrun := run_results (P := P) fn a.tmps w' us (by rw [hr]; exact h2)
  have htup : VR (rcOf c.M0 E' L2 w') (tupOf l') (tupV us) := by
    unfold tupOf
    split
    · rename_i x
      simp only [VRt] at h6
      obtain ⟨u, us', rfl, k1, rfl⟩ := h6
      exact k1
    · rename_i hne
      have hus : ∀ v, us ≠ [v] := by
        intro v e
        subst e
        cases l' with
        | nil => simp [VRt] at h6
        | cons x l'' =>
          simp only [VRt] at h6
          obtain ⟨u, us', e1, _, h7⟩ := h6
          cases e1
          cases l'' with
          | nil => exact hne x rfl
          | cons y l3 => simp [VRt] at h7
      have e : tupV us = .tuple us.toArray := by
        match us, hus with
        | [], _ => rfl
        | [v], h => exact absurd rfl (h v)
        | v :: u :: r, _ => rfl
      rw [e]
      simp only [VR]
      exact ⟨_, rfl, by simpa using h6⟩
  obtain ⟨E'', av, L'', k1, k2, k3⟩ := finK_ok h4 hL h5 htup
  exact ⟨_, av, L'', E'', hrun, k1, k2, k3⟩
theorem acalls_marks (ht : TTok P tt) {f : FuncId} {fn : Func} {code : Code} (hf : P.funcs[f]? = some fn) (hb : fn.body = some code) (hn : fn.ntmps = n) {rs : List ResultVar} (hr : fn.results.toList = rs)
    (ex : Bool) {avs : List AV} {Lin : List AB} {post : AV → List AB → Prop} (hlen : Nat.ble avs.length n = true)
    (h : ∀ (c : Ctx) (a : Act), c.wf → c.n = n → c.L0.length = Lin.length → Sim c c.E0 (argF avs 0) Lin a c.w0 → code.wpIn Fence.wide 5 P (fun e a' w' => (e = .ret ∨ e = .normal) ∧ ∃ E' F' L', retK tt ex Lin.length rs post .ret F' L' ∧ (Sim c E' F' L' a' w' ∨
      ∃ D, a'.defers = [{ target := .collected D, args := #[] }] ∧ w'.heap[D]? = some (.deferred (some [])) ∧ c.w0.heap.size ≤ D ∧ Sim c E' F' L' { a' with defers := [] } w' ∧ plainB L' = true)) a c.w0) : ACalls P f avs Lin post := by
  intro c vs hc hL hs hv
  let c' : Ctx := { c with n := n }
  have hc' : c'.wf := ⟨hc.low, hc.sub, hc.sle⟩
  have hs' : SimH c' c.E0 Lin c.w0 := ⟨hs.os, hs.tape, hs.output, hs.size, hs.prot, hs.blk, hs.low, hs.inj, hs.old, hs.bx, hs.lk, hs.up⟩
  have hvl : vs.size = avs.length := by
    have : ∀ (l : List AV) (us : List Value), VRt (rcOf c.M0 c.E0 Lin c.w0) l us → us.length = l.length := by
      intro l
      induction l with
      | nil => intro us h; simp only [VRt] at h; subst h; rfl
      | cons x l ih => intro us h; simp only [VRt] at h; obtain ⟨u, us', rfl, _, h2⟩ := h; simp [ih us' h2]
    have := this _ _ hv
    simpa using this
  have hlen' : avs.length ≤ n := Nat.le_of_ble_eq_true hlen
  refine callsIn_wide.1 (callsIn_of_wp_marks (n := 5) hf hb trivial ?_ rfl)
  rw [hn]
  have hsim : Sim c' c.E0 (argF avs 0) Lin { tmps := vs ++ Array.replicate (n - vs.size) undef, defers := [] } c.w0 := by
    refine ⟨hs', ?_, (by show (vs ++ Array.replicate (n - vs.size) undef).size = n; simp; omega), rfl⟩
    have key : ∀ (l : List AV) (us : List Value) (k : Nat), VRt (rcOf c.M0 c.E0 Lin c.w0) l us → ∀ s, (fget (argF l k) s = .d .any) ∨ (k ≤ s ∧ ∃ u, us[s - k]? = some u ∧ VR (rcOf c.M0 c.E0 Lin c.w0) (fget (argF l k) s) u) := by
      intro l
      induction l with
      | nil => intro us k _ s; exact .inl rfl
      | cons x l ih =>
        intro us k h s
        simp only [VRt] at h
        obtain ⟨u, us', rfl, h1, h2⟩ := h
        simp only [argF, fget_nil, fget_cons]
        cases hbq : Nat.beq k s with
        | true =>
          have := Nat.eq_of_beq_eq_true hbq
          subst this
          exact .inr ⟨Nat.le_refl _, u, by simp, h1⟩
        | false =>
          simp only [cond_false]
          rcases ih us' (k + 1) h2 s with h3 | ⟨h3, u', h4, h5⟩
          · exact .inl h3
          · refine .inr ⟨by omega, u', ?_, h5⟩
            have : s - k = (s - (k + 1)) + 1 := by omega
            rw [this]; simpa using h4
    intro s
    rcases key avs vs.toList 0 hv s with h1 | ⟨_, u, h2, h3⟩
    · rw [h1]; simp [VR, VD]
    · have hlt : s < vs.size := by
        have := (List.getElem?_eq_some_iff.1 h2).1
        simpa using this
      have e : (vs ++ Array.replicate (n - vs.size) undef).getD s undef = u := by
        have : vs[s]? = some u := by simpa using h2
        simp [Array.getElem?_append_left hlt, this]
      show VR _ _ ((vs ++ Array.replicate (n - vs.size) undef).getD s undef)
      rw [e]; exact h3
  have hL' : c'.L0.length = Lin.length := by rw [← hL]
  refine wpIn_mono (h c' _ hc' rfl hL' hsim) ?_
  rintro e a w' ⟨he, E', F', L', hret, hcase⟩
  have hret : resK tt F' L' rs fun l => outK ex l L' fun l L' => finK Lin.length (tupOf l) L' post := hret
  have key : LeavesInM Fence.wide 5 P fn a.tmps (fun e w' => ∃ v av L' E', e = .returned v ∧ post av L' ∧ SimH c E' L' w' ∧ VR (rcOf c.M0 E' L' w') av v) a.defers .returning w' := by
    have conv : ∀ {E2 : Nat → Option Nat} {L2 : List AB} {w2 : World}, SimH c' E2 L2 w2 → SimH c E2 L2 w2 := fun k2 => ⟨k2.os, k2.tape, k2.output, k2.size, k2.prot, k2.blk, k2.low, k2.inj, k2.old, k2.bx, k2.lk, k2.up⟩
    rcases hcase with hsF | ⟨D, hdf, hK, hD, hsF, hpl⟩
    · obtain ⟨v, av, L2, E2, k1, k2, k3, k4⟩ := ret_ok ht hr ex hc' hL' hsF hret
      rw [hsF.df]
      exact ⟨v, k1, v, av, L2, E2, rfl, k2, conv k3, k4⟩
    · have hs2 := hsF.other hc' (B := c.w0.heap.size) (Nat.le_refl _) hpl (grownBy_putObj' w' D (.deferred none)) (fun r e => by cases e; exact ⟨hD, _, hK, rfl⟩)
      obtain ⟨v, av, L2, E2, k1, k2, k3, k4⟩ := ret_ok ht hr ex hc' hL' hs2 hret
      rw [hdf]
      exact ⟨by simp, .inl ⟨D, _, rfl, run_takeDeferred hK, v, k1, v, av, L2, E2, rfl, k2, conv k3, k4⟩⟩
  rcases he with rfl | rfl <;> exact key
end
end
end Go.Ab
