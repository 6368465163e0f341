/- ImageGoes: abstract runs. -/
import Derived.Test.YtmmngmnmghpfaaaGreatImageGoesLyspl
set_option linter.unusedVariables false
set_option linter.unusedSimpArgs false
namespace Go.Ab
open Go.RowKit
section
variable {P : Program} {tt : TypeId → Option TI} {fo : FuncId → Bool} {n k0 : Nat}
theorem aw_nilcall (ht : TTok P tt) (hz : ZOok tt) (hfo : FOok P fo) {id : Nat} {ops : Array Oper} {o0 o1 o2 : Oper} (hops : ops.toList = [o0, o1, o2]) {F : AF} {L : List AB} {d0 d1 d2 : Nat} {f : FuncId} {ts : Array TypeId} {x : DV}
    (g0 : o0.guard = none) (g1 : o1.guard = none) (g2 : o2.guard = none) (q0 : o0.dst = some d0) (hd0 : d0 < n) (q1 : o1.dst = some d1) (hd1 : d1 < n) (q2 : o2.dst = some d2) (hd2 : d2 < n)
    (h0 : aopK P tt fo o0 F L fun v L' => v = .d x ∧ L' = L)
    (p1 : o1.op = .call { callee := .value (.func f), args := #[.const (.slice none 0 0), .tmp d0], argTypes := ts }) (hfof : fo f = true) {Q : Exit → AF → List AB → Prop}
    (hcall : callRawK P f [.d .nils, .d x] L fun av L' => aopK P tt fo o2 (fput (fput F (some d0) (.d x)) (some d1) av) L' fun v L2 => Q .normal (fput (fput (fput F (some d0) (.d x)) (some d1) av) (some d2) v) L2) :
    AW P n k0 (.region id ops false) Q F L := by
  intro c E a w hc hcn _ hs
  subst hcn
  refine wp_region_list ?_
  rw [hops]
  refine wpList_aop ht hz hfo hc g0 (fun x hx => by rw [q0] at hx; cases hx; exact hd0) h0 hs ?_
  rintro _ L1 E1 a1 w1 ⟨rfl, hL1⟩ hs1
  rw [hL1, q0] at hs1
  have v0 := hs1.slots d0
  obtain ⟨u, hu⟩ : ∃ u, a1.tmps.getD d0 undef = u := ⟨_, rfl⟩
  have hfg : fget (fput F (some d0) (.d x)) d0 = .d x := by
    show fget ((d0, AV.d x) :: F) d0 = _
    rw [fget_cons, Nat.beq_refl]; rfl
  rw [hfg, hu] at v0
  refine wpList_plain g1 fun K1 hK1 => ?_
  unfold Oper.wp
  have hev0 : a1.eval (.tmp d0) = u := hu
  have hrc := run_call_fn hfo a1 o1 _ (.func f) p1 rfl (g := f) hfof (us := #[]) rfl w1
  rw [hrc]
  have hae : (#[Operand.const (.slice none 0 0), Operand.tmp d0].map a1.eval ++ #[] : Array Value) = #[.slice none 0 0, u] := by
    simp [hev0]
    rfl
  simp only [hae]
  refine (callRawK_ok hc hs1.h hcall (vs := #[.slice none 0 0, u]) (by
    simp only [VRt]
    exact ⟨_, _, rfl, by simp [VR, VD], _, _, rfl, v0, rfl⟩)).mono ?_
  rintro e2 w2 ⟨v, av, E2, L2, rfl, h2, h3, h4, h5⟩
  refine hK1 _ _ ?_
  have hs2 : Sim c E2 (fput F (some d0) (.d x)) L2 a1 w2 := ⟨h3, fun s => VR.mono h4 _ _ (hs1.slots s), hs1.nt, hs1.df⟩
  have hs3 := hs2.put (some d1) av v (fun x hx => by cases hx; exact hd1) h5
  rw [← q1] at hs3
  refine wpList_aop ht hz hfo hc g2 (fun x hx => by rw [q2] at hx; cases hx; exact hd2) (by rw [q1]; exact h2) hs3 ?_
  rintro v2 L3 E3 a3 w3 hq hs4
  rw [q1, q2] at hs4
  exact ⟨E3, _, _, hs4, hq⟩
end
end Go.Ab
