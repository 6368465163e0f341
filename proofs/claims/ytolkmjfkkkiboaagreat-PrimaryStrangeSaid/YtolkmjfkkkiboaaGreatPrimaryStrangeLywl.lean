/- PrimaryStrange: abstract runs. -/
import Derived.Test.YtolkmjfkkkiboaaGreatPrimaryStrangeLywk
set_option linter.unusedVariables false
set_option linter.unusedSimpArgs false
namespace Go.Ab
open Go.RowKit
variable {P:Program} {tt:TypeId→Option TI} {fo:FuncId→Bool} {n k0:Nat}
theorem loop_goI (ht:TTok P tt) (hz:ZOok tt) (hfo:FOok P fo) {σ:Type} (st:σ→AF×List AB) (inv:σ→Prop) (mu:σ→Nat) {x:Code} {Q:Exit→AF→List AB→Prop} {F:AF} {L:List AB}
  (start:Into n k0 st inv F L)
  (round:∀ s,inv s→acodeR P tt fo n k0 x (fun e F' L'=>match e with
    | .normal=>Into n k0 st (fun s'=>inv s'∧mu s'<mu s) F' L'
    | .exit id=>Q (.exit id) F' L'
    | .goto l=>Q (.goto l) F' L'
    | .ret=>Q .ret F' L'
    | _=>False) (st s).1 (st s).2):AW P n k0 (.loop x) Q F L:=by
 intro c E a w hc hcn hk hs
 obtain ⟨s0,E0,hi0,hs0⟩:=start c E a w hc hcn hk hs
 intro b k cs
 have key:∀ m s,mu s=m→inv s→∀ E a w,Sim c E (st s).1 (st s).2 a w →
   ∃ e a' w',(∃ E' F' L',Sim c E' F' L' a' w'∧Q e F' L')∧Arrives P (lone (b.at a (.code x :: .inLoop x :: k)) cs w) b k cs e a' w':=by
  intro m
  induction m using Nat.strongRecOn with
  | _ m ih =>
    intro s hm hi E a w hs
    have hr:=round s hi
    rw [acodeR_eq] at hr
    obtain ⟨e,a₁,w₁,hq,harr⟩:=acodeK_ok ht hz hfo x hr c E a w hc hcn hk hs b (.inLoop x :: k) cs
    obtain ⟨E',F',L',hs',hq⟩:=hq
    cases e with
    | normal =>
      obtain ⟨s',E2,⟨hi',hlt⟩,hs2⟩:=hq c E' a₁ w₁ hc hcn hk hs'
      obtain ⟨e₂,a₂,w₂,hq₂,harr₂⟩:=ih (mu s') (hm▸hlt) s' rfl hi' E2 a₁ w₁ hs2
      exact ⟨e₂,a₂,w₂,hq₂,.of_steps (Steps.trans harr (.one step_inLoop)) harr₂⟩
    | exit id=>exact ⟨_,a₁,w₁,⟨E',F',L',hs',hq⟩,.pass (x := .inLoop x) rfl (fun _ _ => .inl (by simp)) harr⟩
    | goto l=>exact ⟨_,a₁,w₁,⟨E',F',L',hs',hq⟩,.pass (x := .inLoop x) rfl (fun _ _ => .inl (by simp)) harr⟩
    | ret=>exact ⟨_,a₁,w₁,⟨E',F',L',hs',hq⟩,.pass (x := .inLoop x) rfl (fun _ _ => .inl (by simp)) harr⟩
    | panic ch=>exact hq.elim
    | outgrown=>exact hq.elim
 obtain ⟨e,a',w',hq,harr⟩:=key _ s0 rfl hi0 E0 a w hs0
 exact ⟨e,a',w',hq,.of_steps (.one step_loop) harr⟩
end Go.Ab
