/- PrimaryExact: abstract runs. -/
import Derived.Test.YtolkmjfkkkiboaaGreatPrimaryExactLyspl
set_option linter.all false
namespace Go.Ab
open Go.RowKit
variable {P:Program} {tt:TypeId->Option TI} {fo:FuncId->Bool} {n k0:Nat}
theorem T9 (ht:cp P tt) (hz:jL tt) (eZ:jx P fo) {σ:Type} (st:σ->AF×List AB) (inv:σ->Prop) (mu:σ->Nat) {x:Code} {Q:Exit->AF->List AB->Prop} {F:AF} {L:List AB}
  (start:eA n k0 st inv F L)
  (round:∀ s,inv s->dI P tt fo n k0 x (λe F' L'=>match e with
    | .normal=>eA n k0 st (λs'=>inv s'/\mu s'<mu s) F' L'
    | .exit id=>Q (.exit id) F' L'
    | .goto l=>Q (.goto l) F' L'
    | .ret=>Q .ret F' L'
    | _=>False) (st s).1 (st s).2):AW P n k0 (.loop x) Q F L:=by
 intro c E a w hc dS hk hs;obtain ⟨s0,E0,Xx,ui⟩:=start c E a w hc dS hk hs;intro b k cs;have key:∀ m s,mu s=m->inv s->∀ E a w,eE c E (st s).1 (st s).2 a w ->
   ∃ e a' w',(∃ E' F' L',eE c E' F' L' a' w'/\Q e F' L')/\Arrives P (lone (b.at a (.code x :: .inLoop x :: k)) cs w) b k cs e a' w':=by
  intro m
  induction m using Nat.strongRecOn with
  | _ m ih =>
    intro s hm hi E a w hs;have hr:=round s hi;rw [eW] at hr;obtain ⟨e,mc,me,hq,lG⟩:=fE ht hz eZ x hr c E a w hc dS hk hs b (.inLoop x :: k) cs;obtain ⟨E',F',L',bP,hq⟩:=hq
    cases e with
    | normal =>
      obtain ⟨s',E2,⟨xe,bB⟩,e_⟩:=hq c E' mc me hc dS hk bP;obtain ⟨Lv,Lw,Lx,Ba,p_⟩:=ih (mu s') (hm▸bB) s' rfl xe E2 mc me e_;exact ⟨Lv,Lw,Lx,Ba,.of_steps (Steps.trans lG (.one step_inLoop)) p_⟩
    | exit id=>exact ⟨_,mc,me,⟨E',F',L',bP,hq⟩,.pass (x := .inLoop x) rfl (λ_ _ => .inl (by simp)) lG⟩
    | goto l=>exact ⟨_,mc,me,⟨E',F',L',bP,hq⟩,.pass (x := .inLoop x) rfl (λ_ _ => .inl (by simp)) lG⟩
    | ret=>exact ⟨_,mc,me,⟨E',F',L',bP,hq⟩,.pass (x := .inLoop x) rfl (λ_ _ => .inl (by simp)) lG⟩
    | panic ch=>exact hq.elim
    | outgrown=>exact hq.elim
 obtain ⟨e,a',w',hq,lG⟩:=key _ s0 rfl Xx E0 a w ui;exact ⟨e,a',w',hq,.of_steps (.one step_loop) lG⟩
end Go.Ab
