/- PrimaryStrange: abstract runs. -/
import Derived.Test.YtolkmjfkkkiboaaGreatPrimaryStrangeLycl
set_option linter.unusedVariables false
set_option linter.unusedSimpArgs false
namespace Go.Ab
open Go.RowKit
section
variable {P:Program} {tt:TypeId→Option TI} {fo:FuncId→Bool} {n k0:Nat}
theorem aw_cond {x:Operand} {a b:Code} {Q:Exit→AF→List AB→Prop} {F:AF} {L:List AB} (h:condK F x (fun F=>AW P n k0 a Q F L) (fun F=>AW P n k0 b Q F L)):AW P n k0 (.cond x a b) Q F L:=by
 intro c E ac w hc hcn hk hs
 obtain ⟨t,F',h1,h2,h3⟩:=condK_ok h hs
 refine wp_cond h1 ?_
 cases t with
 | true=>exact h3 c E ac w hc hcn hk h2
 | false=>exact h3 c E ac w hc hcn hk h2
theorem aw_block {id:Nat} {x:Code} {Q:Exit→AF→List AB→Prop} {F:AF} {L:List AB} (h:AW P n k0 x (fun e F L=>match e with
   | .normal=>Q .normal F L
   | .exit id'=>bif Nat.beq id' id then Q .normal F L else Q (.exit id') F L
   | .goto l=>Q (.goto l) F L
   | .ret=>Q .ret F L
   | _=>False) F L):AW P n k0 (.block id x) Q F L:=by
 intro c E a w hc hcn hk hs
 refine wp_block (wp_mono (h c E a w hc hcn hk hs) ?_)
 rintro e a' w' ⟨E',F',L',h1,h2⟩
 cases e with
 | normal=>exact ⟨E',F',L',h1,h2⟩
 | exit id' =>
   simp only [Exit.inBlock]
   simp only at h2
   cases hb:Nat.beq id' id with
   | true=>rw [hb] at h2;rw [if_pos (Nat.eq_of_beq_eq_true hb)];exact ⟨E',F',L',h1,h2⟩
   | false=>rw [hb] at h2;rw [if_neg (fun e=>by rw [e,Nat.beq_refl] at hb;cases hb)];exact ⟨E',F',L',h1,h2⟩
 | goto l=>exact ⟨E',F',L',h1,h2⟩
 | ret=>exact ⟨E',F',L',h1,h2⟩
 | panic ch=>exact h2.elim
 | outgrown=>exact h2.elim
theorem aw_seqr {x y:Code} {Q:Exit→AF→List AB→Prop} {F:AF} {L:List AB} (h:AW P n k0 x (fun e F L=>match e with
   | .normal=>AW P n k0 y Q F L
   | .ret=>Q .ret F L
   | _=>False) F L):AW P n k0 (.seq x y) Q F L:=by
 intro c E a w hc hcn hk hs
 refine wp_seq (wp_mono (h c E a w hc hcn hk hs) ?_)
 rintro e a' w' ⟨E',F',L',h1,h2⟩
 cases e with
 | normal=>exact h2 c E' a' w' hc hcn hk h1
 | ret=>exact ⟨E',F',L',h1,h2⟩
 | exit id'=>exact h2.elim
 | goto l=>exact h2.elim
 | panic ch=>exact h2.elim
 | outgrown=>exact h2.elim
end
end Go.Ab
