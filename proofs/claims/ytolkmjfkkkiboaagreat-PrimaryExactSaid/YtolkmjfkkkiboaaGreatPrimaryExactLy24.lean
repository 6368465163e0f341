/- PrimaryExact: abstract runs. -/
import Derived.Test.YtolkmjfkkkiboaaGreatPrimaryExactLy23
set_option linter.all false
namespace Go.Ab
noncomputable section
open Go.RowKit
section
variable (P:Program) (tt:TypeId->Option TI) (fo:FuncId->Bool) (n:Nat)
noncomputable def N9 (full:List Oper) (l:List Oper):AF->List AB->(AF->List AB->Prop)->Prop :=
 List.rec (motive:=λ_=>AF->List AB->(AF->List AB->Prop)->Prop) (λF L K=>K F L)
  (λo _ ih F L K =>
    bif jM n o.dst then
     match o.guard with
     | none=>mP P tt fo o F L λv L'=>ih (cu F o.dst v) L' K
     | some (j,want)=>match rF full j with
       | some s=>match bt F s with
         | .d (.bool t)=>match want with
           | true=>c_ t (mP P tt fo o ((s,.d (.bool true)) :: F) L λv L'=>ih (cu ((s,.d (.bool true)) :: F) o.dst v) L' K)
              (ih (cu ((s,.d (.bool false)) :: F) o.dst (.tup [])) L K)
           | false=>c_ t (ih (cu ((s,.d (.bool true)) :: F) o.dst (.tup [])) L K)
              (mP P tt fo o ((s,.d (.bool false)) :: F) L λv L'=>ih (cu ((s,.d (.bool false)) :: F) o.dst v) L' K)
         | .tup cs=>match cs with
           | []=>ih (cu F o.dst (.tup [])) L K
           | _=>False
         | _=>False
       | none=>False
    else False) l
theorem Is (full:List Oper):∀ (l:List Oper) (F:AF) (L:List AB) (K:AF->List AB->Prop),N9 P tt fo n full l F L K=nI P tt fo n full l F L K
 | [],F,L,K=>rfl
 | o :: r,F,L,K=>by
   have ih:=Is full r;have e:N9 P tt fo n full r=nI P tt fo n full r:=by funext F L K;exact ih F L K
   unfold N9 at e ⊢;simp only [e,nI];rfl
noncomputable def dI (k0:Nat) (c:Code):(Exit->AF->List AB->Prop)->AF->List AB->Prop :=
 Code.rec (motive:=λ_=>(Exit->AF->List AB->Prop)->AF->List AB->Prop)
  (λQ F L=>Q .normal F L)
  (λid ops draw Q F L=>match draw with
    | false=>N9 P tt fo n ops.toList ops.toList F L λF L=>Q .normal F L
    | true=>cw P n k0 id ops (λF L=>Q .normal F L) F L)
  (λx y PI ihy Q F L=>match x with
    | .label _=>AW P n k0 y Q F L
    | _=>PI (λe F L=>match e with
      | .normal=>ihy Q F L
      | .exit id=>Q (.exit id) F L
      | .goto l=>Q (.goto l) F L
      | .ret=>Q .ret F L
      | _=>False) F L)
  (λc _ _ PI ihy Q F L=>A5 F c (λF=>PI Q F L) (λF=>ihy Q F L))
  (λid _ PI Q F L=>PI (λe F L=>match e with
    | .normal=>Q .normal F L
    | .exit Hd=>bif Nat.beq Hd id then Q .normal F L else Q (.exit Hd) F L
    | .goto l=>Q (.goto l) F L
    | .ret=>Q .ret F L
    | _=>False) F L)
  (λx _ Q F L=>AW P n k0 (.loop x) Q F L)
  (λ_ _ _ _ _ _ _ _ _=>False)
  (λid Q F L=>Q (.exit id) F L)
  (λx _ Q F L=>AW P n k0 (.scope x) Q F L)
  (λ_ Q F L=>Q .normal F L)
  (λl Q F L=>Q (.goto l) F L)
  (λQ F L=>Q .ret F L)
  (λ_ _ _ _=>False) c
theorem eW (k0:Nat):∀ (c:Code) (Q:Exit->AF->List AB->Prop) (F:AF) (L:List AB),dI P tt fo n k0 c Q F L=dY P tt fo n k0 c Q F L
 | .skip,Q,F,L=>rfl
 | .region id ops draw,Q,F,L=>by
   cases draw with
   | false =>
     have e:=Is P tt fo n ops.toList ops.toList F L (λF L=>Q .normal F L);exact e
   | true=>rfl
 | .seq x y,Q,F,L=>by
   have ex:dI P tt fo n k0 x=dY P tt fo n k0 x:=by funext Q F L;exact eW k0 x Q F L
   have ey:dI P tt fo n k0 y=dY P tt fo n k0 y:=by funext Q F L;exact eW k0 y Q F L
   have e1:=congrFun (congrFun (congrFun ex (λe F L=>match e with
     | .normal=>dI P tt fo n k0 y Q F L
     | .exit id=>Q (.exit id) F L
     | .goto l=>Q (.goto l) F L
     | .ret=>Q .ret F L
     | _=>False)) F) L
   have e2:dY P tt fo n k0 x (λe F L=>match e with
     | .normal=>dI P tt fo n k0 y Q F L
     | .exit id=>Q (.exit id) F L
     | .goto l=>Q (.goto l) F L
     | .ret=>Q .ret F L
     | _=>False) F L=dY P tt fo n k0 x (λe F L=>match e with
     | .normal=>dY P tt fo n k0 y Q F L
     | .exit id=>Q (.exit id) F L
     | .goto l=>Q (.goto l) F L
     | .ret=>Q .ret F L
     | _=>False) F L:=by rw [ey]
   clear ex ey
   cases x<;>first|rfl|exact e1.trans e2
 | .cond c x y,Q,F,L=>by
   have ex:dI P tt fo n k0 x=dY P tt fo n k0 x:=by funext Q F L;exact eW k0 x Q F L
   have ey:dI P tt fo n k0 y=dY P tt fo n k0 y:=by funext Q F L;exact eW k0 y Q F L
   have e1:dI P tt fo n k0 (.cond c x y) Q F L=A5 F c (λF=>dI P tt fo n k0 x Q F L) (λF=>dI P tt fo n k0 y Q F L):=rfl;rw [e1,ex,ey];rfl
 | .block id x,Q,F,L=>eW k0 x _ F L
 | .loop x,Q,F,L=>rfl
 | .rangeFunc _ _ _ _,Q,F,L=>rfl
 | .exit id,Q,F,L=>rfl
 | .scope x,Q,F,L=>rfl
 | .label _,Q,F,L=>rfl
 | .goto l,Q,F,L=>rfl
 | .ret,Q,F,L=>rfl
 | .refuse _,Q,F,L=>rfl
end
end
end Go.Ab
