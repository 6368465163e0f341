/- NodeFormsCard: abstract runs. -/
import Derived.Test.YtgkhgapkfnkagaaGreatDoorNodeFormsCardLy21
set_option linter.unusedVariables false
set_option linter.unusedSimpArgs false
namespace Go.Ab
noncomputable section
open Go.RowKit
section
variable (P:Program) (tt:TypeId→Option TI) (fo:FuncId→Bool) (n:Nat)
noncomputable def aopsR (full:List Oper) (l:List Oper):AF→List AB→(AF→List AB→Prop)→Prop :=
 List.rec (motive:=fun _=>AF→List AB→(AF→List AB→Prop)→Prop) (fun F L K=>K F L)
  (fun o _ ih F L K =>
    bif dstOk n o.dst then
     match o.guard with
     | none=>aopK P tt fo o F L fun v L'=>ih (fput F o.dst v) L' K
     | some (j,want)=>match nthDst full j with
       | some s=>match fget F s with
         | .d (.bool t)=>match want with
           | true=>splitB t (aopK P tt fo o ((s,.d (.bool true)) :: F) L fun v L'=>ih (fput ((s,.d (.bool true)) :: F) o.dst v) L' K)
              (ih (fput ((s,.d (.bool false)) :: F) o.dst (.tup [])) L K)
           | false=>splitB t (ih (fput ((s,.d (.bool true)) :: F) o.dst (.tup [])) L K)
              (aopK P tt fo o ((s,.d (.bool false)) :: F) L fun v L'=>ih (fput ((s,.d (.bool false)) :: F) o.dst v) L' K)
         | .tup cs=>match cs with
           | []=>ih (fput F o.dst (.tup [])) L K
           | _=>False
         | _=>False
       | none=>False
    else False) l
theorem aopsR_eq (full:List Oper):∀ (l:List Oper) (F:AF) (L:List AB) (K:AF→List AB→Prop),aopsR P tt fo n full l F L K=aopsK P tt fo n full l F L K
 | [],F,L,K=>rfl
 | o :: r,F,L,K=>by
   have ih:=aopsR_eq full r
   have e:aopsR P tt fo n full r=aopsK P tt fo n full r:=by funext F L K;exact ih F L K
   unfold aopsR at e ⊢
   simp only [e,aopsK]
   rfl
noncomputable def acodeR (k0:Nat) (c:Code):(Exit→AF→List AB→Prop)→AF→List AB→Prop :=
 Code.rec (motive:=fun _=>(Exit→AF→List AB→Prop)→AF→List AB→Prop)
  (fun Q F L=>Q .normal F L)
  (fun id ops draw Q F L=>match draw with
    | false=>aopsR P tt fo n ops.toList ops.toList F L fun F L=>Q .normal F L
    | true=>ADraw P n k0 id ops (fun F L=>Q .normal F L) F L)
  (fun x y ihx ihy Q F L=>match x with
    | .label _=>AW P n k0 y Q F L
    | _=>ihx (fun e F L=>match e with
      | .normal=>ihy Q F L
      | .exit id=>Q (.exit id) F L
      | .goto l=>Q (.goto l) F L
      | .ret=>Q .ret F L
      | _=>False) F L)
  (fun c _ _ ihx ihy Q F L=>condK F c (fun F=>ihx Q F L) (fun F=>ihy Q F L))
  (fun id _ ihx Q F L=>ihx (fun e F L=>match e with
    | .normal=>Q .normal F L
    | .exit id'=>bif Nat.beq id' id then Q .normal F L else Q (.exit id') F L
    | .goto l=>Q (.goto l) F L
    | .ret=>Q .ret F L
    | _=>False) F L)
  (fun x _ Q F L=>AW P n k0 (.loop x) Q F L)
  (fun _ _ _ _ _ _ _ _ _=>False)
  (fun id Q F L=>Q (.exit id) F L)
  (fun x _ Q F L=>AW P n k0 (.scope x) Q F L)
  (fun _ Q F L=>Q .normal F L)
  (fun l Q F L=>Q (.goto l) F L)
  (fun Q F L=>Q .ret F L)
  (fun _ _ _ _=>False) c
theorem acodeR_eq (k0:Nat):∀ (c:Code) (Q:Exit→AF→List AB→Prop) (F:AF) (L:List AB),acodeR P tt fo n k0 c Q F L=acodeK P tt fo n k0 c Q F L
 | .skip,Q,F,L=>rfl
 | .region id ops draw,Q,F,L=>by
   cases draw with
   | false =>
     have e:=aopsR_eq P tt fo n ops.toList ops.toList F L (fun F L=>Q .normal F L)
     exact e
   | true=>rfl
 | .seq x y,Q,F,L=>by
   have ex:acodeR P tt fo n k0 x=acodeK P tt fo n k0 x:=by funext Q F L;exact acodeR_eq k0 x Q F L
   have ey:acodeR P tt fo n k0 y=acodeK P tt fo n k0 y:=by funext Q F L;exact acodeR_eq k0 y Q F L
   have e1:=congrFun (congrFun (congrFun ex (fun e F L=>match e with
     | .normal=>acodeR P tt fo n k0 y Q F L
     | .exit id=>Q (.exit id) F L
     | .goto l=>Q (.goto l) F L
     | .ret=>Q .ret F L
     | _=>False)) F) L
   have e2:acodeK P tt fo n k0 x (fun e F L=>match e with
     | .normal=>acodeR P tt fo n k0 y Q F L
     | .exit id=>Q (.exit id) F L
     | .goto l=>Q (.goto l) F L
     | .ret=>Q .ret F L
     | _=>False) F L=acodeK P tt fo n k0 x (fun e F L=>match e with
     | .normal=>acodeK P tt fo n k0 y Q F L
     | .exit id=>Q (.exit id) F L
     | .goto l=>Q (.goto l) F L
     | .ret=>Q .ret F L
     | _=>False) F L:=by rw [ey]
   clear ex ey
   cases x<;>first|rfl|exact e1.trans e2
 | .cond c x y,Q,F,L=>by
   have ex:acodeR P tt fo n k0 x=acodeK P tt fo n k0 x:=by funext Q F L;exact acodeR_eq k0 x Q F L
   have ey:acodeR P tt fo n k0 y=acodeK P tt fo n k0 y:=by funext Q F L;exact acodeR_eq k0 y Q F L
   have e1:acodeR P tt fo n k0 (.cond c x y) Q F L=condK F c (fun F=>acodeR P tt fo n k0 x Q F L) (fun F=>acodeR P tt fo n k0 y Q F L):=rfl
   rw [e1,ex,ey]
   rfl
 | .block id x,Q,F,L=>acodeR_eq k0 x _ F L
 | .loop x,Q,F,L=>rfl
 | .rangeFunc _ _ _ _,Q,F,L=>rfl
 | .exit id,Q,F,L=>rfl
 | .scope x,Q,F,L=>rfl
 | .label _,Q,F,L=>rfl
 | .goto l,Q,F,L=>rfl
 | .ret,Q,F,L=>rfl
 | .refuse _,Q,F,L=>rfl
end
end
end Go.Ab
