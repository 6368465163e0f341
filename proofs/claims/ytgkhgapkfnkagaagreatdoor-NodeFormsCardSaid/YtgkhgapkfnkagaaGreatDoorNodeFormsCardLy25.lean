/- NodeFormsCard: abstract runs. -/
import Derived.Test.YtgkhgapkfnkagaaGreatDoorNodeFormsCardLy24
set_option linter.unusedVariables false
set_option linter.unusedSimpArgs false
namespace Go.Ab
noncomputable section
open Go.RowKit
section
variable (P:Program) (tt:TypeId→Option TI) (fo:FuncId→Bool) (n:Nat)
noncomputable def rOpsR (full:List Oper) (l:List Nat):AF→List AB→PD→(AF→PD→Prop)→Prop :=
 List.rec (motive:=fun _=>AF→List AB→PD→(AF→PD→Prop)→Prop) (fun F _ D K=>K F D)
  (fun i _ ih F L D K=>match nthO full i with
    | some o=>bif dstOk n o.dst then guardK full o F (fun F=>∃ v,Det P tt fo o F L v∧ih (fput F o.dst v) L ((i,v) :: D) K) (fun F=>ih (fput F o.dst (.tup [])) L ((i,.tup []) :: D) K) else False
    | none=>False) l
theorem rOpsR_eq (full:List Oper):∀ (l:List Nat),rOpsR P tt fo n full l=rOps P tt fo n full l
 | []=>rfl
 | i :: r=>by
   have ih:=rOpsR_eq full r
   funext F L D K
   have e:rOpsR P tt fo n full (i :: r) F L D K=(match nthO full i with
    | some o=>bif dstOk n o.dst then guardK full o F (fun F=>∃ v,Det P tt fo o F L v∧rOpsR P tt fo n full r (fput F o.dst v) L ((i,v) :: D) K) (fun F=>rOpsR P tt fo n full r (fput F o.dst (.tup [])) L ((i,.tup []) :: D) K) else False
    | none=>False):=rfl
   rw [e]
   simp only [ih,rOps]
   rfl
noncomputable def keepDR (full:List Oper) (anc:List Nat) (F:AF) (L:List AB) (D:PD):(PD→Prop)→Prop :=
 List.rec (motive:=fun _=>(PD→Prop)→Prop) (fun K=>K [])
  (fun p _ ih K=>bif memB p.1 anc then ih K else
    match nthO full p.1 with
    | some o=>bif lfree o then ih fun D=>K ((p.1,p.2) :: D) else gdet P tt fo full o F L p.2∧ih fun D=>K ((p.1,p.2) :: D)
    | none=>False) D
theorem keepDR_eq (full:List Oper) (anc:List Nat) (F:AF) (L:List AB):∀ (D:PD),keepDR P tt fo full anc F L D=keepD P tt fo full anc F L D
 | []=>rfl
 | (i,v) :: r=>by
   have ih:=keepDR_eq full anc F L r
   funext K
   have e:keepDR P tt fo full anc F L ((i,v) :: r) K=(bif memB i anc then keepDR P tt fo full anc F L r K else
    match nthO full i with
    | some o=>bif lfree o then keepDR P tt fo full anc F L r fun D=>K ((i,v) :: D) else gdet P tt fo full o F L v∧keepDR P tt fo full anc F L r fun D=>K ((i,v) :: D)
    | none=>False):=rfl
   rw [e]
   simp only [ih,keepD]
   rfl
noncomputable def eOpsR (full:List Oper) (A:List (List Nat)) (l:List (Nat×List Nat)):AF→List AB→PD→(AF→List AB→Prop)→Prop :=
 List.rec (motive:=fun _=>AF→List AB→PD→(AF→List AB→Prop)→Prop) (fun F L _ K=>K F L)
  (fun p _ ih F L D K=>match nthO full p.1 with
    | some o=>bif dstOk n o.dst then guardK full o F
       (fun F=>aopK P tt fo o F L fun v L'=>keepDR P tt fo full (nthL A p.1) (fput F o.dst v) L' D fun D=>rOpsR P tt fo n full p.2 (fput F o.dst v) L' D fun F D=>ih F L' D K)
       (fun F=>keepDR P tt fo full (nthL A p.1) (fput F o.dst (.tup [])) L D fun D=>rOpsR P tt fo n full p.2 (fput F o.dst (.tup [])) L D fun F D=>ih F L D K) else False
    | none=>False) l
theorem eOpsR_eq (full:List Oper) (A:List (List Nat)):∀ (l:List (Nat×List Nat)),eOpsR P tt fo n full A l=eOps P tt fo n full A l
 | []=>rfl
 | (e,rs) :: r=>by
   have ih:=eOpsR_eq full A r
   funext F L D K
   have e':eOpsR P tt fo n full A ((e,rs) :: r) F L D K=(match nthO full e with
    | some o=>bif dstOk n o.dst then guardK full o F
       (fun F=>aopK P tt fo o F L fun v L'=>keepDR P tt fo full (nthL A e) (fput F o.dst v) L' D fun D=>rOpsR P tt fo n full rs (fput F o.dst v) L' D fun F D=>eOpsR P tt fo n full A r F L' D K)
       (fun F=>keepDR P tt fo full (nthL A e) (fput F o.dst (.tup [])) L D fun D=>rOpsR P tt fo n full rs (fput F o.dst (.tup [])) L D fun F D=>eOpsR P tt fo n full A r F L D K) else False
    | none=>False):=rfl
   rw [e']
   simp only [ih,keepDR_eq,rOpsR_eq,eOps]
   rfl
end
section
variable {P:Program} {tt:TypeId→Option TI} {fo:FuncId→Bool} {n k0:Nat} (ht:TTok P tt) (hz:ZOok tt) (hfo:FOok P fo)
include ht hz hfo
theorem acalls_go {f:FuncId} {fn:Func} {code:Code} (hf:P.funcs[f]? = some fn) (hb:fn.body=some code) (hn:fn.ntmps=n) {rs:List ResultVar} (hr:fn.results.toList=rs)
  (ex:Bool) {avs:List AV} {Lin:List AB} {post:AV→List AB→Prop} (hlen:Nat.ble avs.length n=true)
  (h:acodeR P tt fo n Lin.length code (retK tt ex Lin.length rs post) (argF avs 0) Lin):ACalls P f avs Lin post:=by
 rw [acodeR_eq] at h;exact acalls_of ht hz hfo hf hb hn hr ex hlen h
theorem loop_go {σ:Type} (st:σ→AF×List AB) (inv:σ→Prop) (mu:σ→Nat) (live:List Nat) {x:Code} {Q:Exit→AF→List AB→Prop} {F:AF} {L:List AB}
  (start:normK k0 live F L fun F' L'=>∃ s,F'=(st s).1∧L'=(st s).2∧inv s)
  (round:∀ s,inv s→acodeR P tt fo n k0 x (fun e F' L'=>match e with
    | .normal=>normK k0 live F' L' fun F'' L''=>∃ s',F''=(st s').1∧L''=(st s').2∧inv s'∧mu s'<mu s
    | .exit id=>Q (.exit id) F' L'
    | .goto l=>Q (.goto l) F' L'
    | .ret=>Q .ret F' L'
    | _=>False) (st s).1 (st s).2):AW P n k0 (.loop x) Q F L :=
 aw_loop ht hz hfo st inv mu live start fun s hs=>by
  have:=round s hs
  rw [acodeR_eq] at this
  exact this
end
end
end Go.Ab
