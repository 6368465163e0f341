/- PrimaryExact: abstract runs. -/
import Derived.Test.YtolkmjfkkkiboaaGreatPrimaryExactLy24
set_option linter.all false
namespace Go.Ab
noncomputable section
open Go.RowKit
section
variable (P:Program) (tt:TypeId->Option TI) (fo:FuncId->Bool) (n:Nat)
noncomputable def nJ (full:List Oper) (l:List Nat):AF->List AB->PD->(AF->PD->Prop)->Prop :=
 List.rec (motive:=λ_=>AF->List AB->PD->(AF->PD->Prop)->Prop) (λF _ D K=>K F D)
  (λi _ ih F L D K=>match tq full i with
    | some o=>bif jM n o.dst then rH full o F (λF=>∃ v,KK P tt fo o F L v/\ih (cu F o.dst v) L ((i,v) :: D) K) (λF=>ih (cu F o.dst (.tup [])) L ((i,.tup []) :: D) K) else False
    | none=>False) l
theorem oS (full:List Oper):∀ (l:List Nat),nJ P tt fo n full l=rI P tt fo n full l
 | []=>rfl
 | i :: r=>by
   have ih:=oS full r;funext F L D K;have e:nJ P tt fo n full (i :: r) F L D K=(match tq full i with
    | some o=>bif jM n o.dst then rH full o F (λF=>∃ v,KK P tt fo o F L v/\nJ P tt fo n full r (cu F o.dst v) L ((i,v) :: D) K) (λF=>nJ P tt fo n full r (cu F o.dst (.tup [])) L ((i,.tup []) :: D) K) else False
    | none=>False):=rfl
   rw [e];simp only [ih,rI];rfl
noncomputable def qa (full:List Oper) (lf:List Nat) (F:AF) (L:List AB) (D:PD):(PD->Prop)->Prop :=
 List.rec (motive:=λ_=>(PD->Prop)->Prop) (λK=>K [])
  (λp _ ih K=>bif iy p.1 lf then ih K else
    match tq full p.1 with
    | some o=>bif qA o then ih λD=>K ((p.1,p.2) :: D) else mT P tt fo full o F L p.2/\ih λD=>K ((p.1,p.2) :: D)
    | none=>False) D
theorem DT (full:List Oper) (lf:List Nat) (F:AF) (L:List AB):∀ (D:PD),qa P tt fo full lf F L D=rJ P tt fo full lf F L D
 | []=>rfl
 | (i,v) :: r=>by
   have ih:=DT full lf F L r;funext K;have e:qa P tt fo full lf F L ((i,v) :: r) K=(bif iy i lf then qa P tt fo full lf F L r K else
    match tq full i with
    | some o=>bif qA o then qa P tt fo full lf F L r λD=>K ((i,v) :: D) else mT P tt fo full o F L v/\qa P tt fo full lf F L r λD=>K ((i,v) :: D)
    | none=>False):=rfl
   rw [e];simp only [ih,rJ];rfl
noncomputable def rN (full:List Oper) (A:List (List Nat)) (l:List (Nat×List Nat)):AF->List AB->PD->(AF->List AB->Prop)->Prop :=
 List.rec (motive:=λ_=>AF->List AB->PD->(AF->List AB->Prop)->Prop) (λF L _ K=>K F L)
  (λp _ ih F L D K=>match tq full p.1 with
    | some o=>bif jM n o.dst then rH full o F
       (λF=>mP P tt fo o F L λv L'=>qa P tt fo full (gk A p.1) (cu F o.dst v) L' D λD=>nJ P tt fo n full p.2 (cu F o.dst v) L' D λF D=>ih F L' D K)
       (λF=>qa P tt fo full (gk A p.1) (cu F o.dst (.tup [])) L D λD=>nJ P tt fo n full p.2 (cu F o.dst (.tup [])) L D λF D=>ih F L D K) else False
    | none=>False) l
theorem rO (full:List Oper) (A:List (List Nat)):∀ (l:List (Nat×List Nat)),rN P tt fo n full A l=rK P tt fo n full A l
 | []=>rfl
 | (e,rs) :: r=>by
   have ih:=rO full A r;funext F L D K;have e':rN P tt fo n full A ((e,rs) :: r) F L D K=(match tq full e with
    | some o=>bif jM n o.dst then rH full o F
       (λF=>mP P tt fo o F L λv L'=>qa P tt fo full (gk A e) (cu F o.dst v) L' D λD=>nJ P tt fo n full rs (cu F o.dst v) L' D λF D=>rN P tt fo n full A r F L' D K)
       (λF=>qa P tt fo full (gk A e) (cu F o.dst (.tup [])) L D λD=>nJ P tt fo n full rs (cu F o.dst (.tup [])) L D λF D=>rN P tt fo n full A r F L D K) else False
    | none=>False):=rfl
   rw [e'];simp only [ih,DT,oS,rK];rfl
end
section
variable {P:Program} {tt:TypeId->Option TI} {fo:FuncId->Bool} {n k0:Nat} (ht:cp P tt) (hz:jL tt) (eZ:jx P fo)
include ht hz eZ
theorem bH {code:Code} {Q:Exit->AF->List AB->Prop} {F:AF} {L:List AB} (h:dI P tt fo n k0 code Q F L):AW P n k0 code Q F L:=by
 rw [eW] at h;exact Ih ht hz eZ h
theorem cF {f:FuncId} {fn:Func} {code:Code} (hf:P.funcs[f]? = some fn) (hb:fn.body=some code) (hn:fn.ntmps=n) {rs:List ResultVar} (hr:fn.results.toList=rs)
  (ex:Bool) {cS:List AV} {cg:List AB} {post:AV->List AB->Prop} (hlen:Nat.ble cS.length n=true)
  (h:dI P tt fo n cg.length code (xL tt ex cg.length rs post) (oN cS 0) cg):ay P f cS cg post:=by
 rw [eW] at h;exact PR ht hz eZ hf hb hn hr ex hlen h
theorem aH {σ:Type} (st:σ->AF×List AB) (inv:σ->Prop) (mu:σ->Nat) (live:List Nat) {x:Code} {Q:Exit->AF->List AB->Prop} {F:AF} {L:List AB}
  (start:jj k0 live F L λF' L'=>∃ s,F'=(st s).1/\L'=(st s).2/\inv s)
  (round:∀ s,inv s->dI P tt fo n k0 x (λe F' L'=>match e with
    | .normal=>jj k0 live F' L' λA_ lB=>∃ s',A_=(st s').1/\lB=(st s').2/\inv s'/\mu s'<mu s
    | .exit id=>Q (.exit id) F' L'
    | .goto l=>Q (.goto l) F' L'
    | .ret=>Q .ret F' L'
    | _=>False) (st s).1 (st s).2):AW P n k0 (.loop x) Q F L :=
 Xw ht hz eZ st inv mu live start λs hs=>by
  have:=round s hs;rw [eW] at this;exact this
theorem mU {σ:Type} (st:σ->AF×List AB) (inv:Nat->σ->Prop) (mu:Nat->σ->Nat) {x:Code} {Q:Exit->AF->List AB->Prop} {F:AF} {L:List AB}
  (pass:∀ l rest,findLabel x l=some rest->∀ s,inv l s->dI P tt fo n k0 rest (mS n k0 st (λl' s'=>inv l' s'/\mu l' s'<mu l s) x Q) (st s).1 (st s).2)
  (start:(∀ l rest,findLabel x l=some (.seq .skip rest)->∀ s,inv l s->AW P n k0 rest (mS n k0 st inv x Q) (st s).1 (st s).2)->dI P tt fo n k0 x (mS n k0 st inv x Q) F L):AW P n k0 (.scope x) Q F L :=
 PT ht hz eZ st inv mu (λl rest hf s hi=>by
  have:=pass l rest hf s hi;rw [eW] at this;exact this) (λhp=>by
  have:=start hp;rw [eW] at this;exact this)
end
end
end Go.Ab
