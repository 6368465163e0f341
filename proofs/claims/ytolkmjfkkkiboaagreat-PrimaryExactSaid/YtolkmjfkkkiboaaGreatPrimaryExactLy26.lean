/- PrimaryExact: abstract runs. -/
import Derived.Test.YtolkmjfkkkiboaaGreatPrimaryExactLy25
set_option linter.all false
namespace Go.Ab
noncomputable section
open Go.RowKit
section
variable {P:Program} {tt:TypeId->Option TI} {fo:FuncId->Bool} {n k0:Nat} (ht:cp P tt) (hz:jL tt) (eZ:jx P fo)
include ht hz eZ
theorem afq {σ τ:Type} (st:σ->AF×List AB) (inv:σ->Prop) (mu:σ->Nat) (live:List Nat) (Z5:Nat) (N_:τ->AF×List AB) (C6:τ->Prop) (DU:List Nat) {x:Code} {Q:Exit->AF->List AB->Prop} {F:AF} {L:List AB}
  (start:jj k0 live F L λF' L'=>∃ s,F'=(st s).1/\L'=(st s).2/\inv s)
  (after:∀ s,C6 s->Q (.exit Z5) (N_ s).1 (N_ s).2)
  (round:∀ s,inv s->dI P tt fo n k0 x (λe F' L'=>match e with
    | .normal=>jj k0 live F' L' λA_ lB=>∃ s',A_=(st s').1/\lB=(st s').2/\inv s'/\mu s'<mu s
    | .exit id=>bif Nat.beq id Z5 then jj k0 DU F' L' λA_ lB=>∃ s',A_=(N_ s').1/\lB=(N_ s').2/\C6 s' else Q (.exit id) F' L'
    | .goto l=>Q (.goto l) F' L'
    | .ret=>Q .ret F' L'
    | _=>False) (st s).1 (st s).2):AW P n k0 (.loop x) Q F L:=by
 have h:AW P n k0 (.loop x) (λe F' L'=>match e with
   | .exit id=>bif Nat.beq id Z5 then jj k0 DU F' L' λA_ lB=>∃ s',A_=(N_ s').1/\lB=(N_ s').2/\C6 s' else Q (.exit id) F' L'
   | e=>Q e F' L') F L :=
  aH ht hz eZ st inv mu live start λs hs=>by
   have:=round s hs;have e:(λe F' L'=>match e with
    | .normal=>jj k0 live F' L' λA_ lB=>∃ s',A_=(st s').1/\lB=(st s').2/\inv s'/\mu s'<mu s
    | .exit id=>bif Nat.beq id Z5 then jj k0 DU F' L' λA_ lB=>∃ s',A_=(N_ s').1/\lB=(N_ s').2/\C6 s' else Q (.exit id) F' L'
    | .goto l=>Q (.goto l) F' L'
    | .ret=>Q .ret F' L'
    | _=>False:Exit->AF->List AB->Prop)=(λe F' L'=>match e with
    | .normal=>jj k0 live F' L' λA_ lB=>∃ s',A_=(st s').1/\lB=(st s').2/\inv s'/\mu s'<mu s
    | .exit id=>(λe F' L'=>match e with
      | .exit id=>bif Nat.beq id Z5 then jj k0 DU F' L' λA_ lB=>∃ s',A_=(N_ s').1/\lB=(N_ s').2/\C6 s' else Q (.exit id) F' L'
      | e=>Q e F' L':Exit->AF->List AB->Prop) (.exit id) F' L'
    | .goto l=>(λe F' L'=>match e with
      | .exit id=>bif Nat.beq id Z5 then jj k0 DU F' L' λA_ lB=>∃ s',A_=(N_ s').1/\lB=(N_ s').2/\C6 s' else Q (.exit id) F' L'
      | e=>Q e F' L':Exit->AF->List AB->Prop) (.goto l) F' L'
    | .ret=>(λe F' L'=>match e with
      | .exit id=>bif Nat.beq id Z5 then jj k0 DU F' L' λA_ lB=>∃ s',A_=(N_ s').1/\lB=(N_ s').2/\C6 s' else Q (.exit id) F' L'
      | e=>Q e F' L':Exit->AF->List AB->Prop) .ret F' L'
    | _=>False):=by
    funext e F' L'
    cases e<;>rfl
   rw [e] at this;exact this
 intro c E a w hc dS hk hs;refine wp_mono (h c E a w hc dS hk hs) ?_;rintro e a' w' ⟨E',F',L',bP,hq⟩
 cases e with
 | exit id =>
   simp only at hq
   cases hb:Nat.beq id Z5 with
   | false=>rw [hb] at hq;exact ⟨E',F',L',bP,hq⟩
   | true =>
     rw [hb] at hq;have:=ie hb;subst this;obtain ⟨E2,F2,L2,⟨s',rfl,rfl,xe⟩,e_⟩:=rG hq hk bP;exact ⟨E2,_,_,e_,after s' xe⟩
 | _=>exact ⟨E',F',L',bP,hq⟩
theorem dw {σ ρ:Type} (st:σ->ρ->AF×List AB) (inv:σ->ρ->Prop) (mu:σ->ρ->Nat) (live:List Nat) {x:Code} {Q:Exit->AF->List AB->Prop} {F:AF} {L:List AB}
  (start:jj k0 live F L λF' L'=>∃ s t,F'=(st s t).1/\L'=(st s t).2/\inv s t)
  (round:∀ s t,inv s t->dI P tt fo n k0 x (λe F' L'=>match e with
    | .normal=>jj k0 live F' L' λA_ lB=>∃ s' t',A_=(st s' t').1/\lB=(st s' t').2/\inv s' t'/\mu s' t'<mu s t
    | .exit id=>Q (.exit id) F' L'
    | .goto l=>Q (.goto l) F' L'
    | .ret=>Q .ret F' L'
    | _=>False) (st s t).1 (st s t).2):AW P n k0 (.loop x) Q F L:=by
 have pr:∀ {p:σ->ρ->Prop},(∃ s t,p s t)=(∃ q:σ×ρ,p q.1 q.2):=λ{p}=>propext ⟨λ⟨s,t,h⟩=>⟨(s,t),h⟩,λ⟨q,h⟩=>⟨q.1,q.2,h⟩⟩;simp only [pr] at start round;exact aH ht hz eZ (λq:σ×ρ=>st q.1 q.2) (λq=>inv q.1 q.2) (λq=>mu q.1 q.2) live start λq hq=>round q.1 q.2 hq
end
section
variable {P:Program} {tt:TypeId->Option TI} {fo:FuncId->Bool} {n k0:Nat} (ht:cp P tt) (hz:jL tt) (eZ:jx P fo)
include ht hz eZ
theorem nK (hm:P.follows .mixedOrders=true) {id:Nat} {ops:Array Oper} (pl:a_) (fT:vF ops.toList pl=true) {K:AF->List AB->Prop} {F:AF} {L:List AB}
  (h:nJ P tt fo n ops.toList pl.r0 F L [] λF D=>rN P tt fo n ops.toList pl.lf pl.ph F L D K):cw P n k0 id ops K F L:=by
 simp only [oS,rO] at h;exact TH ht hz eZ hm _ fT h
end
attribute [simp] gV
@[simp] theorem ahx (a b:List UInt8):oa (a++b)=oa a++oa b:=RH ..
@[simp] theorem ahy:oa []=[]:=rfl
section
variable {P:Program} {tt:TypeId->Option TI} {fo:FuncId->Bool}
theorem eT {full:List Oper} {o:Oper} {F:AF} {L:List AB} {v:AV} {B:Prop} (h1:mT P tt fo full o F L v) (h2:B):mT P tt fo full o F L v/\B:=⟨h1,h2⟩
theorem aC {o:Oper} {F:AF} {L:List AB} {v:AV} {B:AV->Prop} (h1:KK P tt fo o F L v) (h2:B v):∃ v,KK P tt fo o F L v/\B v:=⟨v,h1,h2⟩
end
theorem Bo {t:Bool} {A B:Prop} (h1:t=true->A) (h2:t=false->B):c_.match_1 (λ_=>Prop) (t) (λ_=>A) (λ_=>B):=by cases t;exact h2 rfl;exact h1 rfl
theorem iA {p:Prop} [Decidable p] {A B:Prop} (h1:p->A) (h2:¬p->B):c_.match_1 (λ_=>Prop) (decide p) (λ_=>A) (λ_=>B):=Bo (λh=>h1 (gQ h)) (λh=>h2 (Wz h))
theorem Z6 {a b:Int} {A B:Prop} (h1:a=b->A) (h2:a≠b->B):c_.match_1 (λ_=>Prop) (a == b) (λ_=>A) (λ_=>B):=Bo (λh=>h1 (by simpa using h)) (λh=>h2 (by simpa using h))
theorem Z7 {a b:Int} {A B:Prop} (h1:a≠b->A) (h2:a=b->B):c_.match_1 (λ_=>Prop) (a != b) (λ_=>A) (λ_=>B):=Bo (λh=>h1 (by simpa using h)) (λh=>h2 (by simpa using h))
theorem TJ {t:Bool} {A B:Prop} (h1:t=false->A) (h2:t=true->B):c_.match_1 (λ_=>Prop) (!t) (λ_=>A) (λ_=>B):=by cases t;exact h1 rfl;exact h2 rfl
theorem eU {e:Int} {B:Int->Prop} (he : -9223372036854775808<=e/\e<9223372036854775808) (h:B e):∀ z,z=IntKind.i64.wrap e->B z:=λz hz=>by rw [hz,yQ he];exact h
theorem iB {α:Type} {f:α->List DV} {l:List α} {z:Int} {k:Nat} {a:α} {B:List DV->Prop} (h:l[k]? = some a) (hz:z=(k:Int)) (hb:B (f a)):0<=z/\∃ cs,(l.map f)[z.toNat]? = some cs/\B cs :=
 ⟨oM,f a,by rw [hz,WA,CD,h];rfl,hb⟩
theorem bu {b c:Bool} (h:b=true↔c=true):AV.d (.bool b)=AV.d (.bool c):=by rw [zeC.2 h]
end
end Go.Ab
