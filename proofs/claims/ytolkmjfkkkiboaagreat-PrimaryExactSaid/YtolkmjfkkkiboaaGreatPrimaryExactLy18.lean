/- PrimaryExact: abstract runs. -/
import Derived.Test.YtolkmjfkkkiboaaGreatPrimaryExactLy17
set_option linter.all false
namespace Go.Ab
noncomputable section
open Go.RowKit
section
variable (P:Program) (tt:TypeId->Option TI) (fo:FuncId->Bool) (n:Nat)
def KK (o:Oper) (F:AF) (L:List AB) (v:AV):Prop:=∀ K:AV->List AB->Prop,K v L->FU P tt fo o F L K
abbrev PD:=List (Nat×AV)
noncomputable def tq (l:List Oper):Nat->Option Oper :=
 List.rec (motive:=λ_=>Nat->Option Oper) (λ_=>none) (λo _ ih j=>Nat.rec (motive:=λ_=>Option Oper) (some o) (λm _=>ih m) j) l
theorem Bd (i:Nat):tq [] i=none:=rfl
theorem LC (o:Oper) (r:List Oper):tq (o :: r) 0=some o:=rfl
theorem LD (o:Oper) (r:List Oper) (i:Nat):tq (o :: r) (i+1)=tq r i:=rfl
noncomputable def gk (l:List (List Nat)):Nat->List Nat :=
 List.rec (motive:=λ_=>Nat->List Nat) (λ_=>[]) (λo _ ih j=>Nat.rec (motive:=λ_=>List Nat) o (λm _=>ih m) j) l
theorem Be (i:Nat):gk [] i=[]:=rfl
theorem LF (o:List Nat) (r:List (List Nat)):gk (o :: r) 0=o:=rfl
theorem LG (o:List Nat) (r:List (List Nat)) (i:Nat):gk (o :: r) (i+1)=gk r i:=rfl
def qA (o:Oper):Bool :=
 match o.op with
 | .binOp _ _ _ y _ => !(sF y)
 | .move _ | .pick .. | .nilCheck _ | .unOp .. | .field .. | .index .. | .extract .. | .build .. | .buildSlice .. => true
 | _=>false
def mT (full:List Oper) (o:Oper) (F:AF) (L:List AB) (v:AV):Prop :=
 match o.guard with
 | none=>KK P tt fo o F L v
 | some (j,want)=>match rF full j with
   | some s=>match bt F s with
     | .d (.bool t)=>match t,want with
       | true,true=>KK P tt fo o F L v
       | false,false=>KK P tt fo o F L v
       | true,false=>v = .tup []
       | false,true=>v = .tup []
     | .tup cs=>match cs with
       | []=>v = .tup []
       | _=>False
     | _=>False
   | none=>False
def rH (full:List Oper) (o:Oper) (F:AF) (run skip:AF->Prop):Prop :=
 match o.guard with
 | none=>run F
 | some (j,want)=>match rF full j with
   | some s=>match bt F s with
     | .d (.bool t)=>match want with
       | true=>c_ t (run ((s,.d (.bool true)) :: F)) (skip ((s,.d (.bool false)) :: F))
       | false=>c_ t (skip ((s,.d (.bool true)) :: F)) (run ((s,.d (.bool false)) :: F))
     | .tup cs=>match cs with
       | []=>skip F
       | _=>False
     | _=>False
   | none=>False
def rI (full:List Oper):List Nat->AF->List AB->PD->(AF->PD->Prop)->Prop
 | [],F,_,D,K=>K F D
 | i :: r,F,L,D,K=>match tq full i with
   | some o=>bif jM n o.dst then rH full o F (λF=>∃ v,KK P tt fo o F L v/\rI full r (cu F o.dst v) L ((i,v) :: D) K) (λF=>rI full r (cu F o.dst (.tup [])) L ((i,.tup []) :: D) K) else False
   | none=>False
def rJ (full:List Oper) (lf:List Nat) (F:AF) (L:List AB):PD->(PD->Prop)->Prop
 | [],K=>K []
 | (i,v) :: r,K=>bif iy i lf then rJ full lf F L r K else
   match tq full i with
   | some o=>bif qA o then rJ full lf F L r λD=>K ((i,v) :: D) else mT P tt fo full o F L v/\rJ full lf F L r λD=>K ((i,v) :: D)
   | none=>False
def rK (full:List Oper) (A:List (List Nat)):List (Nat×List Nat)->AF->List AB->PD->(AF->List AB->Prop)->Prop
 | [],F,L,_,K=>K F L
 | (e,rs) :: rest,F,L,D,K=>match tq full e with
   | some o=>bif jM n o.dst then rH full o F
      (λF=>mP P tt fo o F L λv L'=>rJ P tt fo full (gk A e) (cu F o.dst v) L' D λD=>rI P tt fo n full rs (cu F o.dst v) L' D λF D=>rK full A rest F L' D K)
      (λF=>rJ P tt fo full (gk A e) (cu F o.dst (.tup [])) L D λD=>rI P tt fo n full rs (cu F o.dst (.tup [])) L D λF D=>rK full A rest F L D K) else False
   | none=>False
end
structure a_ where
 lf:List (List Nat)
 r0:List Nat
 ph:List (Nat×List Nat)
def later:List (Nat×List Nat)->List Nat
 | []=>[]
 | (e,rs) :: r=>e :: (rs++later r)
def nz (o:Oper):List Nat:=(o.after.toList.filter (Region.binds .any)).map (·.on)
def allI {α:Type} (f:Nat->α->Bool):Nat->List α->Bool
 | _,[]=>true
 | i,x :: r=>f i x&&allI f (i+1) r
theorem mf {α:Type} {f:Nat->α->Bool}:∀ {k:Nat} {l:List α},allI f k l=true->∀ (i:Nat) (x:α),l[i]? = some x->f (k+i) x=true
 | k,[],_,i,x,h=>by simp at h
 | k,y :: r,h,i,x,hx=>by
   simp only [allI,oB] at h
   cases i with
   | zero=>simp at hx;subst hx;exact h.1
   | succ i =>
     simp only [ue] at hx;have:=mf h.2 i x hx
     rwa [show k+1+i=k+(i+1) by omega] at this
def eqO:Option Nat->Option Nat->Bool
 | some a,some b=>Nat.beq a b
 | _,_=>false
def lg (full:List Oper) (o:Oper):List Nat :=
 (o.op.operands.toList.filterMap λx=>match x with | .tmp s=>some s|_=>none)++(match o.guard with
   | some (j,_)=>match rF full j with|some s=>[s]|none=>[]
   | none=>[])
def Z2 (full:List Oper) (A:List (List Nat)) (es:List Nat) (pre:List Nat) (j:Nat):Bool :=
 match tq full j with
 | some o=>(lg full o).all λs=>allI (λi oi => !(eqO oi.dst (some s))||(iy i pre&&iy i (gk A j))||(!(iy i pre) && !(Nat.beq i j)&&iy i es&&iy j (gk A i))) 0 full
 | none=>false
def xN (full:List Oper) (A:List (List Nat)) (es:List Nat):List Nat->List Nat->Bool
 | _,[]=>true
 | pre,j :: r=>Z2 full A es pre j&&xN full A es (j :: pre) r
def XB (full:List Oper) (A:List (List Nat)):Bool :=
 allI (λj l=>match tq full j with
  | some o=>l.all λi=>iy i (nz o)||(nz o).any λm=>iy i (gk A m)
  | none=>l.isEmpty) 0 A
def xO (A:List (List Nat)) (es:List Nat):Option Nat->List (Nat×List Nat)->Bool
 | _,[]=>true
 | p,(e,rs) :: r=>(match p with|some p=>iy p (gk A e)|none=>true)&&rs.all (λx=>iy e (gk A x) && !iy x es)&&xO A es (some e) r
def Il:List Oper->Bool
 | []=>true
 | o :: r=>(r.all λo' => !(eqO o.dst o'.dst))&&Il r
def vF (full:List Oper) (pl:a_):Bool :=
 let pi:=pl.r0++later pl.ph
 mM pi&&(Nat.beq pi.length full.length&&pi.all (λi=>Nat.blt i full.length))&&allI (λi _=>iy i pi) 0 full &&
 xN full pl.lf (pl.ph.map (·.1)) [] pi&&XB full pl.lf&&xO pl.lf (pl.ph.map (·.1)) none pl.ph&&pl.r0.all (λx => !iy x (pl.ph.map (·.1)))&&Il full &&
 allI (λj o=>(nz o).all λi=>Nat.blt i j) 0 full
end
end Go.Ab
