/- NodeFormsCard: abstract runs. -/
import Derived.Test.YtgkhgapkfnkagaaGreatDoorNodeFormsCardLy17
set_option linter.unusedVariables false
set_option linter.unusedSimpArgs false
namespace Go.Ab
noncomputable section
open Go.RowKit
section
variable (P:Program) (tt:TypeId→Option TI) (fo:FuncId→Bool) (n:Nat)
def Det (o:Oper) (F:AF) (L:List AB) (v:AV):Prop:=∀ K:AV→List AB→Prop,K v L→dopK P tt fo o F L K
abbrev PD:=List (Nat×AV)
noncomputable def nthO (l:List Oper):Nat→Option Oper :=
 List.rec (motive:=fun _=>Nat→Option Oper) (fun _=>none) (fun o _ ih j=>Nat.rec (motive:=fun _=>Option Oper) (some o) (fun m _=>ih m) j) l
theorem nthO_nil (i:Nat):nthO [] i=none:=rfl
theorem nthO_z (o:Oper) (r:List Oper):nthO (o :: r) 0=some o:=rfl
theorem nthO_s (o:Oper) (r:List Oper) (i:Nat):nthO (o :: r) (i+1)=nthO r i:=rfl
noncomputable def nthL (l:List (List Nat)):Nat→List Nat :=
 List.rec (motive:=fun _=>Nat→List Nat) (fun _=>[]) (fun o _ ih j=>Nat.rec (motive:=fun _=>List Nat) o (fun m _=>ih m) j) l
theorem nthL_nil (i:Nat):nthL [] i=[]:=rfl
theorem nthL_z (o:List Nat) (r:List (List Nat)):nthL (o :: r) 0=o:=rfl
theorem nthL_s (o:List Nat) (r:List (List Nat)) (i:Nat):nthL (o :: r) (i+1)=nthL r i:=rfl
def lfree (o:Oper):Bool :=
 match o.op with
 | .binOp _ _ _ y _ => !(isNilSl y)
 | .move _ | .pick .. | .nilCheck _ | .unOp .. | .field .. | .index .. | .extract .. | .build .. | .buildSlice .. => true
 | _=>false
def gdet (full:List Oper) (o:Oper) (F:AF) (L:List AB) (v:AV):Prop :=
 match o.guard with
 | none=>Det P tt fo o F L v
 | some (j,want)=>match nthDst full j with
   | some s=>match fget F s with
     | .d (.bool t)=>match t,want with
       | true,true=>Det P tt fo o F L v
       | false,false=>Det P tt fo o F L v
       | true,false=>v = .tup []
       | false,true=>v = .tup []
     | .tup cs=>match cs with
       | []=>v = .tup []
       | _=>False
     | _=>False
   | none=>False
def guardK (full:List Oper) (o:Oper) (F:AF) (run skip:AF→Prop):Prop :=
 match o.guard with
 | none=>run F
 | some (j,want)=>match nthDst full j with
   | some s=>match fget F s with
     | .d (.bool t)=>match want with
       | true=>splitB t (run ((s,.d (.bool true)) :: F)) (skip ((s,.d (.bool false)) :: F))
       | false=>splitB t (skip ((s,.d (.bool true)) :: F)) (run ((s,.d (.bool false)) :: F))
     | .tup cs=>match cs with
       | []=>skip F
       | _=>False
     | _=>False
   | none=>False
def rOps (full:List Oper):List Nat→AF→List AB→PD→(AF→PD→Prop)→Prop
 | [],F,_,D,K=>K F D
 | i :: r,F,L,D,K=>match nthO full i with
   | some o=>bif dstOk n o.dst then guardK full o F (fun F=>∃ v,Det P tt fo o F L v∧rOps full r (fput F o.dst v) L ((i,v) :: D) K) (fun F=>rOps full r (fput F o.dst (.tup [])) L ((i,.tup []) :: D) K) else False
   | none=>False
def keepD (full:List Oper) (anc:List Nat) (F:AF) (L:List AB):PD→(PD→Prop)→Prop
 | [],K=>K []
 | (i,v) :: r,K=>bif memB i anc then keepD full anc F L r K else
   match nthO full i with
   | some o=>bif lfree o then keepD full anc F L r fun D=>K ((i,v) :: D) else gdet P tt fo full o F L v∧keepD full anc F L r fun D=>K ((i,v) :: D)
   | none=>False
def eOps (full:List Oper) (A:List (List Nat)):List (Nat×List Nat)→AF→List AB→PD→(AF→List AB→Prop)→Prop
 | [],F,L,_,K=>K F L
 | (e,rs) :: rest,F,L,D,K=>match nthO full e with
   | some o=>bif dstOk n o.dst then guardK full o F
      (fun F=>aopK P tt fo o F L fun v L'=>keepD P tt fo full (nthL A e) (fput F o.dst v) L' D fun D=>rOps P tt fo n full rs (fput F o.dst v) L' D fun F D=>eOps full A rest F L' D K)
      (fun F=>keepD P tt fo full (nthL A e) (fput F o.dst (.tup [])) L D fun D=>rOps P tt fo n full rs (fput F o.dst (.tup [])) L D fun F D=>eOps full A rest F L D K) else False
   | none=>False
end
structure Plan where
 anc:List (List Nat)
 r0:List Nat
 ph:List (Nat×List Nat)
def later:List (Nat×List Nat)→List Nat
 | []=>[]
 | (e,rs) :: r=>e :: (rs++later r)
def dirs (o:Oper):List Nat:=(o.after.toList.filter (Region.binds .any)).map (·.on)
def allI {α:Type} (f:Nat→α→Bool):Nat→List α→Bool
 | _,[]=>true
 | i,x :: r=>f i x&&allI f (i+1) r
theorem allI_ok {α:Type} {f:Nat→α→Bool}:∀ {k:Nat} {l:List α},allI f k l=true→∀ (i:Nat) (x:α),l[i]? = some x→f (k+i) x=true
 | k,[],_,i,x,h=>by simp at h
 | k,y :: r,h,i,x,hx=>by
   simp only [allI,Bool.and_eq_true] at h
   cases i with
   | zero=>simp at hx;subst hx;exact h.1
   | succ i =>
     simp only [List.getElem?_cons_succ] at hx
     have:=allI_ok h.2 i x hx
     rwa [show k+1+i=k+(i+1) by omega] at this
def eqO:Option Nat→Option Nat→Bool
 | some a,some b=>Nat.beq a b
 | _,_=>false
def lookS (full:List Oper) (o:Oper):List Nat :=
 (o.op.operands.toList.filterMap fun x=>match x with | .tmp s=>some s|_=>none)++(match o.guard with
   | some (j,_)=>match nthDst full j with|some s=>[s]|none=>[]
   | none=>[])
def lookB (full:List Oper) (A:List (List Nat)) (es:List Nat) (pre:List Nat) (j:Nat):Bool :=
 match nthO full j with
 | some o=>(lookS full o).all fun s=>allI (fun i oi => !(eqO oi.dst (some s))||(memB i pre&&memB i (nthL A j))||(!(memB i pre) && !(Nat.beq i j)&&memB i es&&memB j (nthL A i))) 0 full
 | none=>false
def looksB (full:List Oper) (A:List (List Nat)) (es:List Nat):List Nat→List Nat→Bool
 | _,[]=>true
 | pre,j :: r=>lookB full A es pre j&&looksB full A es (j :: pre) r
def ancB (full:List Oper) (A:List (List Nat)):Bool :=
 allI (fun j l=>match nthO full j with
  | some o=>l.all fun i=>memB i (dirs o)||(dirs o).any fun m=>memB i (nthL A m)
  | none=>l.isEmpty) 0 A
def chainB (A:List (List Nat)) (es:List Nat):Option Nat→List (Nat×List Nat)→Bool
 | _,[]=>true
 | p,(e,rs) :: r=>(match p with|some p=>memB p (nthL A e)|none=>true)&&rs.all (fun x=>memB e (nthL A x) && !memB x es)&&chainB A es (some e) r
def dstsB:List Oper→Bool
 | []=>true
 | o :: r=>(r.all fun o' => !(eqO o.dst o'.dst))&&dstsB r
def planB (full:List Oper) (pl:Plan):Bool :=
 let pi:=pl.r0++later pl.ph
 nodupB pi&&(Nat.beq pi.length full.length&&pi.all (fun i=>Nat.blt i full.length))&&allI (fun i _=>memB i pi) 0 full &&
 looksB full pl.anc (pl.ph.map (·.1)) [] pi&&ancB full pl.anc&&chainB pl.anc (pl.ph.map (·.1)) none pl.ph&&pl.r0.all (fun x => !memB x (pl.ph.map (·.1)))&&dstsB full &&
 allI (fun j o=>(dirs o).all fun i=>Nat.blt i j) 0 full
end
end Go.Ab
