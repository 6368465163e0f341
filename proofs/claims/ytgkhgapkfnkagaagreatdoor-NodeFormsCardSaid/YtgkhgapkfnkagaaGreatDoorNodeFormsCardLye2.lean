/- NodeFormsCard: abstract runs. -/
import Derived.Test.YtgkhgapkfnkagaaGreatDoorNodeFormsCardLye1
set_option linter.unusedVariables false
set_option linter.unusedSimpArgs false
namespace Go.Ab
noncomputable section
open Go.RowKit
mutual
def inA (ρ:Nat→Nat):AV→AV
 | .d x => .d x
 | .arr i => .arr i
 | .ptr i o => .ptr i o
 | .ap i j o => .ap i j o
 | .im cs o => .im cs o
 | .map i => .map i
 | .mp i b o => .mp i (ρ b) o
 | .agg cs => .agg (inAs ρ cs)
 | .tup cs => .tup (inAs ρ cs)
 | .fn f cs => .fn f (inAs ρ cs)
 | .sub i n => .sub i n
 | .isl i x => .isl i x
def inAs (ρ:Nat→Nat):List AV→List AV
 | []=>[]
 | x :: r=>inA ρ x :: inAs ρ r
end
theorem inAs_map (ρ:Nat→Nat):∀ l:List AV,inAs ρ l=l.map (inA ρ)
 | []=>rfl
 | x :: r=>by rw [inAs,inAs_map ρ r];rfl
theorem inAs_len (ρ:Nat→Nat) (l:List AV):(inAs ρ l).length=l.length:=by rw [inAs_map,List.length_map]
theorem inAs_at {ρ:Nat→Nat} {l:List AV} {n:Nat} {c:AV} (h:l[n]? = some c):(inAs ρ l)[n]? = some (inA ρ c):=by rw [inAs_map,List.getElem?_map,h];rfl
def inM (ρ:Nat→Nat):MV→MV
 | .v x => .v x
 | .box b cs => .box (ρ b) cs
def inE (ρ:Nat→Nat) (es:List (KV×MV)):List (KV×MV):=es.map fun p=>(p.1,inM ρ p.2)
def inB (ρ:Nat→Nat):AB→AB
 | .cells cs => .cells (inAs ρ cs)
 | .map es => .map (inE ρ es)
 | .pool b cs => .pool (ρ b) cs
 | ab=>ab
def inL (ρ:Nat→Nat) (L:List AB):List AB:=L.map (inB ρ)
theorem inL_len (ρ:Nat→Nat) (L:List AB):(inL ρ L).length=L.length:=List.length_map ..
theorem inL_at {ρ:Nat→Nat} {L:List AB} {n:Nat} {c:AB} (h:L[n]? = some c):(inL ρ L)[n]? = some (inB ρ c):=by unfold inL;rw [List.getElem?_map,h];rfl
theorem inL_set (ρ:Nat→Nat) (L:List AB) (n:Nat) (c:AB):inL ρ (L.set n c)=(inL ρ L).set n (inB ρ c):=by unfold inL;rw [List.map_set]
theorem inL_app (ρ:Nat→Nat) (L M:List AB):inL ρ (L++M)=inL ρ L++inL ρ M:=List.map_append ..
theorem inAs_d (ρ:Nat→Nat):∀ l:List DV,inAs ρ (l.map AV.d)=l.map AV.d
 | []=>rfl
 | x :: r=>by
   show inA ρ (.d x) :: inAs ρ (r.map AV.d)=_
   rw [inAs_d ρ r];rfl
theorem inA_avOf (ρ:Nat→Nat) (v:Value):inA ρ (avOf v)=avOf v:=by
 unfold avOf
 split
 ·rename_i cs
  cases cs.toList.all oneB with
  | false=>rfl
  | true =>
    show AV.agg (inAs ρ _)=_
    rw [inAs_d];rfl
 ·rfl
 ·rfl
def inH (ρ:Nat→Nat) (L:Hp):List AB:=inL ρ (toL L)
theorem inH_len (ρ:Nat→Nat) (L:Hp):(inH ρ L).length=hN L:=by unfold inH;rw [inL_len,toL_len];rfl
theorem inH_at {ρ:Nat→Nat} {L:Hp} {j:Nat} {c:AB} (h:hG L j=some c):(inH ρ L)[j]? = some (inB ρ c):=inL_at (by rw [toL_at];exact h)
theorem inH_lt {ρ:Nat→Nat} {L:Hp} {j:Nat} {c:AB} (h:hG L j=some c):j<(inH ρ L).length:=(List.getElem?_eq_some_iff.1 (inH_at (ρ:=ρ) h)).1
theorem inH_set (ρ:Nat→Nat) (L:Hp) (j:Nat) (c:AB):inH ρ (hS L j c)=(inH ρ L).set j (inB ρ c):=by unfold inH;rw [toL_set,inL_set]
theorem inH_psh (ρ:Nat→Nat) (L:Hp) (c:AB):inH ρ (psh L c)=inH ρ L++[inB ρ c]:=by unfold inH;rw [toL_psh,inL_app];rfl
def Ag (ρ:Nat→Nat) (T:Fr) (F:AF):Prop:=∀ s,fget F s=inA ρ (tG T s)
def eT (T:Fr) (x:Operand):AV :=
 match x with
 | .tmp t=>tG T t
 | .const v=>avOf v
 | .func f => .fn f []
 | .global _ => .d .any
theorem eT_ok {ρ:Nat→Nat} {T:Fr} {F:AF} (h:Ag ρ T F) (x:Operand):ev F x=inA ρ (eT T x):=by
 cases x with
 | tmp t=>exact h t
 | const v=>exact (inA_avOf ρ v).symm
 | func f=>rfl
 | global g=>rfl
theorem Ag.put {ρ:Nat→Nat} {T:Fr} {F:AF} (h:Ag ρ T F) (d:Option Nat) (v:AV):Ag ρ (tP T d v) (fput F d (inA ρ v)):=by
 cases d with
 | none=>exact h
 | some d =>
   intro s
   show fget ((d,inA ρ v) :: F) s=inA ρ (trG (.d .any) (pathOf s) (trP (.d .any) v (pathOf d) T))
   rw [fget_cons]
   by_cases hs:d=s
   ·subst hs
    rw [show Nat.beq d d=true by simp,trG_same];rfl
   ·have hb:Nat.beq d s=false:=by
     cases hc:Nat.beq d s with
     | false=>rfl
     | true=>exact absurd (Nat.eq_of_beq_eq_true hc) hs
    rw [hb,trG_other _ v _ _ _ (fun e=>hs (pathOf_inj e))]
    exact h s
def fcN {β:Type} (n:Nat) (K:Nat→β):β:=Nat.rec (motive:=fun _=>β) (K 0) (fun m _=>K (Nat.succ m)) n
theorem fcN_eq {β:Type} (n:Nat) (K:Nat→β):fcN n K=K n:=by cases n<;>rfl
def fcZ {β:Type} (z:Int) (K:Int→β):β:=Int.rec (motive:=fun _=>β) (fun n=>fcN n fun n=>K (.ofNat n)) (fun n=>fcN n fun n=>K (.negSucc n)) z
theorem fcZ_eq {β:Type} (z:Int) (K:Int→β):fcZ z K=K z:=by
 cases z with
 | ofNat n=>exact fcN_eq n fun n=>K (.ofNat n)
 | negSucc n=>exact fcN_eq n fun n=>K (.negSucc n)
def fcB {β:Type} (b:Bool) (K:Bool→β):β:=Bool.rec (motive:=fun _=>β) (K false) (K true) b
theorem fcB_eq {β:Type} (b:Bool) (K:Bool→β):fcB b K=K b:=by cases b<;>rfl
def fcA {β:Type} (x:AV) (K:AV→β):β :=
 match x with
 | .d y=>match y with
   | .int k z=>fcZ z fun z=>K (.d (.int k z))
   | .bool b=>fcB b fun b=>K (.d (.bool b))
   | .sl n xs=>K (.d (.sl n xs))
   | .str s=>K (.d (.str s))
   | .flt k b=>fcN b fun b=>K (.d (.flt k b))
   | .cplx k a b=>fcN a fun a=>fcN b fun b=>K (.d (.cplx k a b))
   | y=>K (.d y)
 | .arr i=>fcN i fun i=>K (.arr i)
 | .ptr i o=>fcN i fun i=>fcN o fun o=>K (.ptr i o)
 | .ap i j o=>fcN i fun i=>fcN j fun j=>fcN o fun o=>K (.ap i j o)
 | .map i=>fcN i fun i=>K (.map i)
 | .agg cs=>K (.agg cs)
 | .tup cs=>K (.tup cs)
 | x=>K x
theorem fcA_eq {β:Type} (x:AV) (K:AV→β):fcA x K=K x:=by
 cases x with
 | d y =>
   cases y with
   | int k z=>exact fcZ_eq z fun z=>K (.d (.int k z))
   | bool b=>exact fcB_eq b fun b=>K (.d (.bool b))
   | flt k b=>exact fcN_eq b fun b=>K (.d (.flt k b))
   | cplx k a b=>exact (fcN_eq a fun a=>fcN b fun b=>K (.d (.cplx k a b))).trans (fcN_eq b fun b=>K (.d (.cplx k a b)))
   | _=>rfl
 | arr i=>exact fcN_eq i fun i=>K (.arr i)
 | ptr i o=>exact (fcN_eq i fun i=>fcN o fun o=>K (.ptr i o)).trans (fcN_eq o fun o=>K (.ptr i o))
 | ap i j o=>exact (fcN_eq i fun i=>fcN j fun j=>fcN o fun o=>K (.ap i j o)).trans ((fcN_eq j fun j=>fcN o fun o=>K (.ap i j o)).trans (fcN_eq o fun o=>K (.ap i j o)))
 | map i=>exact fcN_eq i fun i=>K (.map i)
 | _=>rfl
def zeq (a b:Int):Bool :=
 match a,b with
 | .ofNat m,.ofNat n=>Nat.beq m n
 | .negSucc m,.negSucc n=>Nat.beq m n
 | _,_=>false
theorem zeq_eq (a b:Int):zeq a b=(a == b):=by
 rw [Bool.eq_iff_iff]
 simp only [beq_iff_eq]
 match a,b with
 | .ofNat m,.ofNat n =>
   show Nat.beq m n=true↔_
   rw [Nat.beq_eq]
   exact ⟨fun h=>by rw [h],fun h=>by injection h⟩
 | .negSucc m,.negSucc n =>
   show Nat.beq m n=true↔_
   rw [Nat.beq_eq]
   exact ⟨fun h=>by rw [h],fun h=>by injection h⟩
 | .negSucc m,.ofNat n=>exact ⟨fun h=>(by cases h),fun h=>(by cases h)⟩
 | .ofNat m,.negSucc n=>exact ⟨fun h=>(by cases h),fun h=>(by cases h)⟩
def zlt (a b:Int):Bool :=
 match a,b with
 | .ofNat m,.ofNat n=>Nat.blt m n
 | .negSucc m,.negSucc n=>Nat.blt n m
 | .negSucc _,.ofNat _=>true
 | .ofNat _,.negSucc _=>false
theorem blt_iff (m n:Nat):Nat.blt m n=true↔m<n:=by simp [Nat.blt,Nat.ble_eq];omega
theorem zlt_eq (a b:Int):zlt a b=decide (a<b):=by
 rw [Bool.eq_iff_iff,decide_eq_true_iff]
 match a,b with
 | .ofNat m,.ofNat n =>
   show Nat.blt m n=true↔(Int.ofNat m:Int)<Int.ofNat n
   rw [blt_iff]
   exact Int.ofNat_lt.symm
 | .negSucc m,.negSucc n =>
   show Nat.blt n m=true↔(Int.negSucc m:Int)<Int.negSucc n
   rw [blt_iff]
   have e1:=Int.negSucc_eq m
   have e2:=Int.negSucc_eq n
   omega
 | .negSucc m,.ofNat n =>
   show true=true↔(Int.negSucc m:Int)<Int.ofNat n
   simp only [true_iff]
   exact Int.lt_of_lt_of_le (Int.negSucc_lt_zero m) (Int.natCast_nonneg n)
 | .ofNat m,.negSucc n =>
   show false=true↔(Int.ofNat m:Int)<Int.negSucc n
   simp only [Bool.false_eq_true,false_iff]
   exact fun h=>absurd (Int.lt_trans h (Int.negSucc_lt_zero n)) (Int.not_lt.2 (Int.natCast_nonneg m))
def zle (a b:Int):Bool := !(zlt b a)
theorem zle_eq (a b:Int):zle a b=decide (a≤b):=by
 unfold zle
 rw [zlt_eq,Bool.eq_iff_iff]
 simp
def wr (k:IntKind) (z:Int):Int :=
 match k with
 | .i64=>match z with
   | .ofNat n=>Bool.rec (motive:=fun _=>Int) (IntKind.i64.wrap (.ofNat n)) (.ofNat n) (Nat.blt n 9223372036854775808)
   | .negSucc n=>Bool.rec (motive:=fun _=>Int) (IntKind.i64.wrap (.negSucc n)) (.negSucc n) (Nat.blt n 9223372036854775808)
 | k=>k.wrap z
theorem wr_eq (k:IntKind) (z:Int):wr k z=k.wrap z:=by
 unfold wr
 split
 ·split
  ·rename_i n
   cases h:Nat.blt n 9223372036854775808 with
   | false=>rfl
   | true =>
     rw [blt_iff] at h
     exact (wrapI ⟨Int.le_trans (by decide) (Int.natCast_nonneg n),Int.ofNat_lt.2 h⟩).symm
  ·rename_i n
   cases h:Nat.blt n 9223372036854775808 with
   | false=>rfl
   | true =>
     rw [blt_iff] at h
     have e:=Int.negSucc_eq n
     have h1 : -9223372036854775808≤Int.negSucc n:=by rw [e];omega
     have h2:Int.negSucc n<9223372036854775808:=by rw [e];omega
     exact (wrapI ⟨h1,h2⟩).symm
 ·rfl
end
end Go.Ab
