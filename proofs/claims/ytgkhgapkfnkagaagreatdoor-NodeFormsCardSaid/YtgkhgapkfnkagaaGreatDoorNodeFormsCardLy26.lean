/- NodeFormsCard: abstract runs. -/
import Derived.Test.YtgkhgapkfnkagaaGreatDoorNodeFormsCardLy25
set_option linter.unusedVariables false
set_option linter.unusedSimpArgs false
namespace Go.Ab
noncomputable section
open Go.RowKit
section
variable {P:Program} {tt:TypeId→Option TI} {fo:FuncId→Bool} {n k0:Nat} (ht:TTok P tt) (hz:ZOok tt) (hfo:FOok P fo)
include ht hz hfo
theorem loop_out {σ τ:Type} (st:σ→AF×List AB) (inv:σ→Prop) (mu:σ→Nat) (live:List Nat) (id0:Nat) (st':τ→AF×List AB) (inv':τ→Prop) (live':List Nat) {x:Code} {Q:Exit→AF→List AB→Prop} {F:AF} {L:List AB}
  (start:normK k0 live F L fun F' L'=>∃ s,F'=(st s).1∧L'=(st s).2∧inv s)
  (after:∀ s,inv' s→Q (.exit id0) (st' s).1 (st' s).2)
  (round:∀ s,inv s→acodeR P tt fo n k0 x (fun e F' L'=>match e with
    | .normal=>normK k0 live F' L' fun F'' L''=>∃ s',F''=(st s').1∧L''=(st s').2∧inv s'∧mu s'<mu s
    | .exit id=>bif Nat.beq id id0 then normK k0 live' F' L' fun F'' L''=>∃ s',F''=(st' s').1∧L''=(st' s').2∧inv' s' else Q (.exit id) F' L'
    | .goto l=>Q (.goto l) F' L'
    | .ret=>Q .ret F' L'
    | _=>False) (st s).1 (st s).2):AW P n k0 (.loop x) Q F L:=by
 have h:AW P n k0 (.loop x) (fun e F' L'=>match e with
   | .exit id=>bif Nat.beq id id0 then normK k0 live' F' L' fun F'' L''=>∃ s',F''=(st' s').1∧L''=(st' s').2∧inv' s' else Q (.exit id) F' L'
   | e=>Q e F' L') F L :=
  loop_go ht hz hfo st inv mu live start fun s hs=>by
   have:=round s hs
   have e:(fun e F' L'=>match e with
    | .normal=>normK k0 live F' L' fun F'' L''=>∃ s',F''=(st s').1∧L''=(st s').2∧inv s'∧mu s'<mu s
    | .exit id=>bif Nat.beq id id0 then normK k0 live' F' L' fun F'' L''=>∃ s',F''=(st' s').1∧L''=(st' s').2∧inv' s' else Q (.exit id) F' L'
    | .goto l=>Q (.goto l) F' L'
    | .ret=>Q .ret F' L'
    | _=>False:Exit→AF→List AB→Prop)=(fun e F' L'=>match e with
    | .normal=>normK k0 live F' L' fun F'' L''=>∃ s',F''=(st s').1∧L''=(st s').2∧inv s'∧mu s'<mu s
    | .exit id=>(fun e F' L'=>match e with
      | .exit id=>bif Nat.beq id id0 then normK k0 live' F' L' fun F'' L''=>∃ s',F''=(st' s').1∧L''=(st' s').2∧inv' s' else Q (.exit id) F' L'
      | e=>Q e F' L':Exit→AF→List AB→Prop) (.exit id) F' L'
    | .goto l=>(fun e F' L'=>match e with
      | .exit id=>bif Nat.beq id id0 then normK k0 live' F' L' fun F'' L''=>∃ s',F''=(st' s').1∧L''=(st' s').2∧inv' s' else Q (.exit id) F' L'
      | e=>Q e F' L':Exit→AF→List AB→Prop) (.goto l) F' L'
    | .ret=>(fun e F' L'=>match e with
      | .exit id=>bif Nat.beq id id0 then normK k0 live' F' L' fun F'' L''=>∃ s',F''=(st' s').1∧L''=(st' s').2∧inv' s' else Q (.exit id) F' L'
      | e=>Q e F' L':Exit→AF→List AB→Prop) .ret F' L'
    | _=>False):=by
    funext e F' L'
    cases e<;>rfl
   rw [e] at this
   exact this
 intro c E a w hc hcn hk hs
 refine wp_mono (h c E a w hc hcn hk hs) ?_
 rintro e a' w' ⟨E',F',L',hs',hq⟩
 cases e with
 | exit id =>
   simp only at hq
   cases hb:Nat.beq id id0 with
   | false=>rw [hb] at hq;exact ⟨E',F',L',hs',hq⟩
   | true =>
     rw [hb] at hq
     have:=Nat.eq_of_beq_eq_true hb
     subst this
     obtain ⟨E2,F2,L2,⟨s',rfl,rfl,hi'⟩,hs2⟩:=normK_ok hq hk hs'
     exact ⟨E2,_,_,hs2,after s' hi'⟩
 | _=>exact ⟨E',F',L',hs',hq⟩
theorem loop_go2 {σ ρ:Type} (st:σ→ρ→AF×List AB) (inv:σ→ρ→Prop) (mu:σ→ρ→Nat) (live:List Nat) {x:Code} {Q:Exit→AF→List AB→Prop} {F:AF} {L:List AB}
  (start:normK k0 live F L fun F' L'=>∃ s t,F'=(st s t).1∧L'=(st s t).2∧inv s t)
  (round:∀ s t,inv s t→acodeR P tt fo n k0 x (fun e F' L'=>match e with
    | .normal=>normK k0 live F' L' fun F'' L''=>∃ s' t',F''=(st s' t').1∧L''=(st s' t').2∧inv s' t'∧mu s' t'<mu s t
    | .exit id=>Q (.exit id) F' L'
    | .goto l=>Q (.goto l) F' L'
    | .ret=>Q .ret F' L'
    | _=>False) (st s t).1 (st s t).2):AW P n k0 (.loop x) Q F L:=by
 have pr:∀ {p:σ→ρ→Prop},(∃ s t,p s t)=(∃ q:σ×ρ,p q.1 q.2):=fun {p}=>propext ⟨fun ⟨s,t,h⟩=>⟨(s,t),h⟩,fun ⟨q,h⟩=>⟨q.1,q.2,h⟩⟩
 simp only [pr] at start round
 exact loop_go ht hz hfo (fun q:σ×ρ=>st q.1 q.2) (fun q=>inv q.1 q.2) (fun q=>mu q.1 q.2) live start fun q hq=>round q.1 q.2 hq
end
section
variable {P:Program} {tt:TypeId→Option TI} {fo:FuncId→Bool} {n k0:Nat} (ht:TTok P tt) (hz:ZOok tt) (hfo:FOok P fo)
include ht hz hfo
theorem draw_pl (hm:P.follows .mixedOrders=true) {id:Nat} {ops:Array Oper} (pl:Plan) (hpl:planB ops.toList pl=true) {K:AF→List AB→Prop} {F:AF} {L:List AB}
  (h:rOpsR P tt fo n ops.toList pl.r0 F L [] fun F D=>eOpsR P tt fo n ops.toList pl.anc pl.ph F L D K):ADraw P n k0 id ops K F L:=by
 simp only [rOpsR_eq,eOpsR_eq] at h
 exact adraw_of ht hz hfo hm _ hpl h
end
attribute [simp] u8s_length
@[simp] theorem u8s_app (a b:List UInt8):u8s (a++b)=u8s a++u8s b:=List.map_append ..
@[simp] theorem u8s_nil:u8s []=[]:=rfl
section
variable {P:Program} {tt:TypeId→Option TI} {fo:FuncId→Bool}
theorem gd_and {full:List Oper} {o:Oper} {F:AF} {L:List AB} {v:AV} {B:Prop} (h1:gdet P tt fo full o F L v) (h2:B):gdet P tt fo full o F L v∧B:=⟨h1,h2⟩
theorem rd_intro {o:Oper} {F:AF} {L:List AB} {v:AV} {B:AV→Prop} (h1:Det P tt fo o F L v) (h2:B v):∃ v,Det P tt fo o F L v∧B v:=⟨v,h1,h2⟩
end
theorem mt_any {t:Bool} {A B:Prop} (h1:t=true→A) (h2:t=false→B):splitB.match_1 (fun _=>Prop) (t) (fun _=>A) (fun _=>B):=by cases t;exact h2 rfl;exact h1 rfl
theorem mt_dec {p:Prop} [Decidable p] {A B:Prop} (h1:p→A) (h2:¬p→B):splitB.match_1 (fun _=>Prop) (decide p) (fun _=>A) (fun _=>B):=mt_any (fun h=>h1 (of_decide_eq_true h)) (fun h=>h2 (of_decide_eq_false h))
theorem mt_eq {a b:Int} {A B:Prop} (h1:a=b→A) (h2:a≠b→B):splitB.match_1 (fun _=>Prop) (a == b) (fun _=>A) (fun _=>B):=mt_any (fun h=>h1 (by simpa using h)) (fun h=>h2 (by simpa using h))
theorem mt_ne {a b:Int} {A B:Prop} (h1:a≠b→A) (h2:a=b→B):splitB.match_1 (fun _=>Prop) (a != b) (fun _=>A) (fun _=>B):=mt_any (fun h=>h1 (by simpa using h)) (fun h=>h2 (by simpa using h))
theorem mt_not {t:Bool} {A B:Prop} (h1:t=false→A) (h2:t=true→B):splitB.match_1 (fun _=>Prop) (!t) (fun _=>A) (fun _=>B):=by cases t;exact h1 rfl;exact h2 rfl
theorem z_wrap {e:Int} {B:Int→Prop} (he : -9223372036854775808≤e∧e<9223372036854775808) (h:B e):∀ z,z=IntKind.i64.wrap e→B z:=fun z hz=>by rw [hz,wrapI he];exact h
theorem ix_map {α:Type} {f:α→List DV} {l:List α} {z:Int} {k:Nat} {a:α} {B:List DV→Prop} (h:l[k]? = some a) (hz:z=(k:Int)) (hb:B (f a)):0≤z∧∃ cs,(l.map f)[z.toNat]? = some cs∧B cs :=
 ⟨by omega,f a,by rw [hz,Int.toNat_natCast,List.getElem?_map,h];rfl,hb⟩
theorem boolEq {b c:Bool} (h:b=true↔c=true):AV.d (.bool b)=AV.d (.bool c):=by rw [Bool.eq_iff_iff.2 h]
end
end Go.Ab
