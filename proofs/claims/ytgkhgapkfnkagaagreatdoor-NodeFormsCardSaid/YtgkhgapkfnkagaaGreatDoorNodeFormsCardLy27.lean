/- NodeFormsCard: abstract runs. -/
import Derived.Laws.CopyRow
import Derived.Test.YtgkhgapkfnkagaaGreatDoorNodeFormsCardLy26
set_option linter.unusedVariables false
set_option linter.unusedSimpArgs false
namespace Go.Ab
noncomputable section
open Go.RowKit
structure Tw (p q A B:Prop):Prop where
 l:p→A
 r:q→B
theorem tw {p q A B:Prop} (l:p→A) (r:q→B):Tw p q A B:=⟨l,r⟩
theorem tw_any {t:Bool} {R S A B:Prop} (h1:t=true→R→A) (h2:t=false→S→B) (w:Tw (t=true) (t=false) R S):splitB.match_1 (fun _=>Prop) (t) (fun _=>A) (fun _=>B):=mt_any (fun h=>h1 h (w.l h)) (fun h=>h2 h (w.r h))
theorem tw_dec {p:Prop} [Decidable p] {R S A B:Prop} (h1:p→R→A) (h2:¬p→S→B) (w:Tw p (¬p) R S):splitB.match_1 (fun _=>Prop) (decide p) (fun _=>A) (fun _=>B):=mt_dec (fun h=>h1 h (w.l h)) (fun h=>h2 h (w.r h))
theorem tw_eq {a b:Int} {R S A B:Prop} (h1:a=b→R→A) (h2:a≠b→S→B) (w:Tw (a=b) (a≠b) R S):splitB.match_1 (fun _=>Prop) (a == b) (fun _=>A) (fun _=>B):=mt_eq (fun h=>h1 h (w.l h)) (fun h=>h2 h (w.r h))
theorem tw_ne {a b:Int} {R S A B:Prop} (h1:a≠b→R→A) (h2:a=b→S→B) (w:Tw (a≠b) (a=b) R S):splitB.match_1 (fun _=>Prop) (a != b) (fun _=>A) (fun _=>B):=mt_ne (fun h=>h1 h (w.l h)) (fun h=>h2 h (w.r h))
theorem tw_not {t:Bool} {R S A B:Prop} (h1:t=false→R→A) (h2:t=true→S→B) (w:Tw (t=false) (t=true) R S):splitB.match_1 (fun _=>Prop) (!t) (fun _=>A) (fun _=>B):=mt_not (fun h=>h1 h (w.l h)) (fun h=>h2 h (w.r h))
section
variable {P:Program} {tt:TypeId→Option TI} {fo:FuncId→Bool}
theorem tw_gd {full:List Oper} {o:Oper} {F:AF} {L:List AB} {v:AV} {R B:Prop} (h1:gdet P tt fo full o F L v) (h2:R→B) (w:R):gdet P tt fo full o F L v∧B:=⟨h1,h2 w⟩
theorem tw_rd {o:Oper} {F:AF} {L:List AB} {v:AV} {R:Prop} {B:AV→Prop} (h1:Det P tt fo o F L v) (h2:R→B v) (w:R):∃ v,Det P tt fo o F L v∧B v:=⟨v,h1,h2 w⟩
end
theorem tw_z {e:Int} {R:Prop} {B:Int→Prop} (he : -9223372036854775808≤e∧e<9223372036854775808) (h:R→B e) (w:R):∀ z,z=IntKind.i64.wrap e→B z:=z_wrap he (h w)
theorem rdw {R G:Prop} (w:R) (h:R→G:=by
 repeat' (first|((with_reducible first|apply Go.Ab.tw_rd|apply Go.Ab.tw_gd);(focus ((conv=>whnf)<;>first|rfl|(intro K hK;(conv=>whnf);first|exact hK|exact Go.Ab.z_wrap (by omega) hK)));conv=>rhs;whnf)|((with_reducible apply Go.Ab.tw_z);(focus omega);conv=>rhs;whnf)|((with_reducible first|apply Go.Ab.tw_dec|apply Go.Ab.tw_eq|apply Go.Ab.tw_ne|apply Go.Ab.tw_not|apply Go.Ab.tw_any)<;>first|(intro _;conv=>rhs;whnf)|skip))
 all_goals exact fun w=>w):G:=h w
theorem rdz {R G:Prop} (w:R) (h:R→G:=by
 repeat' (first|((with_reducible apply Go.Ab.tw_z);(focus omega);conv=>rhs;whnf)|((with_reducible first|apply Go.Ab.tw_dec|apply Go.Ab.tw_eq|apply Go.Ab.tw_ne|apply Go.Ab.tw_not|apply Go.Ab.tw_any)<;>first|(intro _;conv=>rhs;whnf)|skip))
 all_goals exact fun w=>w):G:=h w
theorem cal {P:Program} {f:FuncId} {avs:List AV} {L0:List AB} {x:AV} {y:List AB} {Q:AV→List AB→Prop} {R:Prop} (h:ACalls P f avs L0 (fun av L=>av=x∧L=y)) (w:R) (k:R→Q x y:=by
 (conv=>rhs;whnf)
 repeat' (first|((with_reducible first|apply Go.Ab.tw_rd|apply Go.Ab.tw_gd);(focus ((conv=>whnf)<;>first|rfl|(intro K hK;(conv=>whnf);first|exact hK|exact Go.Ab.z_wrap (by omega) hK)));conv=>rhs;whnf)|((with_reducible apply Go.Ab.tw_z);(focus omega);conv=>rhs;whnf)|((with_reducible first|apply Go.Ab.tw_dec|apply Go.Ab.tw_eq|apply Go.Ab.tw_ne|apply Go.Ab.tw_not|apply Go.Ab.tw_any)<;>first|(intro _;conv=>rhs;whnf)|skip))
 all_goals exact fun w=>w):ACalls P f avs L0 Q:=h.mono fun av L h=>by
 obtain ⟨rfl,rfl⟩:=h
 exact k w
section
variable {P:Program} {tt:TypeId→Option TI} {fo:FuncId→Bool}
end
end
end Go.Ab
set_option linter.unusedVariables false
set_option linter.unusedSimpArgs false
namespace Go.Ab
open Go.RowKit
end Go.Ab
set_option linter.unusedVariables false
set_option linter.unusedSimpArgs false
namespace Go.Ab
open Go.RowKit
theorem flatten_takeN {n:Nat}:∀ (xs:List (List DV)),(∀ cs∈xs,cs.length=n)→∀ k:Nat,(xs.take k).flatten=xs.flatten.take (k * n)
 | [],_,k=>by simp
 | c :: r,hl,0=>by simp
 | c :: r,hl,k+1=>by
   have hc:c.length=n:=hl c (by simp)
   have:=flatten_takeN r (fun x hx=>hl x (by simp [hx])) k
   have e1:(k+1) * n=n+k * n:=by rw [Nat.add_mul,Nat.one_mul,Nat.add_comm]
   have e2:c.take (n+k * n)=c:=List.take_of_length_le (by omega)
   rw [List.take_succ_cons,List.flatten_cons,this,List.flatten_cons,e1,List.take_append,hc,e2,Nat.add_sub_cancel_left]
end Go.Ab
