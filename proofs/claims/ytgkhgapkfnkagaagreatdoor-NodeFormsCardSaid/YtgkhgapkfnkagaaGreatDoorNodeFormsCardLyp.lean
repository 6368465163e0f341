/- NodeFormsCard: abstract runs. -/
import Derived.ArgAppend
import Derived.RangeFuncNested
import Derived.TacticsInMore
import Derived.OrdersIn
import Derived.Test.YtgkhgapkfnkagaaGreatDoorNodeFormsCardLyl
set_option linter.unusedVariables false
set_option linter.unusedSimpArgs false
namespace Go.Ab
theorem acalls_argsN {P:Program} {f:FuncId} {avs avs':List AV} {L:List AB} {post:AV→List AB→Prop} (h:ACalls P f avs' L post) (hv:∀ (R:RC) (us:List Value),VRt R avs us→VRt R avs' us):ACalls P f avs L post :=
 fun c vs h1 h2 h3 h4=>h c vs h1 h2 h3 (hv _ _ h4)
mutual
inductive NW:AV→AV→Prop where
 | refl (x:AV):NW x x
 | nils (n:Nat) (h:0<n):NW (.d .nils) (.d (.sl n []))
 | agg {xs ys:List AV} (h:NWs xs ys):NW (.agg xs) (.agg ys)
inductive NWs:List AV→List AV→Prop where
 | nil:NWs [] []
 | cons {x y:AV} {xs ys:List AV} (h:NW x y) (t:NWs xs ys):NWs (x :: xs) (y :: ys)
end
mutual
theorem NW.ok {R:RC}:∀ {x y:AV},NW x y→∀ (v:Value),VR R x v→VR R y v
 | _,_,.refl x,v,h=>h
 | _,_,.nils n hn,v,h=>by
   simp only [VR,VD] at h ⊢
   subst h
   exact ⟨hn,none,0,rfl,by simp,by simp [maxLen],fun _=>rfl,fun _ h=>by cases h⟩
 | _,_,.agg hs,v,h=>by
   simp only [VR] at h ⊢
   obtain ⟨us,h1,h2⟩:=h
   exact ⟨us,h1,NWs.vrs hs _ h2⟩
theorem NWs.vrs {R:RC}:∀ {xs ys:List AV},NWs xs ys→∀ (us:List Value),VRs R xs us→VRs R ys us
 | _,_,.nil,us,h=>h
 | _,_,.cons h1 h2,us,h=>by
   simp only [VRs] at h ⊢
   obtain ⟨u,us',e,h0,k1,k2⟩:=h
   exact ⟨u,us',e,h0,NW.ok h1 _ k1,NWs.vrs h2 _ k2⟩
end
theorem NWs.vrt {R:RC}:∀ {xs ys:List AV},NWs xs ys→∀ (us:List Value),VRt R xs us→VRt R ys us
 | _,_,.nil,us,h=>h
 | _,_,.cons h1 h2,us,h=>by
   simp only [VRt] at h ⊢
   obtain ⟨u,us',e,k1,k2⟩:=h
   exact ⟨u,us',e,NW.ok h1 _ k1,NWs.vrt h2 _ k2⟩
theorem acalls_nw {P:Program} {f:FuncId} {avs avs':List AV} {L:List AB} {post:AV→List AB→Prop} (h:ACalls P f avs' L post) (hv:NWs avs avs'):ACalls P f avs L post :=
 acalls_argsN h fun _ us k=>NWs.vrt hv us k
end Go.Ab
set_option linter.unusedVariables false
set_option linter.unusedSimpArgs false
namespace Go.Ab
open Go.RowKit
end Go.Ab
set_option linter.unusedVariables false
set_option linter.unusedSimpArgs false
namespace Go.Ab
open Go.RowKit
end Go.Ab
set_option linter.unusedVariables false
set_option linter.unusedSimpArgs false
namespace Go.Ab
open Go.RowKit
end Go.Ab
set_option linter.unusedVariables false
set_option linter.unusedSimpArgs false
namespace Go.Ab
open Go.RowKit
end Go.Ab
set_option linter.unusedVariables false
set_option linter.unusedSimpArgs false
namespace Go.Ab
noncomputable section
open Go.RowKit
section
variable {P:Program} {tt:TypeId→Option TI} {fo:FuncId→Bool} {n:Nat}
end
end
end Go.Ab
set_option linter.unusedVariables false
set_option linter.unusedSimpArgs false
namespace Go.Ab
noncomputable section
open Go.RowKit
end
end Go.Ab
set_option linter.unusedVariables false
set_option linter.unusedSimpArgs false
namespace Go.Ab
noncomputable section
open Go.RowKit
end
end Go.Ab
set_option linter.unusedVariables false
set_option linter.unusedSimpArgs false
namespace Go.Ab
noncomputable section
open Go.RowKit
section
variable {P:Program} {tt:TypeId→Option TI} {fo:FuncId→Bool} {n:Nat}
end
section
variable {P:Program} {tt:TypeId→Option TI} {fo:FuncId→Bool} {n k0 l:Nat}
end
end
end Go.Ab
set_option linter.unusedVariables false
set_option linter.unusedSimpArgs false
namespace Go.Ab
noncomputable section
open Go.RowKit
end
end Go.Ab
set_option linter.unusedVariables false
set_option linter.unusedSimpArgs false
namespace Go.Ab
noncomputable section
open Go.RowKit
end
end Go.Ab
set_option linter.unusedVariables false
set_option linter.unusedSimpArgs false
namespace Go.Ab
noncomputable section
open Go.RowKit
section
variable {P:Program} {tt:TypeId→Option TI} {fo:FuncId→Bool} {n:Nat}
end
end
end Go.Ab
set_option linter.unusedVariables false
set_option linter.unusedSimpArgs false
namespace Go.Ab
noncomputable section
open Go.RowKit
section
variable {P:Program} {tt:TypeId→Option TI} {fo:FuncId→Bool} {n:Nat}
end
end
end Go.Ab
set_option linter.unusedVariables false
set_option linter.unusedSimpArgs false
namespace Go.Ab
noncomputable section
open Go.RowKit
end
end Go.Ab
set_option linter.unusedVariables false
set_option linter.unusedSimpArgs false
namespace Go.Ab
noncomputable section
open Go.RowKit
end
end Go.Ab
set_option linter.unusedVariables false
set_option linter.unusedSimpArgs false
namespace Go.Ab
end Go.Ab
set_option linter.unusedVariables false
set_option linter.unusedSimpArgs false
namespace Go.Ab
open Go.RowKit
end Go.Ab
set_option linter.unusedVariables false
set_option linter.unusedSimpArgs false
namespace Go.Ab
open Go.RowKit
end Go.Ab
set_option linter.unusedVariables false
set_option linter.unusedSimpArgs false
namespace Go.Ab
open Go.RowKit
end Go.Ab
set_option linter.unusedVariables false
set_option linter.unusedSimpArgs false
namespace Go.Ab
open Go.RowKit
end Go.Ab
