/- PrimaryExact: abstract runs. -/
import Derived.Test.YtolkmjfkkkiboaaGreatPrimaryExactLyl
set_option linter.all false
namespace Go.Ab
theorem F6 {P:Program} {f:FuncId} {cS avs':List AV} {L:List AB} {post:AV->List AB->Prop} (h:ay P f avs' L post) (hv:∀ (R:RC) (us:List Value),cD R cS us->cD R avs' us):ay P f cS L post :=
 λc vs h1 h2 h3 h4=>h c vs h1 h2 h3 (hv _ _ h4)
mutual
inductive NW:AV->AV->Prop where
 | refl (x:AV):NW x x
 | nils (n:Nat) (h:0<n):NW (.d .nils) (.d (.sl n []))
 | agg {xs ys:List AV} (h:PZ xs ys):NW (.agg xs) (.agg ys)
inductive PZ:List AV->List AV->Prop where
 | nil:PZ [] []
 | cons {x y:AV} {xs ys:List AV} (h:NW x y) (t:PZ xs ys):PZ (x :: xs) (y :: ys)
end
mutual
theorem NW.ok {R:RC}:∀ {x y:AV},NW x y->∀ (v:Value),VR R x v->VR R y v
 | _,_,.refl x,v,h=>h
 | _,_,.nils n hn,v,h=>by
   simp only [VR,VD] at h ⊢;subst h;exact ⟨hn,none,0,rfl,by simp,by simp [maxLen],λ_=>rfl,λ_ h=>by cases h⟩
 | _,_,.agg hs,v,h=>by
   simp only [VR] at h ⊢;obtain ⟨us,h1,h2⟩:=h;exact ⟨us,h1,PZ.vrs hs _ h2⟩
theorem PZ.vrs {R:RC}:∀ {xs ys:List AV},PZ xs ys->∀ (us:List Value),eK R xs us->eK R ys us
 | _,_,.nil,us,h=>h
 | _,_,.cons h1 h2,us,h=>by
   simp only [eK] at h ⊢;obtain ⟨u,dt,e,h0,k1,k2⟩:=h;exact ⟨u,dt,e,h0,NW.ok h1 _ k1,PZ.vrs h2 _ k2⟩
end
theorem PZ.vrt {R:RC}:∀ {xs ys:List AV},PZ xs ys->∀ (us:List Value),cD R xs us->cD R ys us
 | _,_,.nil,us,h=>h
 | _,_,.cons h1 h2,us,h=>by
   simp only [cD] at h ⊢;obtain ⟨u,dt,e,k1,k2⟩:=h;exact ⟨u,dt,e,NW.ok h1 _ k1,PZ.vrt h2 _ k2⟩
theorem bz {P:Program} {f:FuncId} {cS avs':List AV} {L:List AB} {post:AV->List AB->Prop} (h:ay P f avs' L post) (hv:PZ cS avs'):ay P f cS L post :=
 F6 h λ_ us k=>PZ.vrt hv us k
end Go.Ab
