/- PrimaryExact: abstract runs. -/
import Derived.Test.YtolkmjfkkkiboaaGreatPrimaryExactLysq
set_option linter.all false
namespace Go.Ab
open Go.RowKit
def T7 (L:List AB) (a b:AV):Prop:=a=b∨∃ i lo n m,a = .d .nils/\(∃ ok:zp,L[i]? = some (.aN lo n ok)/\ok.reads (.sl m [])=true)/\0<m/\b = .isl i (.sl m [])
def Wk2 (L:List AB) (a b:AV):Prop:=T7 L a b∨∃ az bs,a = .agg az/\b = .agg bs/\tv (T7 L) az bs
def Wk3 (L:List AB) (a b:AV):Prop:=Wk2 L a b∨∃ az bs,a = .tup az/\b = .tup bs/\tv (Wk2 L) az bs
theorem T7.ok {M0:MZ} {E:Nat->Option Nat} {L:List AB} {w:World}:∀ (a b:AV) (v:Value),T7 L a b->VR (aj M0 E L w) a v->VR (aj M0 E L w) b v:=by
 rintro a b v (rfl|⟨i,lo,n,m,rfl,⟨ok,hi,hr⟩,hm,rfl⟩) hv
 ·exact hv
 ·simp only [VR,VD] at hv ⊢;subst hv;refine ⟨⟨.aN lo n ok,hi,?_⟩,rfl⟩
  cases ok with
  | bool ok =>
    cases ok with
    | true =>
      simp only [jD,VD];exact ⟨hm,none,0,rfl,by simp,by simp [maxLen],λ_=>rfl,λ_ h=>by cases h⟩
    | false=>cases hr
  | hole b k ok =>
    refine ⟨λ_=>?_,λm xs e=>by cases e⟩;simp only [VD];exact ⟨hm,none,0,rfl,by simp,by simp [maxLen],λ_=>rfl,λ_ h=>by cases h⟩
theorem Wk2.ok {M0:MZ} {E:Nat->Option Nat} {L:List AB} {w:World}:∀ (a b:AV) (v:Value),Wk2 L a b->VR (aj M0 E L w) a v->VR (aj M0 E L w) b v:=by
 rintro a b v (h|⟨az,bs,rfl,rfl,h⟩) hv
 ·exact T7.ok _ _ _ h hv
 ·simp only [VR] at hv ⊢;obtain ⟨us,e,h1⟩:=hv;exact ⟨us,e,h.eK T7.ok h1⟩
theorem oY {P:Program} {f:FuncId} {cS:List AV} {cg:List AB} {post nF:AV->List AB->Prop} (h:ay P f cS cg post) (hp:∀ av L,post av L->∃ ny,Wk3 L av ny/\nF ny L):ay P f cS cg nF:=by
 intro c vs h1 h2 h3 h4;refine (h c vs h1 h2 h3 h4).mono ?_;rintro e w' ⟨v,av,L',E',e1,e2,e3,e4⟩;obtain ⟨ny,hw,RT⟩:=hp av L' e2;refine ⟨v,ny,L',E',e1,RT,e3,?_⟩;rcases hw with h|⟨az,bs,rfl,rfl,h⟩
 ·exact Wk2.ok _ _ _ h e4
 ·simp only [VR] at e4 ⊢;obtain ⟨us,e,h1⟩:=e4;exact ⟨us,e,h.cD Wk2.ok h1⟩
end Go.Ab
