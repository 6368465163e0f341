/- AuditDags: abstract runs. -/
import Derived.Test.YtodimgkpjnpbiaaGreatAuditDagsLysq
set_option linter.unusedVariables false
set_option linter.unusedSimpArgs false
namespace Go.Ab
open Go.RowKit
def Wk1 (L:List AB) (a b:AV):Prop:=a=b∨∃ i lo n m,a = .d .nils∧(∃ ok:IsK,L[i]? = some (.isle lo n ok)∧ok.reads (.sl m [])=true)∧0<m∧b = .isl i (.sl m [])
def Wk2 (L:List AB) (a b:AV):Prop:=Wk1 L a b∨∃ az bs,a = .agg az∧b = .agg bs∧All2 (Wk1 L) az bs
def Wk3 (L:List AB) (a b:AV):Prop:=Wk2 L a b∨∃ az bs,a = .tup az∧b = .tup bs∧All2 (Wk2 L) az bs
theorem Wk1.ok {M0:MZ} {E:Nat→Option Nat} {L:List AB} {w:World}:∀ (a b:AV) (v:Value),Wk1 L a b→VR (rcOf M0 E L w) a v→VR (rcOf M0 E L w) b v:=by
 rintro a b v (rfl|⟨i,lo,n,m,rfl,⟨ok,hi,hr⟩,hm,rfl⟩) hv
 ·exact hv
 ·simp only [VR,VD] at hv ⊢
  subst hv
  refine ⟨⟨.isle lo n ok,hi,?_⟩,rfl⟩
  cases ok with
  | bool ok =>
    cases ok with
    | true =>
      simp only [islRel,VD]
      exact ⟨hm,none,0,rfl,by simp,by simp [maxLen],fun _=>rfl,fun _ h=>by cases h⟩
    | false=>cases hr
  | hole b k ok =>
    refine ⟨fun _ => ?_,fun m xs e=>by cases e⟩
    simp only [VD]
    exact ⟨hm,none,0,rfl,by simp,by simp [maxLen],fun _=>rfl,fun _ h=>by cases h⟩
theorem Wk2.ok {M0:MZ} {E:Nat→Option Nat} {L:List AB} {w:World}:∀ (a b:AV) (v:Value),Wk2 L a b→VR (rcOf M0 E L w) a v→VR (rcOf M0 E L w) b v:=by
 rintro a b v (h|⟨az,bs,rfl,rfl,h⟩) hv
 ·exact Wk1.ok _ _ _ h hv
 ·simp only [VR] at hv ⊢
  obtain ⟨us,e,h1⟩:=hv
  exact ⟨us,e,h.VRs Wk1.ok h1⟩
theorem acalls_wk {P:Program} {f:FuncId} {avs:List AV} {Lin:List AB} {post post':AV→List AB→Prop} (h:ACalls P f avs Lin post) (hp:∀ av L,post av L→∃ av',Wk3 L av av'∧post' av' L):ACalls P f avs Lin post':=by
 intro c vs h1 h2 h3 h4
 refine (h c vs h1 h2 h3 h4).mono ?_
 rintro e w' ⟨v,av,L',E',e1,e2,e3,e4⟩
 obtain ⟨av',hw,hp'⟩:=hp av L' e2
 refine ⟨v,av',L',E',e1,hp',e3,?_⟩
 rcases hw with h|⟨az,bs,rfl,rfl,h⟩
 ·exact Wk2.ok _ _ _ h e4
 ·simp only [VR] at e4 ⊢
  obtain ⟨us,e,h1⟩:=e4
  exact ⟨us,e,h.VRt Wk2.ok h1⟩
end Go.Ab
