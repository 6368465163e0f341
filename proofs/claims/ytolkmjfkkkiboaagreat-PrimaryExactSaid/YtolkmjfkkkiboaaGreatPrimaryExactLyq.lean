/- PrimaryExact: abstract runs. -/
import Derived.Test.YtolkmjfkkkiboaaGreatPrimaryExactLyj
set_option linter.all false
namespace Go.Ab
open Go.RowKit
def TN (k p n:Nat) (L:List AB):Option (List AB) :=
 match L[k]? with
 | some (.cells cs)=>match cs[p]? with
   | some (.d .nils)=>match n with
     | 0=>none
     | n+1=>some (L.set k (.cells (cs.set p (.d (.sl (n+1) [])))))
   | _=>none
 | _=>none
theorem TO {c:Ctx} {E:Nat->Option Nat} {L L':List AB} {w:World} (hs:aI c E L w) {k p n:Nat} (h:TN k p n L=some L') :
  aI c E L' w/\(aj c.M0 E L w).le (aj c.M0 E L' w):=by
 unfold TN at h;split at h
 ·rename_i cs hk;split at h
  ·rename_i hp;split at h
   ·cases h
   ·rename_i n
    cases h
    exact hs.LI hk λus hu=>fZ.2 (F5 (fZ.1 hu) hp λv hv=>NW.ok (.nils (n+1) (Nat.succ_pos n)) v hv)
  ·cases h
 ·cases h
def xV:List (Nat×Nat×Nat)->List AB->Option (List AB)
 | [],L=>some L
 | (k,p,n) :: r,L=>match TN k p n L with
   | some L'=>xV r L'
   | none=>none
theorem xW {c:Ctx} {E:Nat->Option Nat} {w:World}:∀ {ps:List (Nat×Nat×Nat)} {L L':List AB},aI c E L w->xV ps L=some L'->aI c E L' w/\(aj c.M0 E L w).le (aj c.M0 E L' w)
 | [],L,L',hs,h=>by simp only [xV,ke] at h;subst h;exact ⟨hs,.refl _⟩
 | (k,p,n) :: r,L,L',hs,h=>by
   simp only [xV] at h;split at h
   ·rename_i L1 h1;obtain ⟨s1,l1⟩:=TO hs h1;obtain ⟨s2,l2⟩:=xW s1 h;exact ⟨s2,l1.trans l2⟩
   ·cases h
theorem vN {P:Program} {f:FuncId} {cS:List AV} {L L1:List AB} {post:AV->List AB->Prop} (ps:List (Nat×Nat×Nat)) (hs:xV ps L=some L1) (h:ay P f cS L1 post):ay P f cS L post:=by
 intro c vs hc hL fj hv;obtain ⟨s1,l1⟩:=xW fj hs;have e_:aI { c with L0:=L1 } c.E0 L1 c.w0:=⟨s1.os,s1.tape,s1.output,s1.size,s1.gS,s1.fQ,s1.low,s1.inj,RC.le.refl _,s1.bx⟩;refine (h { c with L0:=L1 } vs ⟨hc.low,hc.sub,hc.st⟩ rfl e_ (cD.mono l1 _ _ hv)).mono ?_;rintro e w' ⟨v,av,L',E',h1,h2,h3,h4⟩;refine ⟨v,av,L',E',h1,h2,⟨h3.os,h3.tape,h3.output,h3.size,h3.gS,h3.fQ,h3.low,h3.inj,?_,h3.bx⟩,h4⟩;rw [hL];exact l1.trans h3.q_
end Go.Ab
