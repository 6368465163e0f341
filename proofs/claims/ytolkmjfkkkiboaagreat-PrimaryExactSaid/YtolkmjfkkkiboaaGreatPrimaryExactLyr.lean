/- PrimaryExact: abstract runs. -/
import Derived.Test.YtolkmjfkkkiboaaGreatPrimaryExactLyq
set_option linter.all false
namespace Go.Ab
open Go.RowKit
noncomputable def Bq (k p e n:Nat) (L:List AB):Option (List AB) :=
 match L[k]? with
 | some (.cells cs)=>match cs[p]? with
   | some (.d .nils)=>match n with
     | 0=>none
     | n+1=>bif !Nat.beq (G9 e) (n+1) then none else some ((L++[AB.row e (n+1) [] false]).set k (AB.cells (cs.set p (.arr L.length))))
   | _=>none
 | _=>none
theorem Iw {c:Ctx} (hc:c.wf) {E:Nat->Option Nat} {L L':List AB} {w:World} (hs:aI c E L w) {k p e n:Nat} (h:Bq k p e n L=some L') :
  ∃ E',aI c E' L' w/\(aj c.M0 E L w).le (aj c.M0 E' L' w):=by
 unfold Bq at h;split at h
 ·rename_i cs hk;split at h
  ·rename_i hp;split at h
   ·cases h
   ·rename_i n
    cases hg:Nat.beq (G9 e) (n+1) with
    | false=>rw [hg] at h;cases h
    | true =>
    rw [hg] at h
    cases h
    obtain ⟨h1,h2⟩:=hs.pN hc e (n+1) false ⟨Nat.succ_pos n,ie hg⟩;have bB:k<L.length:=(dW.1 hk).1;have Bl:(L++[AB.row e (n+1) [] false])[k]? = some (.cells cs):=by rw [CK bB];exact hk
    obtain ⟨h3,h4⟩:=h1.LI Bl (cs':=cs.set p (.arr L.length)) λus hu=>fZ.2 (F5 (fZ.1 hu) hp λv hv=>by
     simp only [VR,VD] at hv ⊢;subst hv;exact ⟨.row e (n+1) [] false,by simp,by simp [bj,ca]⟩)
    exact ⟨_,h3,h2.trans h4⟩
  ·cases h
 ·cases h
noncomputable def oV:List (Nat×Nat×Nat×Nat)->List AB->Option (List AB)
 | [],L=>some L
 | (k,p,e,n) :: r,L=>match Bq k p e n L with
   | some L1=>oV r L1
   | none=>none
theorem vO {c:Ctx} (hc:c.wf) {w:World}:∀ {ps:List (Nat×Nat×Nat×Nat)} {E:Nat->Option Nat} {L L':List AB},aI c E L w->oV ps L=some L' ->
  ∃ E',aI c E' L' w/\(aj c.M0 E L w).le (aj c.M0 E' L' w)
 | [],E,L,L',hs,h=>by simp only [oV,ke] at h;subst h;exact ⟨E,hs,.refl _⟩
 | (k,p,e,n) :: r,E,L,L',hs,h=>by
   simp only [oV] at h;split at h
   ·rename_i L1 h1;obtain ⟨E1,s1,l1⟩:=Iw hc hs h1;obtain ⟨E2,s2,l2⟩:=vO hc s1 h;exact ⟨E2,s2,l1.trans l2⟩
   ·cases h
theorem uC {P:Program} {n k0:Nat} {code:Code} {Q:Exit->AF->List AB->Prop} {F:AF} {L L1:List AB} (ps:List (Nat×Nat×Nat×Nat)) (hs:oV ps L=some L1) (h:AW P n k0 code Q F L1):AW P n k0 code Q F L:=λc E a w hc dS hk fj=>by
 obtain ⟨E1,s1,l1⟩:=vO hc fj.h hs;exact h c E1 a w hc dS hk ⟨s1,λs=>VR.mono l1 _ _ (fj.dL s),fj.nt,fj.df⟩
end Go.Ab
