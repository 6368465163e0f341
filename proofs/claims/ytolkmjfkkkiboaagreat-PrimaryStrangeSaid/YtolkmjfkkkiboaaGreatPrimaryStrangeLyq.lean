/- PrimaryStrange: abstract runs. -/
import Derived.Test.YtolkmjfkkkiboaaGreatPrimaryStrangeLyj
set_option linter.unusedVariables false
set_option linter.unusedSimpArgs false
namespace Go.Ab
open Go.RowKit
def nilAt (k p n:Nat) (L:List AB):Option (List AB) :=
 match L[k]? with
 | some (.cells cs)=>match cs[p]? with
   | some (.d .nils)=>match n with
     | 0=>none
     | n+1=>some (L.set k (.cells (cs.set p (.d (.sl (n+1) [])))))
   | _=>none
 | _=>none
theorem nilAt_ok {c:Ctx} {E:Nat→Option Nat} {L L':List AB} {w:World} (hs:SimH c E L w) {k p n:Nat} (h:nilAt k p n L=some L') :
  SimH c E L' w∧(rcOf c.M0 E L w).le (rcOf c.M0 E L' w):=by
 unfold nilAt at h
 split at h
 ·rename_i cs hk
  split at h
  ·rename_i hp
   split at h
   ·cases h
   ·rename_i n
    cases h
    exact hs.recell hk fun us hu=>VRs_cs.2 (Cs_set (VRs_cs.1 hu) hp fun v hv=>NW.ok (.nils (n+1) (Nat.succ_pos n)) v hv)
  ·cases h
 ·cases h
def nilsAt:List (Nat×Nat×Nat)→List AB→Option (List AB)
 | [],L=>some L
 | (k,p,n) :: r,L=>match nilAt k p n L with
   | some L'=>nilsAt r L'
   | none=>none
theorem nilsAt_ok {c:Ctx} {E:Nat→Option Nat} {w:World}:∀ {ps:List (Nat×Nat×Nat)} {L L':List AB},SimH c E L w→nilsAt ps L=some L'→SimH c E L' w∧(rcOf c.M0 E L w).le (rcOf c.M0 E L' w)
 | [],L,L',hs,h=>by simp only [nilsAt,Option.some.injEq] at h;subst h;exact ⟨hs,.refl _⟩
 | (k,p,n) :: r,L,L',hs,h=>by
   simp only [nilsAt] at h
   split at h
   ·rename_i L1 h1
    obtain ⟨s1,l1⟩:=nilAt_ok hs h1
    obtain ⟨s2,l2⟩:=nilsAt_ok s1 h
    exact ⟨s2,l1.trans l2⟩
   ·cases h
theorem acalls_nilsL {P:Program} {f:FuncId} {avs:List AV} {L L1:List AB} {post:AV→List AB→Prop} (ps:List (Nat×Nat×Nat)) (hs:nilsAt ps L=some L1) (h:ACalls P f avs L1 post):ACalls P f avs L post:=by
 intro c vs hc hL hsim hv
 obtain ⟨s1,l1⟩:=nilsAt_ok hsim hs
 have hs2:SimH { c with L0:=L1 } c.E0 L1 c.w0:=⟨s1.os,s1.tape,s1.output,s1.size,s1.prot,s1.blk,s1.low,s1.inj,RC.le.refl _,s1.bx⟩
 refine (h { c with L0:=L1 } vs ⟨hc.low,hc.sub,hc.st⟩ rfl hs2 (VRt.mono l1 _ _ hv)).mono ?_
 rintro e w' ⟨v,av,L',E',h1,h2,h3,h4⟩
 refine ⟨v,av,L',E',h1,h2,⟨h3.os,h3.tape,h3.output,h3.size,h3.prot,h3.blk,h3.low,h3.inj,?_,h3.bx⟩,h4⟩
 rw [hL]
 exact l1.trans h3.old
end Go.Ab
