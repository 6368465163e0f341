/- PrimaryExact: abstract runs. -/
import Derived.Test.YtolkmjfkkkiboaaGreatPrimaryExactLyi
set_option linter.all false
namespace Go.Ab
open Go.RowKit
theorem F5 {α:Type} {r:α->Value->Prop}:∀ {xs:List α} {us:List Value} {p:Nat} {x y:α},Cs r xs us->xs[p]? = some x->(∀ v,r x v->r y v)->Cs r (xs.set p y) us
 | [],us,p,x,y,h,hx,hr=>by simp at hx
 | a :: l,us,p,x,y,h,hx,hr=>by
   simp only [Cs] at h;obtain ⟨u,dt,rfl,h0,h1,h2⟩:=h
   cases p with
   | zero =>
     simp at hx;subst hx;simp only [WQ,Cs];exact ⟨u,dt,rfl,h0,hr _ h1,h2⟩
   | succ p =>
     simp at hx;simp only [zdU,Cs];exact ⟨u,dt,rfl,h0,h1,F5 h2 hx hr⟩
theorem aI.LI {c:Ctx} {E:Nat->Option Nat} {L:List AB} {w:World} (h:aI c E L w) {i:Nat} {cs cs':List AV} (hi:L[i]? = some (.cells cs))
  (hv:∀ us,eK (aj c.M0 E L w) cs us->eK (aj c.M0 E L w) cs' us) :
  aI c E (L.set i (.cells cs')) w/\(aj c.M0 E L w).le (aj c.M0 E (L.set i (.cells cs')) w):=by
 obtain ⟨b,cur,e,hb,hh,kQ⟩:=h.fQ i _ hi;have hlen:cs'.length=cs.length:=by rw [<-cH (hv _ kQ),cH kQ]
 have hle:(aj c.M0 E L w).le (aj c.M0 E (L.set i (.cells cs')) w) :=
  rm h hi rfl (.refl _ _) (λo _=>trivial) (λ_ _ _ _ _ h=>h) rfl (λv hv=>by simp only [bj] at hv ⊢;rw [hlen];exact hv) (λ_ _ _ hv=>hv) (λ_ hb=>hb)
 exact ⟨h.Ht hi rfl (.refl _ _) hle rfl ⟨b,cur,e,hb,hh,eK.mono hle _ _ (hv _ kQ)⟩ rfl,hle⟩
def LJ (k p:Nat) (L:List AB):Option (List AB) :=
 match L[k]? with
 | some (.cells cs)=>match cs[p]? with
   | some (.arr j)=>match L[j]? with
     | some (.row e n xs _)=>some ((L.set j (.row e n xs true)).set k (.cells (cs.set p (.d (.sl n xs)))))
     | _=>none
   | _=>none
 | _=>none
theorem PX {c:Ctx} (hc:c.wf) {E:Nat->Option Nat} {L L':List AB} {w:World} (hs:aI c E L w) {k p:Nat} (h:LJ k p L=some L') :
  aI c E L' w/\(aj c.M0 E L w).le (aj c.M0 E L' w):=by
 unfold LJ at h;split at h
 ·rename_i cs hk;split at h
  ·rename_i j hp;split at h
   ·rename_i e n xs sh hj
    cases h
    obtain ⟨h1,h2,h3⟩:=hs.close hc hj;have PY:k≠j:=by rintro rfl;rw [hk] at hj;cases hj
    have Bl:(L.set j (.row e n xs true))[k]? = some (.cells cs):=by rw [al PY];exact hk
    have pK:(L.set j (.row e n xs true))[j]? = some (.row e n xs true):=aD hj;obtain ⟨_,_,h3'⟩:=h1.close hc pK;rw [List.set_set] at h3';obtain ⟨h4,h5⟩:=h1.LI Bl (cs':=cs.set p (.d (.sl n xs))) λus hu=>fZ.2 (F5 (fZ.1 hu) hp h3');exact ⟨h4,h2.trans h5⟩
   ·cases h
  ·cases h
 ·cases h
def kT:List (Nat×Nat)->List AB->Option (List AB)
 | [],L=>some L
 | (k,p) :: r,L=>match LJ k p L with
   | some L'=>kT r L'
   | none=>none
theorem kC {c:Ctx} (hc:c.wf) {E:Nat->Option Nat} {w:World}:∀ {ps:List (Nat×Nat)} {L L':List AB},aI c E L w->kT ps L=some L'->aI c E L' w/\(aj c.M0 E L w).le (aj c.M0 E L' w)
 | [],L,L',hs,h=>by simp only [kT,ke] at h;subst h;exact ⟨hs,.refl _⟩
 | (k,p) :: r,L,L',hs,h=>by
   simp only [kT] at h;split at h
   ·rename_i L1 h1;obtain ⟨s1,l1⟩:=PX hc hs h1;obtain ⟨s2,l2⟩:=kC hc s1 h;exact ⟨s2,l1.trans l2⟩
   ·cases h
theorem XI {P:Program} {f:FuncId} {cS:List AV} {cg:List AB} {post:AV->List AB->Prop} (m:Nat) (hm:cg.length<=m)
  (h:ay P f cS cg (λav L=>∃ (ps:List (Nat×Nat)) (L1 L2:List AB) (ny:AV),kT ps L=some L1/\tl (gO (List.range m) · 0) L1 (List.range m)=some L2/\pS (gO (List.range m) · 0) av=some ny/\post ny L2)) :
  ay P f cS cg post:=by
 intro c vs hc hL hs hv;refine (h c vs hc hL hs hv).mono ?_;rintro e w' ⟨v,av,L',E',h1,⟨ps,L1,L2,ny,k1,k2,k3,k4⟩,h3,h4⟩;obtain ⟨s1,l1⟩:=kC hc h3 k1;obtain ⟨s2,ld⟩:=s1.part (List.nodup_range) (λi hi=>by
  rw [hL] at hi;rw [zdZ oM]) k2
 exact ⟨v,ny,L2,_,h1,k4,s2,jJ ld _ _ k3 _ (VR.mono l1 _ _ h4)⟩
theorem DY {n k0:Nat} {σ:Type} {st:σ->AF×List AB} {C5:σ->Prop} {F:AF} {L L1:List AB} (ps:List (Nat×Nat)) (hs:kT ps L=some L1) (h:eA n k0 st C5 F L1):eA n k0 st C5 F L:=λc E a w hc dS hk fj=>by
 obtain ⟨s1,l1⟩:=kC hc fj.h hs;exact h c E a w hc dS hk ⟨s1,λs=>VR.mono l1 _ _ (fj.dL s),fj.nt,fj.df⟩
theorem TM {P:Program} {n k0:Nat} {code:Code} {Q:Exit->AF->List AB->Prop} {F:AF} {L L1:List AB} (ps:List (Nat×Nat)) (hs:kT ps L=some L1) (h:AW P n k0 code Q F L1):AW P n k0 code Q F L:=λc E a w hc dS hk fj=>by
 obtain ⟨s1,l1⟩:=kC hc fj.h hs;exact h c E a w hc dS hk ⟨s1,λs=>VR.mono l1 _ _ (fj.dL s),fj.nt,fj.df⟩
theorem yT {P:Program} {n k0 id:Nat} {ops:Array Oper} {K:AF->List AB->Prop} {F:AF} {L L1:List AB} (ps:List (Nat×Nat)) (hs:kT ps L=some L1) (h:cw P n k0 id ops K F L1):cw P n k0 id ops K F L:=TM ps hs h
theorem oe {P:Program} {f:FuncId} {cS:List AV} {cg:List AB} {post:AV->List AB->Prop}
  (h:ay P f cS cg (λav L=>∃ (m:Nat) (ps:List (Nat×Nat)) (L1 L2:List AB) (ny:AV),cg.length<=m/\kT ps L=some L1/\tl (gO (List.range m) · 0) L1 (List.range m)=some L2/\pS (gO (List.range m) · 0) av=some ny/\post ny L2)) :
  ay P f cS cg post:=by
 intro c vs hc hL hs hv;refine (h c vs hc hL hs hv).mono ?_;rintro e w' ⟨v,av,L',E',h1,⟨m,ps,L1,L2,ny,hm,k1,k2,k3,k4⟩,h3,h4⟩;obtain ⟨s1,l1⟩:=kC hc h3 k1;obtain ⟨s2,ld⟩:=s1.part (List.nodup_range) (λi hi=>by
  rw [hL] at hi;rw [zdZ oM]) k2
 exact ⟨v,ny,L2,_,h1,k4,s2,jJ ld _ _ k3 _ (VR.mono l1 _ _ h4)⟩
end Go.Ab
