/- PrimaryStrange: abstract runs. -/
import Derived.Test.YtolkmjfkkkiboaaGreatPrimaryStrangeLyi
set_option linter.unusedVariables false
set_option linter.unusedSimpArgs false
namespace Go.Ab
open Go.RowKit
theorem Cs_set {α:Type} {r:α→Value→Prop}:∀ {xs:List α} {us:List Value} {p:Nat} {x y:α},Cs r xs us→xs[p]? = some x→(∀ v,r x v→r y v)→Cs r (xs.set p y) us
 | [],us,p,x,y,h,hx,hr=>by simp at hx
 | a :: l,us,p,x,y,h,hx,hr=>by
   simp only [Cs] at h
   obtain ⟨u,us',rfl,h0,h1,h2⟩:=h
   cases p with
   | zero =>
     simp at hx
     subst hx
     simp only [List.set_cons_zero,Cs]
     exact ⟨u,us',rfl,h0,hr _ h1,h2⟩
   | succ p =>
     simp at hx
     simp only [List.set_cons_succ,Cs]
     exact ⟨u,us',rfl,h0,h1,Cs_set h2 hx hr⟩
theorem SimH.recell {c:Ctx} {E:Nat→Option Nat} {L:List AB} {w:World} (h:SimH c E L w) {i:Nat} {cs cs':List AV} (hi:L[i]? = some (.cells cs))
  (hv:∀ us,VRs (rcOf c.M0 E L w) cs us→VRs (rcOf c.M0 E L w) cs' us) :
  SimH c E (L.set i (.cells cs')) w∧(rcOf c.M0 E L w).le (rcOf c.M0 E (L.set i (.cells cs')) w):=by
 obtain ⟨b,cur,e,hb,hh,hvs⟩:=h.blk i _ hi
 have hlen:cs'.length=cs.length:=by rw [← VRs_length (hv _ hvs),VRs_length hvs]
 have hle:(rcOf c.M0 E L w).le (rcOf c.M0 E (L.set i (.cells cs')) w) :=
  le_set h hi rfl (.refl _ _) (fun o _=>trivial) (fun _ _ _ _ _ h=>h) rfl (fun v hv=>by simp only [arRel] at hv ⊢;rw [hlen];exact hv) (fun _ _ _ hv=>hv) (fun _ hb=>hb)
 exact ⟨h.setE hi rfl (.refl _ _) hle rfl ⟨b,cur,e,hb,hh,VRs.mono hle _ _ (hv _ hvs)⟩ rfl,hle⟩
def sealAt (k p:Nat) (L:List AB):Option (List AB) :=
 match L[k]? with
 | some (.cells cs)=>match cs[p]? with
   | some (.arr j)=>match L[j]? with
     | some (.row e n xs _)=>some ((L.set j (.row e n xs true)).set k (.cells (cs.set p (.d (.sl n xs)))))
     | _=>none
   | _=>none
 | _=>none
theorem sealAt_ok {c:Ctx} (hc:c.wf) {E:Nat→Option Nat} {L L':List AB} {w:World} (hs:SimH c E L w) {k p:Nat} (h:sealAt k p L=some L') :
  SimH c E L' w∧(rcOf c.M0 E L w).le (rcOf c.M0 E L' w):=by
 unfold sealAt at h
 split at h
 ·rename_i cs hk
  split at h
  ·rename_i j hp
   split at h
   ·rename_i e n xs sh hj
    cases h
    obtain ⟨h1,h2,h3⟩:=hs.close hc hj
    have hkj:k≠j:=by rintro rfl;rw [hk] at hj;cases hj
    have hk1:(L.set j (.row e n xs true))[k]? = some (.cells cs):=by rw [getElem?_set_other hkj];exact hk
    have hj1:(L.set j (.row e n xs true))[j]? = some (.row e n xs true):=getElem?_set_same hj
    obtain ⟨_,_,h3'⟩:=h1.close hc hj1
    rw [List.set_set] at h3'
    obtain ⟨h4,h5⟩:=h1.recell hk1 (cs':=cs.set p (.d (.sl n xs))) fun us hu=>VRs_cs.2 (Cs_set (VRs_cs.1 hu) hp h3')
    exact ⟨h4,h2.trans h5⟩
   ·cases h
  ·cases h
 ·cases h
def sealsAt:List (Nat×Nat)→List AB→Option (List AB)
 | [],L=>some L
 | (k,p) :: r,L=>match sealAt k p L with
   | some L'=>sealsAt r L'
   | none=>none
theorem sealsAt_ok {c:Ctx} (hc:c.wf) {E:Nat→Option Nat} {w:World}:∀ {ps:List (Nat×Nat)} {L L':List AB},SimH c E L w→sealsAt ps L=some L'→SimH c E L' w∧(rcOf c.M0 E L w).le (rcOf c.M0 E L' w)
 | [],L,L',hs,h=>by simp only [sealsAt,Option.some.injEq] at h;subst h;exact ⟨hs,.refl _⟩
 | (k,p) :: r,L,L',hs,h=>by
   simp only [sealsAt] at h
   split at h
   ·rename_i L1 h1
    obtain ⟨s1,l1⟩:=sealAt_ok hc hs h1
    obtain ⟨s2,l2⟩:=sealsAt_ok hc s1 h
    exact ⟨s2,l1.trans l2⟩
   ·cases h
theorem acalls_seals {P:Program} {f:FuncId} {avs:List AV} {Lin:List AB} {post:AV→List AB→Prop} (m:Nat) (hm:Lin.length≤m)
  (h:ACalls P f avs Lin (fun av L=>∃ (ps:List (Nat×Nat)) (L1 L2:List AB) (av':AV),sealsAt ps L=some L1∧linA (posN (List.range m) · 0) L1 (List.range m)=some L2∧renA (posN (List.range m) · 0) av=some av'∧post av' L2)) :
  ACalls P f avs Lin post:=by
 intro c vs hc hL hs hv
 refine (h c vs hc hL hs hv).mono ?_
 rintro e w' ⟨v,av,L',E',h1,⟨ps,L1,L2,av',k1,k2,k3,k4⟩,h3,h4⟩
 obtain ⟨s1,l1⟩:=sealsAt_ok hc h3 k1
 obtain ⟨s2,ld⟩:=s1.part (List.nodup_range) (fun i hi=>by
  rw [hL] at hi
  rw [List.getElem?_range (by omega)]) k2
 exact ⟨v,av',L2,_,h1,k4,s2,renA_ok ld _ _ k3 _ (VR.mono l1 _ _ h4)⟩
theorem into_seal {n k0:Nat} {σ:Type} {st:σ→AF×List AB} {good:σ→Prop} {F:AF} {L L1:List AB} (ps:List (Nat×Nat)) (hs:sealsAt ps L=some L1) (h:Into n k0 st good F L1):Into n k0 st good F L:=fun c E a w hc hcn hk hsim=>by
 obtain ⟨s1,l1⟩:=sealsAt_ok hc hsim.h hs
 exact h c E a w hc hcn hk ⟨s1,fun s=>VR.mono l1 _ _ (hsim.slots s),hsim.nt,hsim.df⟩
theorem aw_sealC {P:Program} {n k0:Nat} {code:Code} {Q:Exit→AF→List AB→Prop} {F:AF} {L L1:List AB} (ps:List (Nat×Nat)) (hs:sealsAt ps L=some L1) (h:AW P n k0 code Q F L1):AW P n k0 code Q F L:=fun c E a w hc hcn hk hsim=>by
 obtain ⟨s1,l1⟩:=sealsAt_ok hc hsim.h hs
 exact h c E a w hc hcn hk ⟨s1,fun s=>VR.mono l1 _ _ (hsim.slots s),hsim.nt,hsim.df⟩
theorem adraw_sealC {P:Program} {n k0 id:Nat} {ops:Array Oper} {K:AF→List AB→Prop} {F:AF} {L L1:List AB} (ps:List (Nat×Nat)) (hs:sealsAt ps L=some L1) (h:ADraw P n k0 id ops K F L1):ADraw P n k0 id ops K F L:=aw_sealC ps hs h
theorem acalls_seals2 {P:Program} {f:FuncId} {avs:List AV} {Lin:List AB} {post:AV→List AB→Prop}
  (h:ACalls P f avs Lin (fun av L=>∃ (m:Nat) (ps:List (Nat×Nat)) (L1 L2:List AB) (av':AV),Lin.length≤m∧sealsAt ps L=some L1∧linA (posN (List.range m) · 0) L1 (List.range m)=some L2∧renA (posN (List.range m) · 0) av=some av'∧post av' L2)) :
  ACalls P f avs Lin post:=by
 intro c vs hc hL hs hv
 refine (h c vs hc hL hs hv).mono ?_
 rintro e w' ⟨v,av,L',E',h1,⟨m,ps,L1,L2,av',hm,k1,k2,k3,k4⟩,h3,h4⟩
 obtain ⟨s1,l1⟩:=sealsAt_ok hc h3 k1
 obtain ⟨s2,ld⟩:=s1.part (List.nodup_range) (fun i hi=>by
  rw [hL] at hi
  rw [List.getElem?_range (by omega)]) k2
 exact ⟨v,av',L2,_,h1,k4,s2,renA_ok ld _ _ k3 _ (VR.mono l1 _ _ h4)⟩
end Go.Ab
