/- NodeFormsCard: abstract runs. -/
import Derived.Test.YtgkhgapkfnkagaaGreatDoorNodeFormsCardLy27
set_option linter.unusedVariables false
set_option linter.unusedSimpArgs false
namespace Go.Ab
open Go.RowKit
theorem Cs_set {α:Type} {r:α→Value→Prop}:∀ {xs:List α} {us:List Value} {p:Nat} {x y:α},Cs r xs us→xs[p]? = some x→(∀ v,r x v→r y v)→Cs r (xs.set p y) us
 | [],us,p,x,y,h,hx,hr=>by simp at hx
 | a :: l,us,p,x,y,h,hx,hr=>by
   simp only [Cs] at h
   obtain ⟨u,us',rfl,h0,h1,h2⟩:=h
   cases p with
   | zero =>
     simp at hx
     subst hx
     simp only [List.set_cons_zero,Cs]
     exact ⟨u,us',rfl,h0,hr _ h1,h2⟩
   | succ p =>
     simp at hx
     simp only [List.set_cons_succ,Cs]
     exact ⟨u,us',rfl,h0,h1,Cs_set h2 hx hr⟩
theorem SimH.recell {c:Ctx} {E:Nat→Option Nat} {L:List AB} {w:World} (h:SimH c E L w) {i:Nat} {cs cs':List AV} (hi:L[i]? = some (.cells cs))
  (hv:∀ us,VRs (rcOf c.M0 E L w) cs us→VRs (rcOf c.M0 E L w) cs' us) :
  SimH c E (L.set i (.cells cs')) w∧(rcOf c.M0 E L w).le (rcOf c.M0 E (L.set i (.cells cs')) w):=by
 obtain ⟨b,cur,e,hb,hh,hvs⟩:=h.blk i _ hi
 have hlen:cs'.length=cs.length:=by rw [← VRs_length (hv _ hvs),VRs_length hvs]
 have hle:(rcOf c.M0 E L w).le (rcOf c.M0 E (L.set i (.cells cs')) w) :=
  le_set h hi rfl (.refl _ _) (fun o _=>trivial) (fun _ _ _ _ _ h=>h) rfl (fun v hv=>by simp only [arRel] at hv ⊢;rw [hlen];exact hv) (fun _ _ _ hv=>hv) (fun _ hb=>hb)
 exact ⟨h.setE hi rfl (.refl _ _) hle rfl ⟨b,cur,e,hb,hh,VRs.mono hle _ _ (hv _ hvs)⟩ rfl,hle⟩
def sealAt (k p:Nat) (L:List AB):Option (List AB) :=
 match L[k]? with
 | some (.cells cs)=>match cs[p]? with
   | some (.arr j)=>match L[j]? with
     | some (.row e n xs _)=>some ((L.set j (.row e n xs true)).set k (.cells (cs.set p (.d (.sl n xs)))))
     | _=>none
   | _=>none
 | _=>none
theorem sealAt_ok {c:Ctx} (hc:c.wf) {E:Nat→Option Nat} {L L':List AB} {w:World} (hs:SimH c E L w) {k p:Nat} (h:sealAt k p L=some L') :
  SimH c E L' w∧(rcOf c.M0 E L w).le (rcOf c.M0 E L' w):=by
 unfold sealAt at h
 split at h
 ·rename_i cs hk
  split at h
  ·rename_i j hp
   split at h
   ·rename_i e n xs sh hj
    cases h
    obtain ⟨h1,h2,h3⟩:=hs.close hc hj
    have hkj:k≠j:=by rintro rfl;rw [hk] at hj;cases hj
    have hk1:(L.set j (.row e n xs true))[k]? = some (.cells cs):=by rw [getElem?_set_other hkj];exact hk
    have hj1:(L.set j (.row e n xs true))[j]? = some (.row e n xs true):=getElem?_set_same hj
    obtain ⟨_,_,h3'⟩:=h1.close hc hj1
    rw [List.set_set] at h3'
    obtain ⟨h4,h5⟩:=h1.recell hk1 (cs':=cs.set p (.d (.sl n xs))) fun us hu=>VRs_cs.2 (Cs_set (VRs_cs.1 hu) hp h3')
    exact ⟨h4,h2.trans h5⟩
   ·cases h
  ·cases h
 ·cases h
def sealsAt:List (Nat×Nat)→List AB→Option (List AB)
 | [],L=>some L
 | (k,p) :: r,L=>match sealAt k p L with
   | some L'=>sealsAt r L'
   | none=>none
theorem sealsAt_ok {c:Ctx} (hc:c.wf) {E:Nat→Option Nat} {w:World}:∀ {ps:List (Nat×Nat)} {L L':List AB},SimH c E L w→sealsAt ps L=some L'→SimH c E L' w∧(rcOf c.M0 E L w).le (rcOf c.M0 E L' w)
 | [],L,L',hs,h=>by simp only [sealsAt,Option.some.injEq] at h;subst h;exact ⟨hs,.refl _⟩
 | (k,p) :: r,L,L',hs,h=>by
   simp only [sealsAt] at h
   split at h
   ·rename_i L1 h1
    obtain ⟨s1,l1⟩:=sealAt_ok hc hs h1
    obtain ⟨s2,l2⟩:=sealsAt_ok hc s1 h
    exact ⟨s2,l1.trans l2⟩
   ·cases h
end Go.Ab
