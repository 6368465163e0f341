/- PrimaryExact: contracts. -/
import Derived.Test.YtolkmjfkkkiboaaGreatPrimaryExactCodD
set_option linter.all false
set_option maxHeartbeats 2000000
set_option maxRecDepth 100000
namespace Go.Proofs.YtolkmjfkkkiboaaGreat
open Go.Ab Go.RowKit Go.MapKept Tryz
attribute [local irreducible] ay AW cw eA eo bL
structure Qq (d:Dag) (j:Nat):Prop where
 ok:∀ c∈d.aa.take j,bM d.nodes c/\d.low<c.round/\kH d c=[]
 sorted:dJ (d.aa.take j)
 dD:((d.aa.take j).map (·.ae)).Nodup
theorem gz {α:Type} {l:List α} {j:Nat} {c:α} (hc:l[j]? = some c):l.take (j+1)=l.take j++[c]:=by rw [iu,hc];rfl
theorem Qq.next {d:Dag} {j:Nat} (h:Qq d j) {c:Cert} (hc:d.aa[j]? = some c) (h1:bM d.nodes c) (h2:d.low<c.round) (h3:kH d c=[]) (h4:∀ c0,0<j->d.aa[j - 1]? = some c0->c0.before c.round c.af=true) (h5:∀ x∈d.aa.take j,x.ae≠c.ae):Qq d (j+1):=by
 have e:=gz hc;refine ⟨?_,?_,?_⟩
 ·rw [e];intro y hy;rcases gA.1 hy with hy|hy
  ·exact h.ok y hy
  ·simp at hy;rw [hy];exact ⟨h1,h2,h3⟩
 ·rw [e];refine Hi.2 ⟨h.sorted,by simp,λx hx y hy=>?_⟩;simp at hy;rw [hy];obtain ⟨i,hi,rfl⟩:=G4.1 hx;have eL:i<j:=oM;have dM:=(dW.1 hc).1;have hp:d.aa[j - 1]? = some d.aa[j - 1]:=ff oM;have hb:=h4 _ oM hp;rcases qZ i (j - 1) with bB|rl
  ·have h6:=CL.1 h.sorted i (j - 1) (by rw [mw];omega) (by rw [mw];omega) bB;rw [zdY,zdY] at h6;have h7:=bh.1 h6;have h8:=bh.1 hb;exact bh.2 oM
  ·have:i=j - 1:=oM;subst this;exact hb
 ·rw [e,RH,CN];refine ⟨h.dD,by simp,λa ha b hb=>?_⟩;obtain ⟨x,hx,rfl⟩:=px.1 ha;simp at hb;rw [hb];exact h5 x hx
theorem Qr {d:Dag} {c:Cert} (h:kH d c=[]) (hr:c.round>d.low+1):∀ x∈c.ao,∃ c'∈d.aa,c'.ae=x/\c'.round=c.round - 1:=by
 intro x hx;rw [kH,aR oM,Nr] at h;have:=h x hx;unfold lP at this
 cases hc:mZ d x with
 | none=>rw [hc] at this;simp at this
 | some c' =>
   rw [hc] at this;simp at this;obtain ⟨h1,h2,_⟩:=I_ hc;exact ⟨c',h1,h2,this⟩
theorem Qq.valid {d:Dag} (h:Qq d d.aa.length) (h1:jA d.nodes=true) (h2:0<=d.low/\d.low<=1099511627776) (h3:d.aa.length<=65536):Valid d:=by
 obtain ⟨a,b,c⟩:=h;rw [lD] at a b c;exact ⟨h1,h2,h3,λc hc=>(a c hc).1,λc hc=>(a c hc).2.1,b,c,λc hc hr=>Qr (a c hc).2.2 hr⟩
theorem sS {c:Cert} (h:c.ok):gr c:=⟨h.aE.1,h.ao.1,h.sigs.1⟩
theorem Mo (d:Dag) (h:d.ok):zA 33 [d.av] [] (λav L=>(∃ b,av = .d (.bool b)/\(b=true->Valid d))/\L=[]):=by
 have bR:=ak d.aa;have tx:=h.aa.1;refine dB func33 ntmps33 ?_;refine (iV d.nodes).mono ?_;rintro _ _ ⟨rfl,rfl⟩
 cases hn:jA d.nodes with
 | false =>
   conv=>whnf
   exact ⟨⟨_,rfl,by intro h;cases h⟩,rfl⟩
 | true =>
   have kx:=gQ hn
   conv=>whnf
   refine eF ?_;repeat' (apply tw<;>intro _)
   ·exact ⟨⟨_,rfl,by intro h;cases h⟩,rfl⟩
   ·exact ⟨⟨_,rfl,by intro h;cases h⟩,rfl⟩
   ·exact ⟨⟨_,rfl,by intro h;cases h⟩,rfl⟩
   ·rename_i sy kj WH;refine aH aF bf aG (σ:=Nat) (λj=>([(1,.ptr 0 0),(3,.k j)],[.cells d.cells])) (λj=>j<=d.aa.length/\Qq d j) (λj=>d.aa.length - j) [1,3] ?_ ?_
    ·conv=>whnf
     exact ⟨0,rfl,rfl,br _,by simp,by simp [dJ],by simp⟩
    ·rintro j ⟨hj,hinv⟩
     conv=>whnf
     refine eF ?_;repeat' (apply tw<;>intro _)
     ·rename_i dM;have YC:j<d.aa.length:=oM;refine nu (⟨_,ff YC⟩:∃ c,d.aa[j]? = some c) λc hc=>?_;have i_:=fU hc;refine ⟨oM,c.cs,aB hc,?_⟩;refine rdv ?_;refine (rW c (sS (h.aa.2 c i_)) d.nodes).mono ?_;rintro _ _ ⟨rfl,rfl⟩;by_cases wv:bM d.nodes c
      ·rw [@cz _ (Classical.propDecidable _) wv];refine rdv ?_;repeat' (apply tw<;>intro _)
       ·exact ⟨⟨_,rfl,by intro h;cases h⟩,rfl⟩
       ·rename_i fb CF;replace fb:d.low<c.round:=oM;have ai2:0<j:=oM;refine nu (⟨_,ff (oM:j - 1<d.aa.length)⟩:∃ c,d.aa[j - 1]? = some c) λc0 Hc=>?_;refine ⟨oM,c0.cs,(by rw [show ((j:Int) - 1).toNat=j - 1 by omega];exact aB Hc),?_⟩;refine rdv ?_;refine (mX c0.round c0.af c.round c.af).mono ?_;rintro _ _ ⟨rfl,rfl⟩;by_cases hb:c0.before c.round c.af=true
        ·rw [show decide (c0.round<c.round∨c0.round=c.round/\c0.af<c.af)=true from hb];have h4:∀ c0,0<j->d.aa[j - 1]? = some c0->c0.before c.round c.af=true:=by
          intro c1 _ lp;rw [Hc] at lp;cases lp;exact hb
         conv=>whnf
         refine aH aF bf aG (σ:=Nat) (λk=>([(1,.ptr 0 0),(3,.k j),(4,.ptr 1 0),(6,.k k)],[.cells d.cells,.cells c.cells])) (λk=>k<=j/\∀ x∈d.aa.take k,x.ae≠c.ae) (λk=>j - k) [1,3,4,6] ?_ ?_
         ·conv=>whnf
          exact ⟨0,rfl,rfl,oM,by simp⟩
         ·rintro k ⟨PY,qO⟩;refine rdv ?_;repeat' (apply tw<;>intro _)
          ·rename_i yd;have FN:k<j:=WC.1 yd;refine eG d.aa k λc1 lp=>?_;refine cP Ae ?_
           ((with_reducible apply aC);(focus (intro K hK;(conv=>whnf);exact ⟨oM,c1.cs,aB lp,hK⟩));(conv=>whnf))
           refine eF ?_;repeat' (apply tw<;>intro _)
           ·exact ⟨⟨_,rfl,by intro h;cases h⟩,rfl⟩
           ·rename_i ef;refine ⟨k+1,rfl,rfl,⟨oM,λy hy=>?_⟩,oM⟩;rw [gz lp] at hy;rcases gA.1 hy with hy|hy
            ·exact qO y hy
            ·simp at hy;rw [hy];exact ef
          ·rename_i yd;have PY:k=j:=oM;subst PY;refine (kI d tx c (by have:=wv.head.ao.1;omega) wv.head.round).mono ?_;rintro _ _ ⟨rfl,rfl⟩;have eM:=nums_length (kH d c)
           conv=>whnf
           rw [eM];refine eF ?_;repeat' (apply tw<;>intro _)
           ·exact ⟨⟨_,rfl,by intro h;cases h⟩,rfl⟩
           ·rename_i hl0;exact ⟨k+1,rfl,rfl,⟨oM,hinv.next hc wv fb (zdK.1 oM) h4 qO⟩,oM⟩
        ·rw [show decide (c0.round<c.round∨c0.round=c.round/\c0.af<c.af)=false from by simpa [Cert.before] using hb]
         conv=>whnf
         exact ⟨⟨_,rfl,by intro h;cases h⟩,rfl⟩
       ·rename_i fb CF;replace fb:d.low<c.round:=oM;have h4:∀ c0,0<j->d.aa[j - 1]? = some c0->c0.before c.round c.af=true:=by
         intro c1 h _;omega
        refine aH aF bf aG (σ:=Nat) (λk=>([(1,.ptr 0 0),(3,.k j),(4,.ptr 1 0),(6,.k k)],[.cells d.cells,.cells c.cells])) (λk=>k<=j/\∀ x∈d.aa.take k,x.ae≠c.ae) (λk=>j - k) [1,3,4,6] ?_ ?_
        ·conv=>whnf
         exact ⟨0,rfl,rfl,oM,by simp⟩
        ·rintro k ⟨PY,qO⟩;refine rdv ?_;repeat' (apply tw<;>intro _)
         ·rename_i yd;have FN:k<j:=WC.1 yd;refine eG d.aa k λc1 lp=>?_;refine cP Ae ?_
          ((with_reducible apply aC);(focus (intro K hK;(conv=>whnf);exact ⟨oM,c1.cs,aB lp,hK⟩));(conv=>whnf))
          refine eF ?_;repeat' (apply tw<;>intro _)
          ·exact ⟨⟨_,rfl,by intro h;cases h⟩,rfl⟩
          ·rename_i ef;refine ⟨k+1,rfl,rfl,⟨oM,λy hy=>?_⟩,oM⟩;rw [gz lp] at hy;rcases gA.1 hy with hy|hy
           ·exact qO y hy
           ·simp at hy;rw [hy];exact ef
         ·rename_i yd;have PY:k=j:=oM;subst PY;refine (kI d tx c (by have:=wv.head.ao.1;omega) wv.head.round).mono ?_;rintro _ _ ⟨rfl,rfl⟩;have eM:=nums_length (kH d c)
          conv=>whnf
          rw [eM];refine eF ?_;repeat' (apply tw<;>intro _)
          ·exact ⟨⟨_,rfl,by intro h;cases h⟩,rfl⟩
          ·rename_i hl0;exact ⟨k+1,rfl,rfl,⟨oM,hinv.next hc wv fb (zdK.1 oM) h4 qO⟩,oM⟩
      ·rw [@aP _ (Classical.propDecidable _) wv]
       conv=>whnf
       exact ⟨⟨_,rfl,by intro h;cases h⟩,rfl⟩
     ·rename_i dM;have:j=d.aa.length:=oM;subst this;exact ⟨⟨_,rfl,λ_=>hinv.valid hn ⟨oM,oM⟩ oM⟩,rfl⟩
end Go.Proofs.YtolkmjfkkkiboaaGreat
namespace Go.Proofs.YtolkmjfkkkiboaaGreat
open Go.Ab Go.RowKit Tryz
theorem acQ {d:Dag} (h:Valid d) {c:Cert} (hc:c∈d.aa):c.round<=jR d.aa:=by
 unfold jR
 cases hg:d.aa.getLast? with
 | none=>rw [List.getLast?_eq_none_iff] at hg;rw [hg] at hc;cases hc
 | some z =>
   show c.round<=z.round;obtain ⟨m,hm⟩:=List.getLast?_eq_some_iff.1 hg;have hs:=h.sorted;rw [hm] at hs hc;rcases gA.1 hc with hc|hc
   ·have:=bh.1 ((Hi.1 hs).2.2 c hc z (by simp));omega
   ·simp at hc;rw [hc];exact G8 _
end Go.Proofs.YtolkmjfkkkiboaaGreat
namespace Go.Proofs.YtolkmjfkkkiboaaGreat
open Go.Ab Go.RowKit Go.MapKept Tryz
attribute [local irreducible] ay AW cw eA eo bL
theorem Em {l:List Int} (h:dh l 1 65536):l.length<=65536:=by
 have:=sO (m:=(List.range 65536).map λn:Nat=>(n:Int)+1) (ik h.1) λx hx=>by
  have:=h.2 x hx;exact px.2 ⟨(x - 1).toNat,by simp;omega,oM⟩
 simpa using this
end Go.Proofs.YtolkmjfkkkiboaaGreat
namespace Go.Proofs.YtolkmjfkkkiboaaGreat
open Go.Ab Go.RowKit Tryz
end Go.Proofs.YtolkmjfkkkiboaaGreat
namespace Go.Proofs.YtolkmjfkkkiboaaGreat
open Go.Ab Go.RowKit Go.MapKept Tryz
attribute [local irreducible] ay AW cw eA eo bL
noncomputable def isV (d:Dag):Bool := @decide (Valid d) (Classical.propDecidable _)
theorem wx {d:Dag} (h:Valid d):isV d=true:=by unfold isV;exact @cz _ (Classical.propDecidable _) h
theorem Gn {d:Dag} (h:¬Valid d):isV d=false:=by unfold isV;exact @aP _ (Classical.propDecidable _) h
structure Qs (d:Dag) (j:Nat):Prop where
 ok:∀ c∈d.aa.take j,bM d.nodes c/\d.low<c.round
 sorted:dJ (d.aa.take j)
 dD:((d.aa.take j).map (·.ae)).Nodup
 here:∀ c∈d.aa.take j,c.round>d.low+1->∀ x∈c.ao,∃ c'∈d.aa.take j,c'.ae=x/\c'.round=c.round - 1
theorem Qs.next {d:Dag} {j:Nat} (h:Qs d j) {c:Cert} (hc:d.aa[j]? = some c) (h1:bM d.nodes c) (h2:d.low<c.round) (h3:c.round>d.low+1->∀ x∈c.ao,∃ c'∈d.aa.take j,c'.ae=x/\c'.round=c.round - 1) (h4:∀ c0,0<j->d.aa[j - 1]? = some c0->c0.before c.round c.af=true) (h5:∀ x∈d.aa.take j,x.ae≠c.ae):Qs d (j+1):=by
 have e:=gz hc;refine ⟨?_,?_,?_,?_⟩
 ·rw [e];intro y hy;rcases gA.1 hy with hy|hy
  ·exact h.ok y hy
  ·simp at hy;rw [hy];exact ⟨h1,h2⟩
 ·rw [e];refine Hi.2 ⟨h.sorted,by simp,λx hx y hy=>?_⟩;simp at hy;rw [hy];obtain ⟨i,hi,rfl⟩:=G4.1 hx;have eL:i<j:=oM;have dM:=(dW.1 hc).1;have hp:d.aa[j - 1]? = some d.aa[j - 1]:=ff oM;have hb:=h4 _ oM hp;rcases qZ i (j - 1) with bB|rl
  ·have h6:=CL.1 h.sorted i (j - 1) (by rw [mw];omega) (by rw [mw];omega) bB;rw [zdY,zdY] at h6;have h7:=bh.1 h6;have h8:=bh.1 hb;exact bh.2 oM
  ·have:i=j - 1:=oM;subst this;exact hb
 ·rw [e,RH,CN];refine ⟨h.dD,by simp,λa ha b hb=>?_⟩;obtain ⟨x,hx,rfl⟩:=px.1 ha;simp at hb;rw [hb];exact h5 x hx
 ·rw [e];intro y hy hr x hx;rcases gA.1 hy with hy|hy
  ·obtain ⟨c',k1,k2⟩:=h.here y hy hr x hx;exact ⟨c',R_ _ k1,k2⟩
  ·simp at hy;rw [hy] at hr hx ⊢;obtain ⟨c',k1,k2⟩:=h3 hr x hx;exact ⟨c',R_ _ k1,k2⟩
theorem Qs.valid {d:Dag} (h:Qs d d.aa.length) (h1:jA d.nodes=true) (h2:0<=d.low/\d.low<=1099511627776) (h3:d.aa.length<=65536):Valid d:=by
 obtain ⟨a,b,c,e⟩:=h;rw [lD] at a b c e;exact ⟨h1,h2,h3,λc hc=>(a c hc).1,λc hc=>(a c hc).2,b,c,λc hc hr x hx=>e c hc hr x hx⟩
theorem Jt {k v:Int}:∀ {ps:List (Int×Int)},iL k ps=some v->(k,v)∈ps
 | [],h=>by cases h
 | p :: r,h=>by
   rw [iL] at h;split at h
   ·rename_i e
    cases h
    rw [<-e];simp
   ·exact xg _ (Jt h)
theorem yi {l:List Cert} {x v:Int} (h:iL x (fX l)=some v):∃ c∈l,c.ae=x/\c.round=v:=by
 obtain ⟨c,hc,e⟩:=px.1 (Jt h);exact ⟨c,hc,lM Prod.fst e,lM Prod.snd e⟩
theorem OU {k:Int}:∀ {ps:List (Int×Int)},iL k ps=none->∀ p∈ps,p.1≠k
 | p :: r,h,q,hq=>by
   rw [iL] at h;split at h
   ·cases h
   ·rename_i e;rcases jy.1 hq with rfl|hq
    ·exact e
    ·exact OU h q hq
theorem En {l:List Cert} {x:Int} (h:iL x (fX l)=none):∀ c∈l,c.ae≠x:=λc hc=>OU h (c.ae,c.round) (px.2 ⟨c,hc,rfl⟩)
theorem yj (k:Int) (ps:List (Int×Int)):∃ r,mO (.one (.j k)) (qU ps) 0=some r/\((∃ v,iL k ps=some v/\∃ i,r=some (i,.v (.one (.j v))))∨(iL k ps=none/\r=none)):=by
 obtain ⟨r,h1,⟨v,i,h2,h3⟩|h2⟩:=mA k ps 0
 ·exact ⟨r,h1,.inl ⟨v,h2,i,h3⟩⟩
 ·exact ⟨r,h1,.inr h2⟩
def af3 (av:AV) (L:List AB) (d:Dag):Prop:=(∃ b,av = .d (.bool b)/\(b=true->Valid d))/\L=[]
theorem iW (d:Dag):af3 (.d (.bool false)) [] d:=⟨⟨false,rfl,by intro h;cases h⟩,rfl⟩
theorem Mp (d:Dag) (h:d.ok):zA 75 [d.av] [] (λav L=>af3 av L d):=by
 have bR:=ak d.aa;have tx:=h.aa.1;refine dB func75 ntmps75 ?_;refine (Ee d.nodes).mono ?_;rintro _ _ ⟨rfl,rfl⟩
 cases hn:jA d.nodes with
 | false =>
   conv=>whnf
   exact iW d
 | true =>
   have kx:=gQ hn;refine rdv ?_;repeat' (apply tw<;>intro _)
   ·exact iW d
   ·exact iW d
   ·exact iW d
   ·rename_i h1 h2 h3;refine aH aF bf aG (σ:=Nat) (af1 d) (λj=>j<=d.aa.length/\Qs d j) (λj=>d.aa.length - j) [1,3,30,31,32] ?_ ?_
    ·conv=>whnf
     exact ⟨0,by rw [bR];rfl,rfl,br _,by simp,by simp [dJ],by simp,by simp⟩
    ·rintro j ⟨hj,hinv⟩;refine rdv ?_;repeat' (apply tw<;>intro _)
     ·rename_i dM;have YC:j<d.aa.length:=WC.1 dM;refine nu (⟨_,ff YC⟩:∃ c,d.aa[j]? = some c) λc hc=>?_;have i_:=fU hc;have qx:=sS (h.aa.2 c i_);have fT:=nums_length c.ao;have hmc:=mY c qx d.nodes;refine ⟨oM,c.cs,aB hc,?_⟩;refine rdv ?_;refine cP Ui ?_;refine hmc.mono ?_;rintro _ _ ⟨rfl,rfl⟩;by_cases bw:bM d.nodes c
      ·rw [@cz _ (Classical.propDecidable _) bw];have WM:=bw.head.round;have Eo:=bw.head.af;refine rdv ?_;repeat' (apply tw<;>intro _)
       ·exact iW d
       ·rename_i bC;replace bC:d.low<c.round:=oM;refine nu (yj c.ae (fX (d.aa.take j))) λq hq=>?_;have El:=hq.1;refine hq.2.elim (λhv=>nu hv λv hv=>nu hv.2 λi OT=>?_) λhn2=>?_
        ·rw [OT] at El;have hvp:v>0:=nu (yi hv.1) λc' k=>by
          have:=(hinv.ok c' k.1).1.head.round;have:=k.2.2;omega
         ((with_reducible apply aC);(focus (intro K hK;(conv=>whnf);exact ⟨_,El,hK⟩));(conv=>whnf))
         refine eF ?_;repeat' (apply tw<;>intro _)
         ·exact iW d
         ·exfalso;omega
         ·exfalso;omega
        ·have BE:=hn2.1;rw [hn2.2] at El
         ((with_reducible apply aC);(focus (intro K hK;(conv=>whnf);exact ⟨_,El,hK⟩));(conv=>whnf))
         refine eF ?_;repeat' (apply tw<;>intro _)
         ·rename_i CF;refine nu (⟨_,ff (oM:j - 1<d.aa.length)⟩:∃ c,d.aa[j - 1]? = some c) λc0 Hc=>?_;have ai3:c0∈d.aa.take j:=G4.2 ⟨j - 1,oM,(dW.1 Hc).2⟩;have af4:=(hinv.ok c0 ai3).1;have amz:=af4.head.round;have amA:=af4.head.af;have hft:gL c.round/\gL c.af:=⟨⟨oM,oM⟩,⟨oM,oM⟩⟩;have UY:gL c0.round/\gL c0.af:=⟨⟨oM,oM⟩,⟨oM,oM⟩⟩;have ai4:=qe UY.1 UY.2 hft.1 hft.2
          ((with_reducible apply aC);(focus (intro K hK;(conv=>whnf);exact ⟨oM,c0.cs,(by rw [show ((j:Int) - 1).toNat=j - 1 by omega];exact aB Hc),hK⟩));(conv=>whnf))
          (refine eF ?_)
          refine aQ (jn c0) ?_;refine aQ (jn c) ?_;refine ai4.mono ?_;rintro _ _ ⟨rfl,rfl⟩;by_cases hb:c0.before c.round c.af=true
          ·rw [show decide (c0.round<c.round∨c0.round=c.round/\c0.af<c.af)=true from hb];have h4:∀ c0,0<j->d.aa[j - 1]? = some c0->c0.before c.round c.af=true:=by
            intro c1 _ lp;rw [Hc] at lp;cases lp;exact hb
           refine rdv ?_;refine aH aF bf aG (σ:=Nat) (YB d j c) (λm=>m<=c.ao.length/\(c.round>d.low+1->∀ x∈c.ao.take m,∃ c'∈d.aa.take j,c'.ae=x/\c'.round=c.round - 1)) (λm=>c.ao.length - m) [1,3,5,30,31,32,76,77,78] ?_ ?_
           ·conv=>whnf
            exact ⟨0,by rw [fT];rfl,rfl,br _,by simp⟩
           ·rintro m ⟨hm,bK⟩;refine rdv ?_;repeat' (apply tw<;>intro _)
            ·rename_i zy;have UR:m<c.ao.length:=WC.1 zy;have YD:=qx.ao;unfold aU at YD;refine nu (⟨_,ff UR⟩:∃ x,c.ao[m]? = some x) λx hx=>?_;refine ⟨oM,[.j x],bD hx,?_⟩;refine rdv ?_;repeat' (apply tw<;>intro _)
             ·rename_i hrl;refine nu (yj x (fX (d.aa.take j))) λq hq=>?_;have El:=hq.1;refine hq.2.elim (λhv=>nu hv λv hv=>nu hv.2 λi OT=>?_) λhn=>?_
              ·rw [OT] at El;refine ⟨_,El,?_⟩;refine rdv ?_;repeat' (apply tw<;>intro _)
               ·exact iW d
               ·rename_i XO;refine ⟨m+1,rfl,rfl,⟨oM,λhr y hy=>?_⟩,oM⟩;rw [gz hx] at hy;rcases gA.1 hy with hy|hy
                ·exact bK hr y hy
                ·simp at hy;obtain ⟨c',k1,k2,k3⟩:=yi hv.1;exact ⟨c',k1,by rw [k2,hy],by rw [k3];exact XO⟩
              ·rw [hn.2] at El;refine ⟨_,El,?_⟩;refine rdv ?_;repeat' (apply tw<;>intro _)
               ·exact iW d
               ·rename_i XO;exfalso;omega
             ·rename_i hrl;exact ⟨m+1,rfl,rfl,⟨oM,λhr=>absurd hr hrl⟩,oM⟩
            ·rename_i zy;rw [gx oM] at bK;refine nu (wh (v:=c.round) BE) λq hq=>?_;refine ⟨q,hq.1,?_⟩;have gd:gg (qU (fX (d.aa.take j))) q (.one (.j c.ae)) (.v (.one (.j c.round)))=qU (fX (d.aa.take (j+1))):=by
              rw [hq.2,iu,hc];simp [fX]
             rw [gd];refine rdv ?_;exact ⟨j+1,rfl,rfl,⟨oM,hinv.next hc bw bC bK h4 (En BE)⟩,oM⟩
          ·rw [show decide (c0.round<c.round∨c0.round=c.round/\c0.af<c.af)=false from by simpa [Cert.before] using hb];refine rdv ?_;exact iW d
         ·rename_i CF;have h4:∀ c0,0<j->d.aa[j - 1]? = some c0->c0.before c.round c.af=true:=by
           intro c1 h _;omega
          refine aH aF bf aG (σ:=Nat) (YB d j c) (λm=>m<=c.ao.length/\(c.round>d.low+1->∀ x∈c.ao.take m,∃ c'∈d.aa.take j,c'.ae=x/\c'.round=c.round - 1)) (λm=>c.ao.length - m) [1,3,5,30,31,32,76,77,78] ?_ ?_
          ·conv=>whnf
           exact ⟨0,by rw [fT];rfl,rfl,br _,by simp⟩
          ·rintro m ⟨hm,bK⟩;refine rdv ?_;repeat' (apply tw<;>intro _)
           ·rename_i zy;have UR:m<c.ao.length:=WC.1 zy;have YD:=qx.ao;unfold aU at YD;refine nu (⟨_,ff UR⟩:∃ x,c.ao[m]? = some x) λx hx=>?_;refine ⟨oM,[.j x],bD hx,?_⟩;refine rdv ?_;repeat' (apply tw<;>intro _)
            ·rename_i hrl;refine nu (yj x (fX (d.aa.take j))) λq hq=>?_;have El:=hq.1;refine hq.2.elim (λhv=>nu hv λv hv=>nu hv.2 λi OT=>?_) λhn=>?_
             ·rw [OT] at El;refine ⟨_,El,?_⟩;refine rdv ?_;repeat' (apply tw<;>intro _)
              ·exact iW d
              ·rename_i XO;refine ⟨m+1,rfl,rfl,⟨oM,λhr y hy=>?_⟩,oM⟩;rw [gz hx] at hy;rcases gA.1 hy with hy|hy
               ·exact bK hr y hy
               ·simp at hy;obtain ⟨c',k1,k2,k3⟩:=yi hv.1;exact ⟨c',k1,by rw [k2,hy],by rw [k3];exact XO⟩
             ·rw [hn.2] at El;refine ⟨_,El,?_⟩;refine rdv ?_;repeat' (apply tw<;>intro _)
              ·exact iW d
              ·rename_i XO;exfalso;omega
            ·rename_i hrl;exact ⟨m+1,rfl,rfl,⟨oM,λhr=>absurd hr hrl⟩,oM⟩
           ·rename_i zy;rw [gx oM] at bK;refine nu (wh (v:=c.round) BE) λq hq=>?_;refine ⟨q,hq.1,?_⟩;have gd:gg (qU (fX (d.aa.take j))) q (.one (.j c.ae)) (.v (.one (.j c.round)))=qU (fX (d.aa.take (j+1))):=by
             rw [hq.2,iu,hc];simp [fX]
            rw [gd];refine rdv ?_;exact ⟨j+1,rfl,rfl,⟨oM,hinv.next hc bw bC bK h4 (En BE)⟩,oM⟩
      ·rw [@aP _ (Classical.propDecidable _) bw];refine rdv ?_;exact iW d
     ·rename_i dM;have:j=d.aa.length:=oM;subst this;exact ⟨⟨_,rfl,λ_=>hinv.valid hn ⟨oM,oM⟩ oM⟩,rfl⟩
theorem y7 (d:Dag) (h:d.ok):zA 75 [d.av] [] (pQ (.d (.bool (isV d))) []):=by
 by_cases hv:Valid d
 ·rw [wx hv];exact Qo d hv
 ·rw [Gn hv];refine (Mp d h).mono ?_;rintro _ _ ⟨⟨b,rfl,hb⟩,rfl⟩
  cases b with
  | true=>exact absurd (hb rfl) hv
  | false=>exact ⟨rfl,rfl⟩
theorem Valid.aaw {d:Dag} (h:Valid d) {c:Cert} (hc:c∈d.aa):kH d c=[]:=by
 unfold kH;split
 ·rfl
 ·rename_i hr;refine Nr.2 λx hx=>?_;obtain ⟨c',k1,k2,k3⟩:=h.here c hc oM x hx;unfold lP;rw [<-k2,L_ h.dD k1];simp [k3]
theorem qh {d:Dag} (h:Valid d) {j:Nat} {c:Cert} (hc:d.aa[j]? = some c):(∀ y∈d.aa.take j,y.before c.round c.af=true)/\(∀ y∈d.aa.take j,y.ae≠c.ae):=by
 obtain ⟨hj,rfl⟩:=dW.1 hc;refine ⟨λy hy=>?_,λy hy e=>?_⟩
 ·obtain ⟨i,hi,rfl⟩:=G4.1 hy;exact CL.1 h.sorted i j oM hj oM
 ·obtain ⟨i,hi,rfl⟩:=G4.1 hy;have:=CL.1 h.dD i j (by simp;omega) (by simp;omega) oM;simp at this;exact this e
theorem Gp (d:Dag) (h:Valid d):zA 33 [d.av] [] (pQ (.d (.bool true)) []):=by
 have bR:=ak d.aa;have fb:=h.low;have hlen:=h.len;have kx:=gQ h.nodes;have tx:aU d.aa:=by unfold aU;omega
 refine dB func33 ntmps33 ?_;refine (iV d.nodes).mono ?_;rintro _ _ ⟨rfl,rfl⟩;rw [h.nodes];refine rdv ?_;repeat' (apply tw<;>intro _)
 ·exfalso;omega
 ·exfalso;omega
 ·exfalso;omega
 ·refine aH aF bf aG (σ:=Nat) (λj=>([(1,.ptr 0 0),(3,.k j)],[.cells d.cells])) (λj=>j<=d.aa.length) (λj=>d.aa.length - j) [1,3] ?_ ?_
  ·conv=>whnf
   exact ⟨0,rfl,rfl,br _⟩
  ·intro j hj;refine rdv ?_;repeat' (apply tw<;>intro _)
   ·rename_i dM;have YC:j<d.aa.length:=oM;refine nu (⟨_,ff YC⟩:∃ c,d.aa[j]? = some c) λc hc=>?_;have i_:=fU hc;have wv:=h.aa c i_;have hlo:=h.OK c i_;refine ⟨oM,c.cs,aB hc,?_⟩;refine rdv ?_;refine (rW c (h.gr i_) d.nodes).mono ?_;rintro _ _ ⟨rfl,rfl⟩;rw [@cz _ (Classical.propDecidable _) wv];refine rdv ?_;repeat' (apply tw<;>intro _)
    ·exfalso;omega
    ·rename_i fb CF;have ai2:0<j:=oM;refine nu (⟨_,ff (oM:j - 1<d.aa.length)⟩:∃ c,d.aa[j - 1]? = some c) λc0 Hc=>?_;have hb:c0.before c.round c.af=true:=(qh h hc).1 c0 (G4.2 ⟨j - 1,oM,(dW.1 Hc).2⟩);refine ⟨oM,c0.cs,(by rw [show ((j:Int) - 1).toNat=j - 1 by omega];exact aB Hc),?_⟩;refine rdv ?_;refine (mX c0.round c0.af c.round c.af).mono ?_;rintro _ _ ⟨rfl,rfl⟩;rw [show decide (c0.round<c.round∨c0.round=c.round/\c0.af<c.af)=true from hb]
     conv=>whnf
     refine aH aF bf aG (σ:=Nat) (λk=>([(1,.ptr 0 0),(3,.k j),(4,.ptr 1 0),(6,.k k)],[.cells d.cells,.cells c.cells])) (λk=>k<=j) (λk=>j - k) [1,3,4,6] ?_ ?_
     ·conv=>whnf
      exact ⟨0,rfl,rfl,oM⟩
     ·intro k PY;refine rdv ?_;repeat' (apply tw<;>intro _)
      ·rename_i yd;have FN:k<j:=WC.1 yd;refine eG d.aa k λc1 lp=>?_;have ef:c1.ae≠c.ae:=(qh h hc).2 c1 (G4.2 ⟨k,oM,(dW.1 lp).2⟩);refine cP Ae ?_
       ((with_reducible apply aC);(focus (intro K hK;(conv=>whnf);exact ⟨oM,c1.cs,aB lp,hK⟩));(conv=>whnf))
       refine eF ?_;repeat' (apply tw<;>intro _)
       ·rename_i he;exact absurd he ef
       ·exact ⟨k+1,rfl,rfl,oM,oM⟩
      ·rename_i yd;have PY:k=j:=oM;subst PY;refine (kI d tx c (by have:=wv.head.ao.1;omega) wv.head.round).mono ?_;rintro _ _ ⟨rfl,rfl⟩;rw [h.aaw i_];refine rdv ?_;exact ⟨k+1,rfl,rfl,oM,oM⟩
    ·rename_i fb CF;refine aH aF bf aG (σ:=Nat) (λk=>([(1,.ptr 0 0),(3,.k j),(4,.ptr 1 0),(6,.k k)],[.cells d.cells,.cells c.cells])) (λk=>k<=j) (λk=>j - k) [1,3,4,6] ?_ ?_
     ·conv=>whnf
      exact ⟨0,rfl,rfl,oM⟩
     ·intro k PY;refine rdv ?_;repeat' (apply tw<;>intro _)
      ·rename_i yd;have FN:k<j:=WC.1 yd;refine eG d.aa k λc1 lp=>?_;have ef:c1.ae≠c.ae:=(qh h hc).2 c1 (G4.2 ⟨k,oM,(dW.1 lp).2⟩);refine cP Ae ?_
       ((with_reducible apply aC);(focus (intro K hK;(conv=>whnf);exact ⟨oM,c1.cs,aB lp,hK⟩));(conv=>whnf))
       refine eF ?_;repeat' (apply tw<;>intro _)
       ·rename_i he;exact absurd he ef
       ·exact ⟨k+1,rfl,rfl,oM,oM⟩
      ·rename_i yd;have PY:k=j:=oM;subst PY;refine (kI d tx c (by have:=wv.head.ao.1;omega) wv.head.round).mono ?_;rintro _ _ ⟨rfl,rfl⟩;rw [h.aaw i_];refine rdv ?_;exact ⟨k+1,rfl,rfl,oM,oM⟩
   ·exact ⟨rfl,rfl⟩
theorem Gq (d:Dag) (h:d.ok):zA 33 [d.av] [] (pQ (.d (.bool (isV d))) []):=by
 by_cases hv:Valid d
 ·rw [wx hv];exact Gp d hv
 ·rw [Gn hv];refine (Mo d h).mono ?_;rintro _ _ ⟨⟨b,rfl,hb⟩,rfl⟩
  cases b with
  | true=>exact absurd (hb rfl) hv
  | false=>exact ⟨rfl,rfl⟩
end Go.Proofs.YtolkmjfkkkiboaaGreat
