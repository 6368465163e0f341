/- PrimaryExact: abstract runs. -/
import Derived.Test.YtolkmjfkkkiboaaGreatPrimaryExactLy20
set_option linter.all false
namespace Go.Ab
noncomputable section
open Go.RowKit
section
variable {P:Program} {tt:TypeId->Option TI} {fo:FuncId->Bool} {n:Nat}
theorem vK {o:Oper} {m:Nat}:m∈nz o↔∃ e∈o.after,Region.binds .any e=true/\e.on=m:=by
 unfold nz;simp only [px,G7];constructor
 ·rintro ⟨e,⟨h1,h2⟩,h3⟩;exact ⟨e,by simpa using h1,h2,h3⟩
 ·rintro ⟨e,h1,h2,h3⟩;exact ⟨e,⟨by simpa using h1,h2⟩,h3⟩
structure Bg (full:List Oper) (A:List (List Nat)) (es:List Nat):Prop where
 dst:TA full
 lf:∀ j i,i∈gk A j->∃ o,full[j]? = some o/\(i∈nz o∨∃ m∈nz o,i∈gk A m)
 low:∀ (j:Nat) o,full[j]? = some o->∀ m∈nz o,m<j
structure abO (P:Program) (tt:TypeId->Option TI) (fo:FuncId->Bool) (n:Nat) (c:Ctx) (full:List Oper) (A:List (List Nat)) (es:List Nat) (K:AF->List AB->Prop)
  (ph:List (Nat×List Nat)) (bW pre:List Nat) (F:AF) (L:List AB) (D:PD) (bc:Array Bool) (a:Act) (w:World):Prop where
 size:bc.size=full.length
 un:∀ i,bc.getD i true=false↔(i∈bW∨i∈later ph)
 down:∀ j o,full[j]? = some o->j∉bW->j∉later ph->∀ m∈nz o,m∉bW/\m∉later ph
 sim:∃ E,eE c E (mask (dstsOf full bW) F) L a w
 facts:∀ p∈D,DF P tt fo full A es pre F L p
 tS:∀ i∈bW,∃ v o,(i,v)∈D/\full[i]? = some o/\jM n o.dst=true
 look:lH full A es pre (later ph)
 nd:(bW++later ph).Nodup
 Z4:∀ j∈later ph,j∉pre
 chain:∃ p,uA A es p ph
 tree:rK P tt fo n full A ph F L D K
theorem abO.Bh {c:Ctx} {full:List Oper} {A:List (List Nat)} {es:List Nat} {K:AF->List AB->Prop} {ph:List (Nat×List Nat)} {bW pre:List Nat} {F:AF} {L:List AB} {D:PD} {bc:Array Bool} {a:Act} {w:World}
  (h:abO P tt fo n c full A es K ph bW pre F L D bc a w):∀ i∈bW,i∉es:=λi hi=>by
 obtain ⟨v,o,h1,_⟩:=h.tS i hi;obtain ⟨_,_,_,_,_,h5,_⟩:=h.facts _ h1;exact h5
theorem Bi {full:List Oper} {A:List (List Nat)} {es:List Nat} (hp:Bg full A es) {U:Nat->Prop} (down:∀ (j:Nat) o,full[j]? = some o->¬U j->∀ m∈nz o,¬U m) :
  ∀ (j:Nat) o,full[j]? = some o->(∀ m∈nz o,¬U m)->∀ i∈gk A j,¬U i:=by
 intro j
 induction j using Nat.strongRecOn with
 | _ j ih =>
   intro o ho hd i hi;obtain ⟨o',KL,h⟩:=hp.lf j i hi;rw [ho] at KL
   cases KL
   rcases h with h|⟨m,hm,Xl⟩
   ·exact hd i h
   ·obtain ⟨om,hom,_⟩:=hp.lf m i Xl;exact ih m (hp.low j o ho m hm) om hom (down m om hom (hd m hm)) i Xl
theorem cr {e:Nat} {rs:List Nat} {r:List (Nat×List Nat)} {j:Nat}:j∈later ((e,rs) :: r)↔j=e∨j∈rs∨j∈later r:=by simp [later]
theorem Bj (ht:cp P tt) (hz:jL tt) (eZ:jx P fo) {full:List Oper} {A:List (List Nat)} {es:List Nat} (hp:Bg full A es) {c:Ctx} (hc:c.wf) (dS:c.n=n) {K:AF->List AB->Prop} {Q:Exit->Act->World->Prop}
  (hq:∀ E F L a w,K F L->eE c E F L a w->Q .normal a w):∀ (fuel:Nat) (ph:List (Nat×List Nat)) (bW pre:List Nat) (F:AF) (L:List AB) (D:PD) (bc:Array Bool) (a:Act) (w:World),
  abO P tt fo n c full A es K ph bW pre F L D bc a w->fuel=bW.length+(later ph).length->wpAny P .any full.toArray Q fuel bc a w:=by
 intro fuel
 induction fuel with
 | zero =>
   intro ph bW pre F L D bc a w h hf;have h1:bW=[]:=zdK.1 oM;have h2:later ph=[]:=zdK.1 oM;have h3:ph=[]:=by
    cases ph with
    | nil=>rfl
    | cons x r=>obtain ⟨e,rs⟩:=x;simp [later] at h2
   subst h1 h3;refine ⟨?_,?_⟩
   ·rw [zeF];intro j hj;have:=(h.un j).1 (mem_ready.1 hj).1;simp [later] at this
   ·obtain ⟨E,hs⟩:=h.sim;have ht:=h.tree;simp only [rK] at ht;exact hq E F L a w ht hs
 | succ fuel ih =>
   intro ph bW pre F L D bc a w h hf
   -- SX is not done
   have bB:∀ j,(j∈bW∨j∈later ph)->∃ o,full[j]? = some o:=by
    intro j hj;have h1:=(h.un j).2 hj;rcases qZ j bc.size with h2|h2
    ·rw [h.size] at h2;exact ⟨full[j],by simp [h2]⟩
    ·simp [zfO.2 h2] at h1
   have Iq:∀ (o:Oper),(∀ e∈o.after,Region.binds .any e=true->bc.getD e.on false=true)↔(∀ m∈nz o,m<full.length/\m∉bW/\m∉later ph):=by
    intro o;have one:∀ m,bc.getD m false=true↔(m<full.length/\m∉bW/\m∉later ph):=by
     intro m;have hu:=h.un m;rw [<-h.size];rcases qZ m bc.size with h2|h2
     ·simp only [zc7,ZE h2,zfL] at hu ⊢
      cases hb:bc[m] with
      | true=>rw [hb] at hu;simp at hu;simp [h2,hu]
      | false=>rw [hb] at hu;simp at hu;simp;intro _ hn;exact hu.resolve_left hn
     ·simp [zc7,Array.getElem?_eq_none h2,zfO.2 h2]
    constructor
    ·intro h1 m hm;obtain ⟨e,he,hb,rfl⟩:=vK.1 hm;exact (one _).1 (h1 e he hb)
    ·intro h1 e he hb;exact (one _).2 (h1 _ (vK.2 ⟨e,he,hb,rfl⟩))
   have Bk:∀ j,j∈Region.ready .any full.toArray bc↔(j∈bW∨j∈later ph)/\∃ o,full[j]? = some o/\∀ m∈nz o,m<full.length/\m∉bW/\m∉later ph:=by
    intro j;rw [mem_ready,h.un];constructor
    ·rintro ⟨h1,o,h2,h3⟩;exact ⟨h1,o,by simpa using h2,(Iq o).1 h3⟩
    ·rintro ⟨h1,o,h2,h3⟩;exact ⟨h1,o,by simpa using h2,(Iq o).2 h3⟩
   refine ⟨?_,?_⟩
   · -- PW may go
     intro h0;exfalso;have none:∀ j,¬(j∈bW∨j∈later ph):=by
      intro j
      induction j using Nat.strongRecOn with
      | _ j ihj =>
        intro hj;obtain ⟨o,ho⟩:=bB j hj;have:j∈Region.ready .any full.toArray bc:=(Bk j).2 ⟨hj,o,ho,λm hm=>by
         have RK:=hp.low j o ho m hm;have dM:j<full.length:=(dW.1 ho).1;have:=ihj m RK;simp only [CO] at this;exact ⟨oM,this⟩⟩
        rw [h0] at this
        cases this
     have:bW++later ph=[]:=zeF.2 λj hj=>none j (gA.1 hj);have:=lM List.length this;rw [iQ,Du] at this;omega
   ·intro i hi;obtain ⟨ZW,o,ho,tT⟩:=(Bk i).1 hi;have TE:∀ (j:Nat) o,full[j]? = some o->¬(j∈bW∨j∈later ph)->∀ m∈nz o,¬(m∈bW∨m∈later ph):=by
     intro j o ho hj m hm;simp only [CO] at hj ⊢;exact h.down j o ho hj.1 hj.2 m hm
    have xQ:=Bi hp TE i o ho (λm hm=>by have:=tT m hm;simp only [CO];exact this.2);obtain ⟨E,hs⟩:=h.sim;have TF:i<bc.size:=by rw [h.size];exact (dW.1 ho).1
    have FG:∀ j,(bc.setIfInBounds i true).getD j true=false↔j≠i/\(j∈bW∨j∈later ph):=by
     intro j;by_cases cA:i=j
     ·subst cA;simp [TF]
     ·rw [getD_set_ne true cA,h.un];simp [Ne.symm cA]
    by_cases lO:i∈bW
    · -- one SI was TG
      obtain ⟨v,o',hvD,KL,FW⟩:=h.tS i lO;rw [ho] at KL
      cases KL
      obtain ⟨o',KL,hg,hdv,C2,abP,pA⟩:=h.facts _ hvD;simp only at KL hg hdv C2 abP pA;rw [ho] at KL
      cases KL
      have jP:∀ s∈lg full o,bt F s=bt (mask (dstsOf full bW) F) s:=by
       intro s n_;rw [bk];intro hm;obtain ⟨k,hk,ok,bw,qO⟩:=bV.1 hm;rcases pA s n_ k ok bw qO with ⟨_,b⟩|⟨b,_⟩
       ·exact xQ k b (.inl hk)
       ·exact h.Bh k hk b
      obtain ⟨b,g1,g2,g3⟩:=vG (ky jP hg);have qQ:∀ x,o.dst=some x->x<c.n:=by rw [dS];exact rE FW
      have next:∀ E' a' w',eE c E' (cu (mask (dstsOf full bW) F) o.dst v) L a' w'->wpAny P .any full.toArray Q fuel (bc.setIfInBounds i true) a' w':=by
       intro E' a' w' bP;have fh:=h.nd;rw [CN] at fh;have tu:∀ j,j∈bW.erase i↔j≠i/\j∈bW:=λj=>fh.1.mem_erase_iff;have eL:i∉later ph:=λhl=>fh.2.2 i lO i hl rfl;refine ih ph (bW.erase i) pre F L D _ a' w' ⟨by simpa using h.size,?_,?_,?_,h.facts,λj hj=>h.tS j ((tu j).1 hj).2,h.look,?_,h.Z4,h.chain,h.tree⟩ ?_
       ·intro j;rw [FG,tu];constructor
        ·rintro ⟨h1,h2|h2⟩
         ·exact .inl ⟨h1,h2⟩
         ·exact .inr h2
        ·rintro (⟨h1,h2⟩|h2)
         ·exact ⟨h1,.inl h2⟩
         ·exact ⟨λe=>eL (e▸h2),.inr h2⟩
       ·intro j oj LH pK lA m hm;rw [tu] at pK ⊢;by_cases cA:j=i
        ·subst cA;rw [ho] at LH
         cases LH
         have:=tT m hm;exact ⟨λhh=>this.2.1 hh.2,this.2.2⟩
        ·have:=h.down j oj LH (λhh=>pK ⟨cA,hh⟩) lA m hm;exact ⟨λhh=>this.1 hh.2,this.2⟩
       ·refine ⟨E',bP.vg λs=>?_⟩;by_cases fD:s∈dstsOf full (bW.erase i)
        ·right;exact dU fD
        ·left;rw [bk fD];by_cases hd:o.dst=some s
         ·rw [jk hd];exact hdv s hd
         ·rw [ep hd,bk];intro hm;obtain ⟨k,hk,ok,bw,qO⟩:=bV.1 hm;by_cases Ha:k=i
          ·subst Ha;rw [ho] at bw;cases bw;exact hd qO
          ·exact fD (bV.2 ⟨k,(tu k).2 ⟨Ha,hk⟩,ok,bw,qO⟩)
       ·rw [CN];exact ⟨fh.1.erase i,fh.2.1,λx hx y hy=>fh.2.2 x ((tu x).1 hx).2 y hy⟩
       ·rw [zfA lO];have:=zfG lO;omega
      refine N8 (Kop:=λv' L'=>v'=v/\L'=L) ho qQ hs g1 (λhb=>N7 ht hz eZ hc (g2 hb _ ⟨rfl,rfl⟩) hs) (λhb=>?_) ?_
      ·have hv:=g3 hb;subst hv;exact next E _ w (hs.put o.dst (.tup []) undef qQ (by simp [VR,cD,undef]))
      ·rintro av L' E' a' w' ⟨rfl,rfl⟩ bP;exact next E' a' w' bP
    · -- DE next effect
      have eL:i∈later ph:=ZW.resolve_left lO;obtain ⟨p0,WJ⟩:=h.chain;have afn:∃ rs rest,ph=(i,rs) :: rest:=by
       rcases xP WJ i eL with ⟨e,rs,rest,hph,rfl⟩|⟨m,hm1,hm2⟩
       ·exact ⟨rs,rest,hph⟩
       ·exact absurd (.inr hm1) (xQ m hm2)
      obtain ⟨rs,rest,hph⟩:=afn;subst hph;have oR:=h.tree;simp only [rK,lh,ho] at oR
      cases FW:jM n o.dst with
      | false=>rw [FW] at oR;exact oR.elim
      | true =>
        rw [FW] at oR;simp only [jB] at oR;obtain ⟨F1,b,TC,oO,gi,vI⟩:=sJ oR;have qQ:∀ x,o.dst=some x->x<c.n:=by rw [dS];exact rE FW
        have eO:=h.look;simp only [later] at eO;have hl:=eO.1 o ho;have vJ:i∉pre:=h.Z4 i eL;have jP:∀ s∈lg full o,bt F1 s=bt (mask (dstsOf full bW) F1) s:=by
         intro s n_;rw [bk];intro hm;obtain ⟨k,hk,ok,bw,qO⟩:=bV.1 hm;rcases hl s n_ k ok bw qO with ⟨_,b⟩|⟨_,b,_⟩
         ·exact xQ k b (.inl hk)
         ·exact h.Bh k hk b
        have dR:eE c E (mask (dstsOf full bW) F1) L a w:=hs.vg λs=>by
         by_cases fD:s∈dstsOf full bW
         ·right;exact dU fD
         ·left;rw [bk fD,bk fD,TC]
        have fh:=h.nd;simp only [later] at fh;rw [CN,Pw] at fh;have next:∀ av L' E' a' w',(rJ P tt fo full (gk A i) (cu F1 o.dst av) L' D λD=>rI P tt fo n full rs (cu F1 o.dst av) L' D λF D=>rK P tt fo n full A rest F L' D K) ->
          eE c E' (cu (mask (dstsOf full bW) F1) o.dst av) L' a' w'->(∀ p∈D,p.1∉gk A i->∀ o',full[p.1]? = some o'->qA o'=true->True)->wpAny P .any full.toArray Q fuel (bc.setIfInBounds i true) a' w':=by
         intro av L' E' a' w' hk bP _;obtain ⟨D1,hr,Bl,hk2⟩:=rM hk;have hD1:∀ p∈D1,DF P tt fo full A es (i :: pre) (cu F1 o.dst av) L' p:=by
          intro p RT;obtain ⟨q1,q2,op,q3,q4⟩:=hk2 p RT;have hdf:=(((h.facts p q1).frame TC).put hp.dst ho vJ (.inr q2) av (pre':=i :: pre) (λx hx=>xg _ hx));obtain ⟨op',r1,r2,r3,r4,r5,r6⟩:=hdf;rw [q3] at r1
          cases r1
          refine ⟨op,q3,?_,r3,r4,r5,r6⟩;rcases q4 with q4|q4
          ·exact Tz q4 r2 L'
          ·exact q4
         obtain ⟨F3,D3,abQ,m1,m2,m2b,m3,m4,m5,m6⟩:=vH (rest:=later rest) hp.dst hr eO.2 fh.2.1.2 (λj hj=>by
          simp only [jy,CO];exact ⟨λe=>fh.2.1.1 (e▸hj),h.Z4 j (by rw [cr];right;exact gA.1 hj)⟩) (λx hx=>(WJ.2.1 x hx).2) hD1
         refine ih rest (rs++bW) abQ F3 L' D3 _ a' w' ⟨by simpa using h.size,?_,?_,?_,m3,?_,m2,?_,m2b,⟨_,WJ.2.2⟩,m1⟩ ?_
         ·intro j;rw [FG,cr,gA];constructor
          ·rintro ⟨h1,h2|h2|h2|h2⟩
           ·exact .inl (.inr h2)
           ·exact absurd h2 h1
           ·exact .inl (.inl h2)
           ·exact .inr h2
          ·have ef:∀ x,x∈rs++later rest->x≠i:=λx hx e=>fh.2.1.1 (e▸hx);rintro ((h1|h1)|h1)
           ·exact ⟨ef j (R_ _ h1),.inr (.inr (.inl h1))⟩
           ·exact ⟨λe=>lO (e▸h1),.inl h1⟩
           ·exact ⟨ef j (RE _ h1),.inr (.inr (.inr h1))⟩
         ·intro j oj LH pK lA m hm;simp only [gA,CO] at pK ⊢;have key:m∉bW/\m∉later ((i,rs) :: rest):=by
           by_cases cA:j=i
           ·subst cA;rw [ho] at LH
            cases LH
            exact (tT m hm).2
           ·exact h.down j oj LH pK.2 (by rw [cr];simp only [CO];exact ⟨cA,pK.1,lA⟩) m hm
          rw [cr] at key;simp only [CO] at key;exact ⟨⟨key.2.2.1,key.1⟩,key.2.2.2⟩
         ·refine ⟨E',bP.vg λs=>?_⟩;by_cases fD:s∈dstsOf full (rs++bW)
          ·right;exact dU fD
          ·left;rw [bk fD];have abR:s∉dstsOf full rs:=λhm=>fD (by
            obtain ⟨k,hk,y⟩:=bV.1 hm;exact bV.2 ⟨k,R_ _ hk,y⟩)
           have abS:s∉dstsOf full bW:=λhm=>fD (by
            obtain ⟨k,hk,y⟩:=bV.1 hm;exact bV.2 ⟨k,RE _ hk,y⟩)
           rw [m6 s abR];by_cases hd:o.dst=some s
           ·rw [jk hd,jk hd]
           ·rw [ep hd,ep hd,bk abS]
         ·intro j hj;rcases gA.1 hj with hj|hj
          ·exact m4 j hj
          ·obtain ⟨v,oj,q1,q2,q3⟩:=h.tS j hj;exact ⟨v,oj,m5 _ (Bl _ q1 (λhh=>xQ j hh (.inl hj))),q2,q3⟩
         ·rw [uf,CN];have FX:=fh.2.1.2;rw [CN] at FX;refine ⟨FX.1,?_,?_⟩
          ·rw [CN];exact ⟨fh.1,FX.2.1,λx hx y hy=>fh.2.2 x hx y (xg _ (RE _ hy))⟩
          ·intro x hx y hy;rcases gA.1 hy with hy|hy
           ·exact λe=>fh.2.2 y hy x (xg _ (R_ _ hx)) e.symm
           ·exact FX.2.2 x hx y hy
         ·simp only [later,CE,iQ] at hf ⊢;omega
        refine N8 ho qQ dR (Bf jP oO) (λhb=>sG ht hz eZ hc (DS jP (gi hb)) dR) (λhb=>?_) ?_
        ·exact next (.tup []) L E _ w (vI hb) (dR.put o.dst (.tup []) undef qQ (by simp [VR,cD,undef])) (λ_ _ _ _ _ _=>trivial)
        ·intro av L' E' a' w' hk bP;exact next av L' E' a' w' hk bP (λ_ _ _ _ _ _=>trivial)
theorem vL:∀ {full:List Oper},Il full=true->TA full
 | [],_=>λi j o o' d h=>by simp at h
 | o1 :: r,h=>by
   simp only [Il,oB,Fe,G6] at h;intro i j o o' d hi hj hd Z3;have ef:∀ o2∈r,∀ x,o1.dst=some x->o2.dst=some x->False:=by
    intro o2 h2 x e1 e2;have:=h.1 o2 h2;rw [e1,e2] at this;simp only [eqO] at this;rw [Sc] at this
    cases this
   cases i with
   | zero =>
     simp at hi;subst hi
     cases j with
     | zero=>rfl
     | succ j =>
       simp only [ue] at hj;exact (ef o' (fU hj) d hd Z3).elim
   | succ i =>
     simp only [ue] at hi
     cases j with
     | zero=>simp at hj;subst hj;exact (ef o (fU hi) d Z3 hd).elim
     | succ j =>
       simp only [ue] at hj;rw [vL h.2 i j o o' d hi hj hd Z3]
theorem Ir:∀ (A:List (List Nat)) (i:Nat),gk A i=(A[i]?).getD []
 | [],i=>by simp [Be,LF,LG]
 | o :: r,0=>by simp [Be,LF,LG]
 | o :: r,i+1=>by simp only [Be,LF,LG,ue];exact Ir r i
theorem FY {full:List Oper} {A:List (List Nat)} (h:XB full A=true) (j i:Nat) (hi:i∈gk A j):∃ o,full[j]? = some o/\(i∈nz o∨∃ m∈nz o,i∈gk A m):=by
 rw [Ir] at hi
 cases hA:A[j]? with
 | none=>rw [hA] at hi;simp at hi
 | some l =>
   rw [hA] at hi;simp only [zfL] at hi;unfold XB at h;have:=mf h j l hA;simp only [gP,lh] at this;split at this
   ·rename_i o ho;rw [Fe] at this;have h1:=this i hi;simp only [zeQ,zeN] at h1;rcases h1 with h1|⟨m,h1,h2⟩
    ·exact ⟨o,ho,.inl (dP h1)⟩
    ·exact ⟨o,ho,.inr ⟨m,h1,dP h2⟩⟩
   ·cases l with
    | nil=>simp at hi
    | cons x l=>cases this
theorem TH (ht:cp P tt) (hz:jL tt) (eZ:jx P fo) (hm:P.follows .mixedOrders=true) {id k0:Nat} {ops:Array Oper} (pl:a_) (fT:vF ops.toList pl=true) {K:AF->List AB->Prop} {F:AF} {L:List AB}
  (h:rI P tt fo n ops.toList pl.r0 F L [] λF D=>rK P tt fo n ops.toList pl.lf pl.ph F L D K):cw P n k0 id ops K F L:=by
 intro c E a w hc dS hk hs;unfold vF at fT;simp only [oB,Fe,G6] at fT;obtain ⟨⟨⟨⟨⟨⟨⟨⟨p1,p2⟩,p3⟩,p4⟩,p5⟩,p6⟩,p7⟩,p8⟩,p9⟩:=fT;have fh:=kr p1;have hlen:=ie p2.1;have bK:∀ i,i<ops.toList.length->i∈pl.r0++later pl.ph:=λi hi=>by
  have:=mf p3 i ops.toList[i] (by rw [ff hi]);rw [gP] at this;exact dP this
 have C0:Bg ops.toList pl.lf (pl.ph.map (·.1)):=⟨vL p8,FY p5,λj o ho m hm=>by
  have:=mf p9 j o ho;simp only [Fe,gP] at this;exact kO (Nt _) (Hh (this m hm))⟩
 -- all DE numbers are in range
 have Bm:∀ i∈pl.r0++later pl.ph,i<ops.toList.length:=by
  intro i hi;exact kO (Nt _) (Hh (p2.2 i hi))
 have ui:eE c E F L a { w with drawn:=w.drawn+1 }:=hs.keeps hc (aO.drew w);obtain ⟨F',D',pre',k1,k2,XC,k3,k4,k5,k6⟩:=vH (A:=pl.lf) (es:=pl.ph.map (·.1)) (rest:=later pl.ph) C0.dst h (oP p4) fh (by simp) (λr hr=>lZ (p7 r hr)) (by simp);refine wp_region_any hm ?_;have e:ops=ops.toList.toArray:=by simp
 rw [e];refine Bj ht hz eZ C0 hc dS (K:=K) ?_ _ pl.ph pl.r0 pre' F' L D' _ a _ ⟨by simp,?_,?_,?_,k3,k4,k2,fh,XC,⟨none,oQ p6⟩,k1⟩ ?_
 ·intro E F L a w hK hs;exact ⟨E,F,L,hs,rfl,hK⟩
 ·intro i;rw [<-gA];constructor
  ·intro hi;by_cases bB:i<ops.toList.length
   ·exact bK i bB
   ·simp at bB;simp [zfO.2 bB] at hi
  ·intro hi;have:=Bm i hi;simp at this;simp [this]
 ·intro j o ho pK lA;exact absurd (bK j (dW.1 ho).1) (by simp [pK,lA])
 ·refine ⟨E,ui.vg λs=>?_⟩;by_cases fD:s∈dstsOf ops.toList pl.r0
  ·right;exact dU fD
  ·left;rw [bk fD,k6 s fD]
 ·have:ops.toList.toArray.size=(pl.r0++later pl.ph).length:=by rw [hlen];simp
  rw [this];simp
end
end
end Go.Ab
