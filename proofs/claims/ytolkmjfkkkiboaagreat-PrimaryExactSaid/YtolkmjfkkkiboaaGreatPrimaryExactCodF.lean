/- PrimaryExact: contracts. -/
import Derived.Test.YtolkmjfkkkiboaaGreatPrimaryExactCodE
set_option linter.all false
set_option maxHeartbeats 4000000
set_option maxRecDepth 100000
namespace Go.Proofs.YtolkmjfkkkiboaaGreat
open Go.Ab Go.RowKit Go.MapKept Tryz
attribute [local irreducible] ay AW cw eA eo bL
def tZ (s:Dag×List Cert) (c:Cert):Dag×List Cert:=(gH s.1 c,if cJ s.1 c=7 then s.2++[c] else s.2)
def bd (d:Dag) (l:List Cert):Dag×List Cert:=l.foldl tZ (d,[])
theorem hZ {d:Dag} {l:List Cert} {j:Nat} {c:Cert} (hc:l[j]? = some c):bd d (l.take (j+1))=tZ (bd d (l.take j)) c:=by
 rw [iu,hc];simp [bd,List.foldl_append]
theorem wy (d:Dag) (l:List Cert):∀ j,(bd d (l.take j)).2.length<=j
 | 0=>by simp [bd]
 | j+1=>by
   have ih:=wy d l j
   cases hc:l[j]? with
   | none =>
     have hl:l.length<=j:=by simpa using hc
     rw [gx oM] at ih ⊢;omega
   | some c =>
     rw [hZ hc];unfold tZ;simp only;split
     ·simp;omega
     ·omega
def iC:Nat->Dag->List Cert->Dag×List Cert
 | 0,d,l=>(d,l)
 | n+1,d,l=>if (bd d l).2.length<l.length then iC n (bd d l).1 (bd d l).2 else ((bd d l).1,l)
theorem rX:∀ (m n:Nat) (d:Dag) (l:List Cert),l.length<m->l.length<n->iC m d l=iC n d l
 | 0,n,d,l,h1,h2=>oM
 | m+1,0,d,l,h1,h2=>oM
 | m+1,n+1,d,l,h1,h2=>by
   unfold iC;split
   ·exact rX m n _ _ oM oM
   ·rfl
def cT (d:Dag) (l:List Cert):Dag×List Cert:=iC (l.length+1) d l
structure lr (d:Dag) (l:List Cert):Prop where
 valid:Valid d
 room:d.aa.length+l.length<=60000
 late:∀ c∈l,bM d.nodes c/\c.aJ
theorem Valid.fit {d:Dag} (h:Valid d):d.fit:=h.Yr.fit
theorem kK (d:Dag) (c:Cert):(gH d c).nodes=d.nodes:=by unfold gH;split<;>rfl
theorem UZ (d:Dag) (c:Cert):(gH d c).low=d.low:=by unfold gH;split<;>rfl
theorem na {d:Dag} (h:Valid d) {c:Cert} (hc:bM d.nodes c) (hl:d.aa.length<65536):Valid (gH d c):=by
 unfold gH;split
 ·rename_i hp;exact Mn h hc hp hl
 ·exact h
theorem o9 (d:Dag) (c:Cert):(gH d c).aa.length<=d.aa.length+1:=by
 unfold gH;split
 ·rw [Jr];omega
 ·omega
theorem sU {d:Dag} {l:List Cert} (h:lr d l):∀ j,j<=l.length->Valid (bd d (l.take j)).1/\(bd d (l.take j)).1.nodes=d.nodes/\(bd d (l.take j)).1.low=d.low/\(bd d (l.take j)).1.aa.length+(bd d (l.take j)).2.length<=d.aa.length+j/\(∀ c∈(bd d (l.take j)).2,c∈l)
 | 0,_=>⟨h.valid,rfl,rfl,eQ _,by simp [bd]⟩
 | j+1,hj=>by
   obtain ⟨h1,h2,h3,h4,h5⟩:=sU h j oM;have hr:=h.room;obtain ⟨c,hc⟩:=eH l j;have bR:=fU hc;rw [hZ hc];generalize bd d (l.take j)=s at h1 h2 h3 h4 h5 ⊢;unfold tZ;refine ⟨na h1 (by rw [h2];exact (h.late c bR).1) oM,by rw [kK,h2],by rw [UZ,h3],?_,?_⟩
   ·simp only;split
    ·rename_i hp;have:gH s.1 c=s.1:=by unfold gH;rw [aR oM]
     rw [this];simp;omega
    ·have:=o9 s.1 c;omega
   ·simp only;split
    ·intro x hx;rcases gA.1 hx with hx|hx
     ·exact h5 x hx
     ·rw [Hj.1 hx];exact bR
    ·exact h5
def Prim.jc (p:Prim) (s:Dag×List Cert):Prim:={ p with aq:=s.1,late:=s.2 }
def acR (p:Prim) (out:List aW) (d:Dag) (l:List Cert) (j:Nat):AF×List AB:=([(0,.ptr 0 0),(11,.d (.sl 6 (ah l))),(12,.k l.length),(13,.k j),(2,.arr 2)],(p.jc ((bd d (l.take j)).1,l)).st out++[.row 47 6 (ah (bd d (l.take j)).2) false])
theorem BO (p:Prim) (out:List aW) (hf:lr p.aq p.late):zA 106 [.ptr 0 0] (p.st out) (pQ (.tup []) ((p.jc (cT p.aq p.late)).st out)):=by
 refine dB func106 ntmps106 ?_;refine mU aF bf aG (σ:=Dag×List Cert) (λs=>([(0,.ptr 0 0)],(p.jc s).st out)) (λk s=>k=0/\lr s.1 s.2/\cT s.1 s.2=cT p.aq p.late) (λ_ s=>s.2.length) ?_ ?_
 ·rintro k rest hk ⟨d,l⟩ ⟨rfl,tx,CJ⟩;have e:=Hl (show some _=some rest from hk);subst e;clear hk;replace tx:lr d l:=tx;replace CJ:cT d l=cT p.aq p.late:=CJ;have bR:=ak l;refine rdv ?_;have hr:=tx.room;refine aH aF bf aG (σ:=Nat) (acR p out d l) (λj=>j<=l.length) (λj=>l.length - j) [0,11,12,13,2] ?_ ?_
  ·conv=>whnf
   exact ⟨0,by rw [show (ah (p.jc (d,l)).late).length=l.length from bR];rfl,rfl,br _⟩
  ·intro j hj;obtain ⟨k1,k2,k3,k4,k5⟩:=sU tx j hj;have fT:=wy d l j;have kj:=ak (bd d (l.take j)).2;refine rdv ?_;repeat' (apply tw<;>intro _)
   ·rename_i dM;refine eG l j λc hc=>?_;obtain ⟨bw,lK⟩:=tx.late c (fU hc);have dq:=hZ (d:=d) hc;have ga:=bw.head.round;have Eo:=bw.head.af;have kx:=gQ tx.valid.nodes;have zC:=OS (bd d (l.take j)).1 k1.fit oM k1.low c lK ⟨oM,oM⟩ ga.1 ⟨oM,oM⟩;refine ⟨oM,c.cs,aB hc,?_⟩;refine rdv ?_;refine cP X0 ?_
    (refine tU zC ?_)
    repeat' (first|(refine jz ?_;repeat' (apply tw<;>intro _))|(refine tV zC ?_))
    ·rename_i h7;refine ⟨by simp;omega,?_⟩;refine rdv ?_;refine ⟨j+1,rfl,?_,oM,oM⟩;simp only [acR];rw [dq,tZ];simp only;rw [bp h7,show ah ((bd d (l.take j)).2++[c])=ah (bd d (l.take j)).2++[c.cs] by simp [ah]];rfl
    ·rename_i h7;refine ⟨j+1,rfl,?_,oM,oM⟩;simp only [acR];rw [dq,tZ];simp only;rw [aR h7];rfl
   ·rename_i dM bB;have BP:j=l.length:=oM;subst BP;rw [lD] at k1 k2 k3 k4 k5 fT kj;replace bB:((ah (bd d (l.take l.length)).2).length:Int)<((ah l).length:Int):=bB;rw [lD,kj,bR] at bB;have af5:(bd d l).2.length<l.length:=oM;refine DY [(0,15)] rfl ?_;refine cV [0] ?_
    conv=>whnf
    refine ⟨((bd d l).1,(bd d l).2),rfl,by rw [lD];rfl,⟨rfl,⟨k1,by show (bd d l).1.aa.length+(bd d l).2.length<=_;omega,λc hc=>by rw [k2];exact tx.late c (k5 c hc)⟩,?_⟩,af5⟩;show cT (bd d l).1 (bd d l).2=_;have e1:cT d l=iC l.length (bd d l).1 (bd d l).2:=by
     rw [cT,iC,bp af5]
    rw [<-CJ,e1,cT];exact rX _ _ _ _ oM oM
   ·rename_i dM bB;have BP:j=l.length:=oM;subst BP;rw [lD] at k1 k2 k3 k4 k5 fT kj;replace bB:¬((ah (bd d (l.take l.length)).2).length:Int)<((ah l).length:Int):=bB;rw [lD,kj,bR] at bB;have:cT p.aq p.late=((bd d l).1,l):=by
     rw [<-CJ,cT,iC,aR oM]
    rw [this,lD];exact ⟨rfl,rfl⟩
 ·intro pass
  conv=>whnf
  refine fq (σ:=Unit) (λ_=>([(0,.ptr 0 0)],(p.jc (p.aq,p.late)).st out)) (λ_=>True) [0] ?_ ?_
  ·conv=>whnf
   exact ⟨(),rfl,rfl,trivial⟩
  ·intro _ _;exact pass 0 _ rfl (p.aq,p.late) ⟨rfl,hf,rfl⟩
def bN (l:List Cert) (c:Cert):List Cert:=if fI l c.ae=false/\l.length<256 then l.take (bA l c.ae)++c :: l.drop (bA l c.ae) else l
theorem o_ (l:List Cert) (c:Cert):(bN l c).length<=l.length+1:=by
 unfold bN;split
 ·simp;omega
 ·omega
theorem Qt {l:List Cert} {c x:Cert} (h:x∈bN l c):x=c∨x∈l:=by
 unfold bN at h;split at h
 ·rcases gA.1 h with h|h
  ·exact .inr (Fc h)
  ·rcases jy.1 h with h|h
   ·exact .inl h
   ·exact .inr (G5 h)
 ·exact .inr h
theorem jU {l:List Cert} (hs:ct l) (c:Cert):ct (bN l c):=by
 unfold bN;split
 ·rename_i h;have ef:∀ x∈l,x.ae≠c.ae:=by
   intro x hx e;have:=h.1;rw [fI,zeZ] at this;exact this x hx (by simp [e])
  have gK:=hs;rw [ct,<-KG (bA l c.ae) l,Hi] at gK;rw [ct,Hi];refine ⟨gK.1,Sb.2 ⟨λy hy=>?_,gK.2.1⟩,λx hx y hy=>?_⟩
  ·obtain ⟨j,hj⟩:=Ds hy;rw [Dt] at hj;have h1:=(kJ (d:=c.ae) hs hj);have h2:=ef y (G5 hy);have:¬y.ae<c.ae:=λh=>by have:=h1.1 h;omega
   omega
  ·have ND:x.ae<c.ae:=by
    obtain ⟨j,hj⟩:=Ds hx;rw [nX] at hj;split at hj
    ·rename_i bB;exact (kJ (d:=c.ae) hs hj).2 bB
    ·cases hj
   rcases jy.1 hy with rfl|hy
   ·exact ND
   ·exact gK.2.2 x hx y hy
 ·exact hs
def mB (p:Prim) (c:Cert):Prim:=if cJ p.aq c=0 then p.jc (cT (gH p.aq c) p.late) else if cJ p.aq c=7 then { p with late:=bN p.late c } else p
def tz (p:Prim) (c:Cert) (src:Int):List aW:=if cJ p.aq c=7/\0<src then jq p src 8 (bU (bN p.late c) (bm p.aq c)) else []
theorem Qu (p:Prim) (out:List aW) (ho:out.length<=1000000) (c:Cert) (bw:bM p.aq.nodes c) (lK:c.aJ) (hf:lr p.aq p.late) (eh:p.aq.aa.length+p.late.length<60000) (hs:ct p.late) (src:Int) :
  zA 168 [.ptr 0 0,c.av,.k src] (p.st out) (λav L=>av = .tup []/\∃ j,L=(mB p c).sj j (out++tz p c src)):=by
 have ga:=bw.head.round;have Eo:=bw.head.af;have kx:=gQ hf.valid.nodes;have hr:=hf.room;have zC:=OS p.aq hf.valid.fit oM hf.valid.low c lK ⟨oM,oM⟩ ga.1 ⟨oM,oM⟩;have bR:=ak p.late;have Db:aU p.late:=by unfold aU;omega
 have fT:=bw.head.ao.1;have pA:(bm p.aq c).length<=1000000:=by
  unfold bm;split
  ·exact br _
  ·exact fS (mv ..) oM
 have nP:=OR p.aq hf.valid.fit c lK.ao ⟨oM,oM⟩ ga.1 hf.valid.low;refine oe ?_;refine Qa func168 ntmps168 ?_;refine uH OB ?_
 repeat' (first|(refine jz ?_;repeat' (apply tw<;>intro _))|(refine tU zC ?_)|(refine tV zC ?_))
 ·rename_i h0;have hfp:lr (gH p.aq c) p.late:=⟨na hf.valid bw oM,by have:=o9 p.aq c;omega,λx hx=>by rw [kK];exact hf.late x hx⟩;have CJ:=BO (p.jc (gH p.aq c,p.late)) out hfp;refine aQ CJ ?_;refine ⟨2,[],_,_,_,eQ _,rfl,rfl,rfl,rfl,false,?_⟩;rw [mB,bp h0,tz,aR (λh=>by have:=h.1;omega),gR];rfl
 ·rename_i h0 h7;refine aQ (yg p false out (by unfold aU;omega) hs c.ae) ?_;repeat' (apply tw<;>intro _)
  ·rename_i hb bB;have hi:=wq p.late c.ae;have qS:bN p.late c=p.late.take (bA p.late c.ae)++c :: p.late.drop (bA p.late c.ae):=by
    rw [bN,bp ⟨by revert hb;cases fI p.late c.ae<;>simp,by have h2:=bB;rw [bR] at h2;omega⟩]
   refine cP OC ?_;refine aQ (sQ p.late oM) ?_;refine aQ (m7 c lK) ?_
   (refine Or.inr ?_;(conv=>whnf))
   refine (qg p.late c (bA p.late c.ae) hi oM).mono ?_;rintro _ _ ⟨rfl,rfl⟩;rw [<-qS];have Ju:ct (bN p.late c):=jU hs c;have BQ:aU (bN p.late c):=by unfold aU;have:=o_ p.late c;omega
   refine rdv ?_;repeat' (apply tw<;>intro _)
   ·rename_i gD;refine yT [(0,15)] rfl ?_;refine cP oZ ?_;refine aQ nP ?_;refine aQ (m9 { p with late:=bN p.late c } out BQ Ju (bm p.aq c) pA) ?_;refine (nO { p with late:=bN p.late c } out oM src 8 (bU (bN p.late c) (bm p.aq c)) (by unfold bU;exact fS (mv ..) pA)).mono ?_;rintro _ _ ⟨rfl,j,rfl⟩
    cases j
    ·refine rdv ?_;refine ⟨2,[],_,_,_,eQ _,rfl,rfl,rfl,rfl,false,?_⟩;rw [mB,aR h0,bp h7,tz,bp ⟨h7,gD⟩];rfl
    ·refine rdv ?_;refine ⟨3,[],_,_,_,by show 2<=3;omega,rfl,rfl,rfl,rfl,true,?_⟩;rw [mB,aR h0,bp h7,tz,bp ⟨h7,gD⟩];rfl
   ·rename_i gD;refine ⟨2,[(0,15)],_,_,_,eQ _,rfl,rfl,rfl,rfl,false,?_⟩;rw [mB,aR h0,bp h7,tz,aR (λh=>gD h.2),gR];rfl
  ·rename_i hb bB gD;have qS:bN p.late c=p.late:=by rw [bN,aR (λh=>bB (by have:=h.2;rw [bR];omega))]
   refine cP oZ ?_;refine aQ nP ?_;refine aQ (m9 p out Db hs (bm p.aq c) pA) ?_;refine (nO p out oM src 8 (bU (p).late (bm p.aq c)) (by unfold bU;exact fS (mv ..) pA)).mono ?_;rintro _ _ ⟨rfl,j,rfl⟩
   cases j
   ·refine rdv ?_;refine ⟨2,[],_,_,_,eQ _,rfl,rfl,rfl,rfl,false,?_⟩;rw [mB,aR h0,bp h7,tz,bp ⟨h7,gD⟩,qS];rfl
   ·refine rdv ?_;refine ⟨3,[],_,_,_,by show 2<=3;omega,rfl,rfl,rfl,rfl,true,?_⟩;rw [mB,aR h0,bp h7,tz,bp ⟨h7,gD⟩,qS];rfl
  ·rename_i hb bB gD;have qS:bN p.late c=p.late:=by rw [bN,aR (λh=>bB (by have:=h.2;rw [bR];omega))]
   refine ⟨2,[],_,_,_,eQ _,rfl,rfl,rfl,rfl,false,?_⟩;rw [mB,aR h0,bp h7,tz,aR (λh=>gD h.2),qS,gR];rfl
  ·rename_i hb gD;have qS:bN p.late c=p.late:=by rw [bN,aR (λh=>by rw [h.1] at hb;exact absurd hb dC)]
   refine cP oZ ?_;refine aQ nP ?_;refine aQ (m9 p out Db hs (bm p.aq c) pA) ?_;refine (nO p out oM src 8 (bU (p).late (bm p.aq c)) (by unfold bU;exact fS (mv ..) pA)).mono ?_;rintro _ _ ⟨rfl,j,rfl⟩
   cases j
   ·refine rdv ?_;refine ⟨2,[],_,_,_,eQ _,rfl,rfl,rfl,rfl,false,?_⟩;rw [mB,aR h0,bp h7,tz,bp ⟨h7,gD⟩,qS];rfl
   ·refine rdv ?_;refine ⟨3,[],_,_,_,by show 2<=3;omega,rfl,rfl,rfl,rfl,true,?_⟩;rw [mB,aR h0,bp h7,tz,bp ⟨h7,gD⟩,qS];rfl
  ·rename_i hb gD;have qS:bN p.late c=p.late:=by rw [bN,aR (λh=>by rw [h.1] at hb;exact absurd hb dC)]
   refine ⟨2,[],_,_,_,eQ _,rfl,rfl,rfl,rfl,false,?_⟩;rw [mB,aR h0,bp h7,tz,aR (λh=>gD h.2),qS,gR];rfl
 ·rename_i h0 h7;refine ⟨2,[],_,_,_,eQ _,rfl,rfl,rfl,rfl,false,?_⟩;rw [mB,aR h0,aR h7,tz,aR (λh=>h7 h.1),gR];rfl
def cDn:List Cert->DV
 | [] => .nils
 | c :: l => .sl 6 (ah (c :: l))
theorem U0 {a b:AV} {r:List AV} (l:List Cert):∀ (R:RC) (vs:List Value),cD R (.agg [a,b,.d (cDn l)] :: r) vs->cD R (.agg [a,b,.d (.sl 6 (ah l))] :: r) vs:=by
 cases l with
 | nil=>exact Qi dC
 | cons c l=>exact λR vs h=>h
theorem U1 {a b:AV} (l:List Cert):∀ (R:RC) (v:Value),VR R (.agg [a,b,.d (cDn l)]) v->VR R (.agg [a,b,.d (.sl 6 (ah l))]) v:=by
 intro R v h;have:=U0 (a:=a) (b:=b) (r:=[]) l R [v] (by simp only [cD];exact ⟨v,[],rfl,h,rfl⟩);simp only [cD] at this;obtain ⟨u,us,e,h1,h2⟩:=this
 cases e
 exact h1
theorem Jv (xs ys:List Int) (hm:aU xs):zA 141 [.d (.sl 1 (nums xs)),.d (.sl 1 (nums ys))] [] (pQ (.d (.bool (decide (xs=ys)))) []):=by
 have hx:=nums_length xs;have hy:=nums_length ys;unfold aU at hm;refine dB func141 ntmps141 ?_;rw [hx,hy];refine eF ?_;repeat' (apply tw<;>intro _)
 ·rename_i h;rw [aP (λe=>h (by rw [e]))];exact ⟨rfl,rfl⟩
 ·rename_i h;have hl:xs.length=ys.length:=oM;refine aH aF bf aG (σ:=Nat) (λk=>([(0,.d (.sl 1 (nums xs))),(1,.d (.sl 1 (nums ys))),(12,.k xs.length),(13,.k k)],[])) (λk=>k<=xs.length/\xs.take k=ys.take k) (λk=>xs.length - k) [0,1,12,13] ?_ ?_
  ·conv=>whnf
   exact ⟨0,by rw [hx];rfl,rfl,by simp⟩
  ·rintro k ⟨hk,he⟩;refine rdv ?_;repeat' (apply tw<;>intro _)
   ·rename_i h;refine eG xs k λa ha=>?_;refine eG ys k λb hb=>?_;refine cP Yb ?_
    ((with_reducible apply aC);(focus (intro K hK;(conv=>whnf);exact ⟨oM,[.j a],bD ha,hK⟩));(conv=>whnf))
    (refine eF ?_)
    ((with_reducible apply aC);(focus (intro K hK;(conv=>whnf);exact ⟨oM,[.j b],bD hb,hK⟩));(conv=>whnf))
    refine eF ?_;repeat' (apply tw<;>intro _)
    ·rename_i h;rw [aP (λe=>by subst e;rw [ha] at hb;cases hb;exact h rfl)];exact ⟨rfl,rfl⟩
    ·rename_i h;exact ⟨k+1,rfl,rfl,⟨oM,(wi ha hb he).2 oM⟩,oM⟩
   ·rename_i h;obtain rfl:k=xs.length:=oM;rw [cz (by rw [lD,hl,lD] at he;exact he)];exact ⟨rfl,rfl⟩
def inC (l:List Int) (x:Int):Option Nat:=l.findIdx? λy=>decide (y=x)
def KN (l:List Int) (x:Int):Int:=(inC l x).elim (-1) λi=>(i:Int)
theorem U2 {l:List Int} {x:Int} (h:∀ c∈l,c≠x):inC l x=none:=by
 unfold inC;rw [Wx];intro c hc;simp [h c hc]
theorem U3 {l:List Int} {x:Int} {j:Nat} (hc:l[j]? = some x) (h:∀ c∈l.take j,c≠x):inC l x=some j:=by
 unfold inC;rw [KU];obtain ⟨hj,rfl⟩:=dW.1 hc;refine ⟨hj,by simp,λi hi=>?_⟩;have:=h l[i] (G4.2 ⟨i,oM,rfl⟩);simpa using this
theorem Gr {l:List Int} {x:Int} (h:x∉l):KN l x = -1:=by
 rw [KN,U2 (l:=l) (x:=x) λc hc e=>h (by rw [<-e];exact hc)];rfl
theorem U4 {l:List Int} {x:Int} (h:x∈l):0<=KN l x:=by
 unfold KN
 cases hc:inC l x with
 | none =>
   unfold inC at hc;rw [Wx] at hc;have:=hc x h;simp at this
 | some i=>show (0:Int)<=(i:Int);omega
theorem sV {l:List Int} {x:Int}:KN l x≥0↔x∈l:=by
 constructor
 ·intro h;refine Classical.byContradiction λhn=>?_;rw [Gr hn] at h;omega
 ·exact U4
theorem Ep (l:List Int) (hl:aU l) (x:Int):zA 96 [.d (.sl 1 (nums l)),.k x] [] (pQ (.k (KN l x)) []):=by
 have bR:=nums_length l;unfold aU at hl;refine dB func96 ntmps96 ?_;refine aH aF bf aG (σ:=Nat) (λj=>([(0,.d (.sl 1 (nums l))),(1,.k x),(5,.k j)],[])) (λj=>j<=l.length/\∀ c∈l.take j,c≠x) (λj=>l.length - j) [0,1,5] ?_ ?_
 ·conv=>whnf
  exact ⟨0,rfl,rfl,br _,by simp⟩
 ·rintro j ⟨hj,bK⟩
  conv=>whnf
  rw [bR];refine XD ?_;repeat' (apply tw<;>intro _)
  ·rename_i h;refine eG l j λc hc=>?_;refine ⟨oM,[.j c],bD hc,?_⟩;refine cm ?_;repeat' (apply tw<;>intro _)
   ·rename_i h2;rw [KN,U3 (by rw [hc,h2]) bK];exact ⟨rfl,rfl⟩
   ·rename_i h2;refine ⟨j+1,rfl,rfl,⟨oM,λy hy=>?_⟩,oM⟩;rw [iu,hc] at hy;rcases gA.1 hy with hy|hy
    ·exact bK y hy
    ·simp at hy;rw [hy];exact h2
  ·rename_i h;rw [gx oM] at bK;rw [KN,U2 bK];exact ⟨rfl,rfl⟩
theorem Mq (n r:Int) (hn:0<n/\n<=16) (hr:2<=r/\r<=1099511627777):zA 223 [.k n,.k r] [] (pQ (.k (wc n r)) []):=by
 have h1:=WV (r / 2 - 1) (oM:n≠0);have h2:=ZI (r / 2 - 1) hn.1;refine dB func223 ntmps223 ?_;refine ⟨dC,?_⟩;intro z hz;have:z=r / 2:=by rw [hz,zdP oM,yQ oM]
 clear hz;subst this
 conv=>whnf
 ((with_reducible apply eU);(focus omega);(conv=>whnf))
 refine ⟨oM,?_⟩;intro z hz;have:z=(r / 2 - 1) % n:=by rw [hz,zd2 oM]
 clear hz;subst this
 conv=>whnf
 ((with_reducible apply eU);(focus omega);(conv=>whnf))
 exact ⟨rfl,rfl⟩
theorem YE (n:Int) (hn:0<n/\n<=16):zA 183 [.k n] [] (pQ (.k (n / 3+1)) []):=by
 refine dB func183 ntmps183 ?_;refine ⟨dC,?_⟩;intro z hz;have:z=n / 3:=by rw [hz,zdP oM,yQ oM]
 clear hz;subst this
 conv=>whnf
 ((with_reducible apply eU);(focus omega);(conv=>whnf))
 exact ⟨rfl,rfl⟩
def RZ (l:List Cert) (r a:Int):Option Nat:=l.findIdx? λc=>decide (c.round=r/\c.af=a)
def atI (l:List Cert) (r a:Int):Int:=(RZ l r a).elim (-1) λi=>(i:Int)
theorem acS {l:List Cert} {r a:Int} (h:∀ c∈l,¬(c.round=r/\c.af=a)):RZ l r a=none:=by
 unfold RZ;rw [Wx];intro c hc;simpa using h c hc
theorem U5 {l:List Cert} {r a:Int} {j:Nat} {c:Cert} (hc:l[j]? = some c) (hx:c.round=r/\c.af=a) (h:∀ c∈l.take j,¬(c.round=r/\c.af=a)):RZ l r a=some j:=by
 unfold RZ;rw [KU];obtain ⟨hj,rfl⟩:=dW.1 hc;refine ⟨hj,by simpa using hx,λi hi=>?_⟩;have:=h l[i] (G4.2 ⟨i,oM,rfl⟩);simpa using this
theorem U6 {l:List Cert} {r a:Int}:y3 l r a=(RZ l r a).bind λi=>l[i]? := by
 unfold y3 RZ
 induction l with
 | nil=>rfl
 | cons c l ih =>
   rw [List.find?_cons,List.findIdx?_cons]
   cases hc:decide (c.round=r/\c.af=a) with
   | true=>rfl
   | false =>
     rw [aR Bool.false_ne_true,ih]
     cases List.findIdx? (λc=>decide (c.round=r/\c.af=a)) l with
     | none=>rfl
     | some i=>rfl
theorem U7 (d:Dag) (hd:aU d.aa) (r a:Int):zA 187 [d.av,.k r,.k a] [] (pQ (.k (atI d.aa r a)) []):=by
 have bR:=ak d.aa;unfold aU at hd;refine dB func187 ntmps187 ?_;refine aH aF bf aG (σ:=Nat) (λj=>([(1,.k r),(2,.k a),(3,.ptr 0 0),(7,.k j)],[.cells d.cells])) (λj=>j<=d.aa.length/\∀ c∈d.aa.take j,¬(c.round=r/\c.af=a)) (λj=>d.aa.length - j) [1,2,3,7] ?_ ?_
 ·conv=>whnf
  exact ⟨0,rfl,rfl,br _,by simp⟩
 ·rintro j ⟨hj,bK⟩
  conv=>whnf
  rw [bR];refine eF ?_;repeat' (apply tw<;>intro _)
  ·rename_i h;refine eG d.aa j λc hc=>?_;have nA:¬(c.round=r/\c.af=a)->∀ y∈d.aa.take (j+1),¬(y.round=r/\y.af=a):=by
    intro hn y hy;rw [iu,hc] at hy;rcases gA.1 hy with hy|hy
    ·exact bK y hy
    ·simp at hy;rw [hy];exact hn
   refine ⟨oM,c.cs,aB hc,?_⟩;refine rdv ?_;repeat' (apply tw<;>intro _)
   ·rename_i h1;refine ⟨oM,c.cs,aB hc,?_⟩;refine rdv ?_;repeat' (apply tw<;>intro _)
    ·rename_i h2;rw [atI,U5 hc ⟨h1,h2⟩ bK];exact ⟨rfl,rfl⟩
    ·rename_i h2;exact ⟨j+1,rfl,rfl,⟨oM,nA λh=>h2 h.2⟩,oM⟩
   ·rename_i h1;exact ⟨j+1,rfl,rfl,⟨oM,nA λh=>h1 h.1⟩,oM⟩
  ·rename_i h;rw [gx oM] at bK;rw [atI,acS bK];exact ⟨rfl,rfl⟩
theorem uK (d:Dag) (hd:aU d.aa) (hn:0<d.nodes/\d.nodes<=16) (r:Int) (hr:2<=r/\r<=1099511627777):zA 181 [d.av,.k r] [] (pQ (.k (iU d r)) []):=by
 have bR:=ak d.aa;have ij:=U7 d hd r (wc d.nodes r);unfold aU at hd;obtain ⟨a,Gg⟩:∃ a,wc d.nodes r=a:=⟨_,rfl⟩;have hle:=Mq d.nodes r hn hr;rw [Gg] at hle ij;rw [iU,Gg,U6];unfold atI at ij;refine dB func181 ntmps181 ?_
 cases hx:RZ d.aa r a with
 | none =>
   rw [hx] at ij;refine cP OG ?_;refine aQ hle ?_;refine aQ ij ?_
   ·exact ⟨rfl,rfl⟩
 | some i =>
   simp only [hx,Option.elim] at ij;have hi:=(KU.1 hx).1;refine nu (⟨_,ff hi⟩:∃ c,d.aa[i]? = some c) λc hc=>?_;rw [show ((some i).bind λi=>d.aa[i]?)=some c from hc];refine cP OG ?_;refine aQ hle ?_;refine aQ ij ?_;refine ⟨oM,c.cs,aB hc,?_⟩
   conv=>whnf
   exact ⟨rfl,rfl⟩
theorem Qv (d:Dag) (hd:aU d.aa) (hn:0<d.nodes/\d.nodes<=16) (hp:Uy d) (r:Int) (hr:2<=r/\r<=1099511627776):zA 182 [d.av,.k r] [] (pQ (.k (aA d r)) []):=by
 have bR:=ak d.aa;have han:=uK d hd hn r ⟨hr.1,oM⟩;unfold aU at hd;obtain ⟨a,ha⟩:∃ a,iU d r=a:=⟨_,rfl⟩;rw [ha] at han;have hv:∀ l:List Cert,((mW l (r+1)).filter λc=>decide (a>0/\a∈c.ao))=l.filter λc=>decide (a>0/\a∈c.ao)&&decide (c.round=r+1):=by
  intro l;rw [mW,List.filter_filter]
 rw [aA,ha,hv];refine dB func182 ntmps182 ?_;refine han.mono ?_;rintro _ _ ⟨rfl,rfl⟩
 conv=>whnf
 refine aH aF bf aG (σ:=Nat) (λj=>([(1,.k r),(2,.ptr 0 0),(5,.k a),(6,.k (((d.aa.take j).filter λc=>decide (a>0/\a∈c.ao)&&decide (c.round=r+1)).length:Nat)),(7,.k j)],[.cells d.cells])) (λj=>j<=d.aa.length) (λj=>d.aa.length - j) [1,2,5,6,7] ?_ ?_
 ·conv=>whnf
  exact ⟨0,rfl,rfl,br _⟩
 ·intro j hj;have hlen:((d.aa.take j).filter λc=>decide (a>0/\a∈c.ao)&&decide (c.round=r+1)).length<=j:=by
   have h1:=mv (λc:Cert=>decide (a>0/\a∈c.ao)&&decide (c.round=r+1)) (d.aa.take j);rw [mw] at h1;omega
  conv=>whnf
  rw [bR];refine eF ?_;repeat' (apply tw<;>intro _)
  ·rename_i h ha0;refine eG d.aa j λc hc=>?_;refine ⟨oM,c.cs,aB hc,?_⟩;refine rdv ?_;repeat' (apply tw<;>intro _)
   ·rename_i h1;refine ⟨oM,c.cs,aB hc,?_⟩;refine rdv ?_;refine aQ (Ep c.ao (hp c (fU hc)) a) ?_;repeat' (apply tw<;>intro _)
    ·rename_i h2;have S5:a∈c.ao:=sV.1 h2;refine ⟨j+1,?_,rfl,oM,oM⟩;rw [iu,hc];simp only [WR,CC,iQ,Ff,h1,S5,ha0];rfl
    ·rename_i h2;have S5:¬a∈c.ao:=λh=>h2 (sV.2 h);refine ⟨j+1,?_,rfl,oM,oM⟩;rw [iu,hc];simp only [WR,CC,iQ,Ff,S5,and_false,decide_false,Bool.false_and];rfl
   ·rename_i h1;refine ⟨j+1,?_,rfl,oM,oM⟩;rw [iu,hc];simp only [WR,CC,iQ,Ff,h1,decide_false,Bool.and_false];rfl
  ·rename_i h ha0;have e:∀ l:List Cert,(l.filter λc=>decide (a>0/\a∈c.ao)&&decide (c.round=r+1))=[]:=λl=>Nr.2 λc _=>by simp [ha0]
   rw [e,e];exact ⟨rfl,rfl⟩
  ·rename_i h;rw [gx oM];exact ⟨rfl,rfl⟩
theorem Mr {α:Type} {l:List α} {j:Nat} {c:α} (hc:l[j]? = some c):l.take (j+1)=l.take j++[c]:=by rw [iu,hc];rfl
theorem zD (xs:List Int) (hm:aJ xs):zA 26 [.d (.sl 1 (nums xs))] [] (pQ (.arr 0) [.row 3 1 (nums xs) false]):=by
 have hx:=nums_length xs;unfold aJ at hm;refine CI func26 ntmps26 ?_;refine aH aF bf aG (σ:=Nat) (λk=>([(0,.d (.sl 1 (nums xs))),(3,.arr 0),(4,.k k)],[.row 3 1 (nums (xs.take k)) false])) (λk=>k<=xs.length) (λk=>xs.length - k) [0,3,4] ?_ ?_
 ·conv=>whnf
  exact ⟨0,rfl,rfl,oM⟩
 ·intro k hk
  conv=>whnf
  rw [hx];refine XD ?_;repeat' (apply tw<;>intro _)
  ·rename_i h;refine eG xs k λa ha=>?_;have FN:=nums_length (xs.take k);refine ⟨oM,[.j a],bD ha,?_⟩;refine cm ?_;refine ⟨by simp [FN];omega,?_⟩;refine cm ?_;refine ⟨k+1,rfl,?_,oM,oM⟩;rw [iu,ha,<-db];rfl
  ·rename_i h;rw [gx oM];exact ⟨rfl,rfl⟩
theorem BS (l:List Int) (n:Nat):(nums l).take n=nums (l.take n):=by simp [nums]
theorem BT (l:List Int) (n:Nat):(nums l).drop n=nums (l.drop n):=by simp [nums]
def uL (l:List Int) (n:Int):List Int:=l.filter (λx=>decide (x<n))++n :: l.filter (λx => !decide (x<n))
theorem Gs {l:List Int} {n:Int} {i:Nat} (h1:∀ x∈l.take i,x<n) (h2:∀ x∈l.drop i,¬x<n):uL l n=l.take i++n :: l.drop i:=by
 have e:l=l.take i++l.drop i:=(KG ..).symm;unfold uL
 conv=>lhs;rw [e]
 rw [CC,CC,zd0.2 (by simpa using h1),Nr.2 (by simpa using h2),Nr.2 (λx hx=>by simp [h1 x hx]),zd0.2 (λx hx=>by simp [h2 x hx]),gR,tC]
theorem Jw {l:List Int} {n x:Int}:x∈uL l n↔x∈l∨x=n:=by
 unfold uL;rw [gA,jy,G7,G7];by_cases h:x<n<;>simp [h]<;>constructor<;>rintro (h1|h1)<;>simp [h1]
theorem y8 {l:List Int} {n:Int} (h:bq l) (hn:n∉l):bq (uL l n):=by
 unfold uL;refine Hi.2 ⟨h.sublist zd1,Sb.2 ⟨λy hy=>?_,h.sublist zd1⟩,λx hx y hy=>?_⟩
 ·have h1:=G7.1 hy;have h2:¬y<n:=by simpa using h1.2
  have h3:y≠n:=λe=>hn (by rw [<-e];exact h1.1);omega
 ·have h1:x<n:=by simpa using (G7.1 hx).2
  rcases jy.1 hy with rfl|hy
  ·exact h1
  ·have h2:¬y<n:=by simpa using (G7.1 hy).2
   omega
theorem Jy {α:Type} (p:α->Bool):∀ l:List α,(l.filter p).length+(l.filter λx => !p x).length=l.length
 | []=>rfl
 | x :: l=>by
   have ih:=Jy p l;rw [Ff,Ff]
   cases hp:p x<;>simp<;>omega
theorem Jz (l:List Int) (n:Int):(uL l n).length=l.length+1:=by
 unfold uL;rw [iQ,CE];have:=Jy (λx=>decide (x<n)) l;omega
theorem wz (l:List Int) (hl:aJ l) (hs:bq l) (n:Int) (hn:n∉l):zA 80 [.d (.sl 1 (nums l)),.k n] [] (pQ (.d (.sl 1 (nums (uL l n)))) []):=by
 have eM:=nums_length l;have fD:=Ep l (by unfold aU;unfold aJ at hl;omega) n;rw [Gr hn] at fD;unfold aJ at hl;refine dB func80 ntmps80 ?_;refine qR fD ?_;refine aH aF bf aG (σ:=Nat) (λi=>([(0,.d (.sl 1 (nums l))),(1,.k n),(5,.k i)],[])) (λi=>i<=l.length/\∀ x∈l.take i,x<n) (λi=>l.length - i) [0,1,5] ?_ ?_
 ·conv=>whnf
  exact ⟨0,rfl,rfl,br _,by simp⟩
 ·rintro i ⟨hi,bK⟩;have hdj:List.drop (Int.toNat 0) (List.take ((i:Int)).toNat (nums l))=nums (l.take i):=by
   rw [show ((i:Int)).toNat=i from rfl,show Int.toNat 0=0 from rfl,RI,BS]
  have YF:List.drop ((i:Int)).toNat (List.take (((nums l).length:Int)).toNat (nums l))=nums (l.drop i):=by
   rw [show ((i:Int)).toNat=i from rfl,show (((nums l).length:Int)).toNat=(nums l).length from rfl,lD,BT]
  have BU:zA 26 [.d (.sl 1 (List.drop (Int.toNat 0) (List.take ((i:Int)).toNat (nums l))))] [] (pQ (.arr 0) [.row 3 1 (nums (l.take i)) false]):=by
   rw [hdj];exact zD _ (by unfold aJ;have:=CB i l;omega)
  have bB:=CB i l;have hld:(l.drop i).length<=l.length:=by rw [tf];omega
  refine cm ?_;repeat' (apply tw<;>intro _)
  ·rename_i eL;refine eG l i λy hy=>?_;refine ⟨oM,[.j y],bD hy,?_⟩;refine cm ?_;repeat' (apply tw<;>intro _)
   ·rename_i hyn;refine ⟨i+1,rfl,rfl,⟨oM,λx hx=>?_⟩,oM⟩;rw [iu,hy] at hx;rcases gA.1 hx with hx|hx
    ·exact bK x hx
    ·simp at hx;rw [hx];exact hyn
   ·rename_i hyn;have rl:∀ x∈l.drop i,¬x<n:=by
     intro x hx;obtain ⟨h1,rfl⟩:=dW.1 hy;obtain ⟨j,hj,rfl⟩:=List.mem_drop_iff_getElem.1 hx;rcases Hk j with rfl|h2
     ·simpa using hyn
     ·have:=CL.1 hs i (i+j) h1 oM oM;omega
    rw [Gs bK rl];refine ⟨oM,oM,oM,?_⟩
    conv=>whnf
    refine BU.mono ?_;rintro _ _ ⟨rfl,rfl⟩
    conv=>whnf
    refine ⟨by rw [nums_length,RF];show (_+1) * 8<=_;omega,?_⟩
    conv=>whnf
    rw [I5];refine ⟨oM,oM,oM,?_⟩
    conv=>whnf
    refine ⟨by rw [YF,nums_length,nums_length,iQ,RF];show (_+1+_) * 8<=_;omega,?_⟩
    conv=>whnf
    refine ⟨?_,rfl⟩;rw [YF,db,uf];rfl
  ·rename_i eL;have rl:∀ x∈l.drop i,¬x<n:=by
    intro x hx;rw [zdE oM] at hx
    cases hx
   rw [Gs bK rl];refine ⟨oM,oM,oM,?_⟩
   conv=>whnf
   refine BU.mono ?_;rintro _ _ ⟨rfl,rfl⟩
   conv=>whnf
   refine ⟨by rw [nums_length,RF];show (_+1) * 8<=_;omega,?_⟩
   conv=>whnf
   rw [I5];refine ⟨oM,oM,oM,?_⟩
   conv=>whnf
   refine ⟨by rw [YF,nums_length,nums_length,iQ,RF];show (_+1+_) * 8<=_;omega,?_⟩
   conv=>whnf
   refine ⟨?_,rfl⟩;rw [YF,db,uf];rfl
theorem wA (c:Cert) (h:c.ok):zA 23 [c.pD] [] (pQ (.k (1+c.aE.length+c.ao.length)) []):=by
 have h1:=h.aE.1;have h2:=h.ao.1;unfold aU at h1 h2;have e1:=nums_length c.aE;have e2:=nums_length c.ao;refine dB func23 ntmps23 ?_;rw [e1]
 (refine eF ?_)
 rw [e2]
 (refine eF ?_)
 exact ⟨rfl,rfl⟩
theorem JA (c:Cert) (h:c.ok):zA 64 [c.av] [] (pQ (.k (1+c.aE.length+c.ao.length+c.sigs.length)) []):=by
 have h1:=h.aE.1;have h2:=h.ao.1;have h3:=h.sigs.1;unfold aU at h1 h2 h3;have e3:=nums_length c.sigs;refine dB func64 ntmps64 ?_;refine cP acm ?_;refine aQ (wA c h) ?_;rw [e3]
 (refine eF ?_)
 exact ⟨rfl,rfl⟩
theorem Valid.aJ {d:Dag} (h:Valid d):Go.Proofs.YtolkmjfkkkiboaaGreat.aJ d.aa/\∀ c∈d.aa,c.aJ:=by
 have hn:=gQ h.nodes;refine ⟨by have:=h.len;unfold Go.Proofs.YtolkmjfkkkiboaaGreat.aJ;omega,λc hc=>?_⟩;have h1:=h.aa c hc;refine ⟨?_,?_,?_⟩
 ·have:=h1.head.aE.1;unfold Go.Proofs.YtolkmjfkkkiboaaGreat.aJ;omega
 ·have:=h1.head.ao.1;unfold Go.Proofs.YtolkmjfkkkiboaaGreat.aJ;omega
 ·have:=Em (show dh c.sigs 1 65536 from ⟨h1.sigs.1,λx hx=>by have:=h1.sigs.2 x hx;omega⟩);unfold Go.Proofs.YtolkmjfkkkiboaaGreat.aJ;omega
theorem kU (l:List Cert) (hl:aJ l) (h:∀ c∈l,c.aJ):zA 29 [.d (.sl 6 (ah l))] [] (pQ (.arr 0) [.row 47 6 (ah l) false]):=by
 have hx:=ak l;unfold aJ at hl;refine CI func29 ntmps29 ?_;refine aH aF bf aG (σ:=Nat) (λk=>([(0,.d (.sl 6 (ah l))),(3,.arr 0),(4,.k k)],[.row 47 6 (ah (l.take k)) false])) (λk=>k<=l.length) (λk=>l.length - k) [0,3,4] ?_ ?_
 ·conv=>whnf
  exact ⟨0,rfl,rfl,oM⟩
 ·intro k hk
  conv=>whnf
  rw [hx];refine eF ?_;repeat' (apply tw<;>intro _)
  ·rename_i h2;refine eG l k λa ha=>?_;have FN:=ak (l.take k);refine ⟨oM,a.cs,aB ha,?_⟩;refine rdv ?_;refine aQ (dF a (h a (fU ha))) ?_;refine ⟨by simp [FN];omega,?_⟩;refine rdv ?_;refine ⟨k+1,rfl,?_,oM,oM⟩;rw [iu,ha];simp [ah,Cert.cs]
  ·rename_i h2;rw [gx oM];exact ⟨rfl,rfl⟩
theorem Ms:∀ {a b:List Int},bq a->bq b->(∀ x,x∈a↔x∈b)->a=b:=by
 intro a b ha hb h;have hp:a.Perm b:=(List.perm_ext_iff_of_nodup (ik ha) (ik hb)).2 h;exact hp.eq_of_pairwise (λx y _ _ h1 h2=>oM) ha hb
theorem U8 {d:Dag} (h:Valid d) (r x:Int):lP d r x = !(mW d.aa (r - 1)).any λy=>y.ae == x:=by
 unfold lP
 cases hc:mZ d x with
 | none =>
   have:((mW d.aa (r - 1)).any λy=>y.ae == x)=false:=by
    rw [zeZ];intro y hy e;have Xv:=(G7.1 hy).1;unfold mZ at hc
    cases hg:fk d.aa x with
    | none =>
      unfold fk at hg;rw [Wx] at hg;have:=hg y Xv;simp at this e;exact this e
    | some i =>
      rw [hg] at hc;have bB:i<d.aa.length:=by
       unfold fk at hg;exact (KU.1 hg).1
      simp only [WU] at hc;rw [ff bB] at hc
      cases hc
   rw [this];rfl
 | some c =>
   obtain ⟨i,hg,hi⟩:∃ i,fk d.aa x=some i/\d.aa[i]? = some c:=by
    unfold mZ at hc
    cases hg:fk d.aa x with
    | none=>rw [hg] at hc;cases hc
    | some i=>rw [hg] at hc;exact ⟨i,rfl,hc⟩
   have YG:c.ae=x:=by
    unfold fk at hg;obtain ⟨h1,h2,_⟩:=KU.1 hg;rw [ff h1] at hi
    cases hi
    simpa using h2
   by_cases hr:c.round=r - 1
   ·have:((mW d.aa (r - 1)).any λy=>y.ae == x)=true:=by
     rw [zeN];exact ⟨c,G7.2 ⟨fU hi,by simpa using hr⟩,by simpa using YG⟩
    rw [this];simp [hr]
   ·have:((mW d.aa (r - 1)).any λy=>y.ae == x)=false:=by
     rw [zeZ];intro y hy e;obtain ⟨RV,hy2⟩:=G7.1 hy;have e2:y.ae=x:=by simpa using e
     have:y=c:=by
      obtain ⟨j,hj⟩:=Ds RV;have fh:=h.dD;have e1:(d.aa.map (·.ae))[j]? = some x:=by rw [CD,hj];simp [e2]
      have e3:(d.aa.map (·.ae))[i]? = some x:=by rw [CD,hi];simp [YG]
      have dM:=(dW.1 e1).1;have:=(List.getElem?_inj dM fh).1 (e1.trans e3.symm);subst this;rw [hj] at hi;exact Hl hi
     subst this;exact hr (gQ hy2)
    rw [this];simp [hr]
theorem uM {d:Dag} (h:Valid d) (c:Cert):kH d c=bm d c:=by
 unfold kH bm;by_cases hr:c.round - 1<=d.low
 ·rw [bp hr,bp oM]
 ·rw [aR hr,aR oM];refine List.filter_congr λx _=>?_;exact U8 h c.round x
theorem af6 {d:Dag} (c:Cert):(RZ d.aa c.round c.af=none/\y3 d.aa c.round c.af=none)∨∃ i y,RZ d.aa c.round c.af=some i/\d.aa[i]? = some y/\y3 d.aa c.round c.af=some y:=by
 rw [U6]
 cases h:RZ d.aa c.round c.af with
 | none=>exact .inl ⟨rfl,rfl⟩
 | some i =>
   unfold RZ at h;have bB:=(KU.1 h).1;exact .inr ⟨i,_,rfl,ff bB,by simp [ff bB]⟩
theorem JB {l:List Cert} {x:Int} (h:fk l x=none):(l.any λy=>y.ae == x)=false:=by
 unfold fk at h;rw [Wx] at h;rw [zeZ];intro y hy;have:=h y hy;simpa using this
theorem Qw {l:List Cert} {x:Int} {i:Nat} (h:fk l x=some i):(l.any λy=>y.ae == x)=true:=by
 unfold fk at h;obtain ⟨h1,h2,_⟩:=KU.1 h;rw [zeN];exact ⟨l[i],zeM h1,by simpa using h2⟩
theorem YH {d:Dag} (h:Valid d) {x:Int} {i:Nat} {y:Cert} (hy:d.aa[i]? = some y):(fk d.aa x=some i↔y.ae=x):=by
 have bB:=(dW.1 hy).1;constructor
 ·intro hg;unfold fk at hg;obtain ⟨h1,h2,_⟩:=KU.1 hg;rw [ff h1] at hy
  cases hy
  simpa using h2
 ·intro e;unfold fk;rw [KU];refine ⟨bB,?_,λj hj=>?_⟩
  ·rw [ff bB] at hy
   cases hy
   simpa using e
  ·intro e2;have e3:(d.aa.map (·.ae))[j]? = (d.aa.map (·.ae))[i]? := by
    rw [CD,CD,hy,ff oM];simp only [WB];rw [e];simpa using e2
   have:=(List.getElem?_inj (by simpa using (by omega:j<d.aa.length)) h.dD).1 e3;omega
theorem U9 (d:Dag) (h:Valid d) (c:Cert) (lK:c.aJ) (qx:gr c) (bw:bM d.nodes c) :
  zA 153 [d.av,c.av] [] (λav L=>(cJ d c≠0/\av = .tup [d.av,.k (cJ d c)]/\L=[])∨(cJ d c=0/\av = .tup [.agg [.k d.nodes,.k d.low,.arr 0],.k 0]/\L=[.row 47 6 (ah (ye d c).aa) false])):=by
 have bR:=ak d.aa;have hlen:=h.len;have tx:aU d.aa:=by unfold aU;omega
 have pA:=kI d tx c (by have:=lK.ao;unfold aJ at this;omega) bw.head.round;rw [uM h] at pA;refine CI func153 ntmps153 ?_;refine (rW c qx d.nodes).mono ?_;rintro _ _ ⟨rfl,rfl⟩;rw [@cz _ (Classical.propDecidable _) bw];refine rdv ?_;repeat' (apply tw<;>intro _)
 ·rename_i fb;have e:cJ d c=6:=by rw [cJ,bp fb]
  rw [e];exact .inl ⟨dC,rfl,rfl⟩
 ·rename_i fb;refine (U7 d tx c.round c.af).mono ?_;rintro _ _ ⟨rfl,rfl⟩
  conv=>whnf
  refine (BJ d tx c.ae).mono ?_;rintro _ _ ⟨rfl,rfl⟩;rcases af6 (d:=d) c with ⟨hx,ij⟩|⟨i,y,hx,hy,ij⟩
  ·rw [show atI d.aa c.round c.af = -1 by rw [atI,hx];rfl]
   cases hg:fk d.aa c.ae with
   | none =>
     rw [show lI d.aa c.ae = -1 by rw [lI,hg];rfl];refine rdv ?_;refine pA.mono ?_;rintro _ _ ⟨rfl,rfl⟩;obtain ⟨lk,BM⟩:∃ lk,bm d c=lk:=⟨_,rfl⟩;rw [BM]
     cases lk with
     | cons z r =>
       have e:cJ d c=7:=by rw [cJ,aR fb,ij];simp [JB hg,BM]
       refine rdv ?_;repeat' (apply tw<;>intro _)
       ·rw [e];exact .inl ⟨dC,rfl,rfl⟩
       ·rename_i hx;exact absurd (by show ((0:Int)<((nums (z :: r)).length:Int));rw [nums_length];simp) hx
     | nil =>
       have e:cJ d c=0:=by rw [cJ,aR fb,ij];simp [JB hg,BM]
       refine rdv ?_;have hle:=uI d.aa c.round c.af;refine aH aF bf aG (σ:=Nat) (λj=>([(2,.ptr 0 0),(3,.ptr 1 0),(4,.ptr 2 0),(8,.k j)],[.cells d.cells,.cells c.cells,.cells [.k 0,.k 0,.d .nils]])) (λj=>j<=pos d.aa c.round c.af) (λj=>d.aa.length - j) [2,3,4,8] ?_ ?_
       ·conv=>whnf
        exact ⟨0,rfl,rfl,br _⟩
       ·intro j hj
        conv=>whnf
        refine cP Uq ?_;repeat' (apply tw<;>intro _)
        ·rename_i dM;refine eG d.aa j λy hy=>?_;have hb:=mg (r:=c.round) (a:=c.af) h.sorted hy
         ((with_reducible apply aC);(focus (intro K hK;(conv=>whnf);exact ⟨oM,y.cs,aB hy,hK⟩));(conv=>whnf))
         (refine eF ?_)
         ((with_reducible apply aC);(focus (intro K hK;(conv=>whnf);exact ⟨oM,y.cs,aB hy,hK⟩));(conv=>whnf))
         (refine eF ?_)
         refine (mX y.round y.af c.round c.af).mono ?_;rintro _ _ ⟨rfl,rfl⟩;rw [show decide (y.round<c.round∨y.round=c.round/\y.af<c.af)=y.before c.round c.af from rfl]
         cases Fm:y.before c.round c.af with
         | true =>
           refine rdv ?_;exact ⟨j+1,rfl,rfl,by have:=hb.1 Fm;omega,oM⟩
         | false =>
           have hje:j=pos d.aa c.round c.af:=by
            rcases qZ j (pos d.aa c.round c.af) with h4|h4
            ·rw [hb.2 h4] at Fm;cases Fm
            ·omega
           refine rdv ?_;subst hje;clear hj;obtain ⟨P,hP⟩:∃ P,pos d.aa c.round c.af=P:=⟨_,rfl⟩;have acT:(ye d c).aa=d.aa.take P++c :: d.aa.drop P:=by rw [<-hP];rfl
           rw [hP] at hle;rw [hP,acT];have wj:=kU (d.aa.take P) (by unfold aJ;simp;omega) (λc hc=>h.aJ.2 c (Fc hc));have C_:=mh (d.aa.drop P) (by unfold aJ;simp;omega) (λc hc=>h.aJ.2 c (G5 hc));have dR:List.drop (Int.toNat 0) (List.take ((P:Int)).toNat (ah d.aa))=ah (d.aa.take P):=by
            rw [show (Int.toNat 0)=0 from rfl,RI,show ((P:Int)).toNat=P from rfl];simp [ah]
           have e_:List.drop ((P:Int)).toNat (List.take ((ah d.aa).length:Int).toNat (ah d.aa))=ah (d.aa.drop P):=by
            rw [show ((P:Int)).toNat=P from rfl,show ((ah d.aa).length:Int).toNat=(ah d.aa).length from rfl,lD];simp [ah]
           have sy:=ak (d.aa.take P);have kj:=ak (d.aa.drop P);have WH:(d.aa.take P).length<=65536:=fS (CB ..) hlen;have hl4:(d.aa.drop P).length<=65536:=by rw [tf];omega
           refine cP I2 ?_
           ((with_reducible apply aC);(focus (intro K hK;(conv=>whnf);exact ⟨oM,oM,oM,hK⟩));(conv=>whnf))
           (refine eF ?_)
           rw [dR];refine aQ wj ?_;refine aQ (dF c lK) ?_;refine ⟨by simp;omega,?_⟩;refine rdv ?_;refine cP I3 ?_
           ((with_reducible apply aC);(focus (intro K hK;(conv=>whnf);exact ⟨oM,oM,oM,hK⟩));(conv=>whnf))
           (refine eF ?_)
           rw [e_];refine aQ C_ ?_;refine ⟨by simp [ah];omega,?_⟩;refine rdv ?_;refine .inr ⟨e,rfl,?_⟩;simp [ah,Cert.cs]
        ·rename_i dM;have hje:j=pos d.aa c.round c.af:=oM;subst hje;clear hj;obtain ⟨P,hP⟩:∃ P,pos d.aa c.round c.af=P:=⟨_,rfl⟩;have acT:(ye d c).aa=d.aa.take P++c :: d.aa.drop P:=by rw [<-hP];rfl
         rw [hP] at hle;rw [hP,acT];have wj:=kU (d.aa.take P) (by unfold aJ;simp;omega) (λc hc=>h.aJ.2 c (Fc hc));have C_:=mh (d.aa.drop P) (by unfold aJ;simp;omega) (λc hc=>h.aJ.2 c (G5 hc));have dR:List.drop (Int.toNat 0) (List.take ((P:Int)).toNat (ah d.aa))=ah (d.aa.take P):=by
          rw [show (Int.toNat 0)=0 from rfl,RI,show ((P:Int)).toNat=P from rfl];simp [ah]
         have e_:List.drop ((P:Int)).toNat (List.take ((ah d.aa).length:Int).toNat (ah d.aa))=ah (d.aa.drop P):=by
          rw [show ((P:Int)).toNat=P from rfl,show ((ah d.aa).length:Int).toNat=(ah d.aa).length from rfl,lD];simp [ah]
         have sy:=ak (d.aa.take P);have kj:=ak (d.aa.drop P);have WH:(d.aa.take P).length<=65536:=fS (CB ..) hlen;have hl4:(d.aa.drop P).length<=65536:=by rw [tf];omega
         refine cP I2 ?_
         ((with_reducible apply aC);(focus (intro K hK;(conv=>whnf);exact ⟨oM,oM,oM,hK⟩));(conv=>whnf))
         (refine eF ?_)
         rw [dR];refine aQ wj ?_;refine aQ (dF c lK) ?_;refine ⟨by simp;omega,?_⟩;refine rdv ?_;refine cP I3 ?_
         ((with_reducible apply aC);(focus (intro K hK;(conv=>whnf);exact ⟨oM,oM,oM,hK⟩));(conv=>whnf))
         (refine eF ?_)
         rw [e_];refine aQ C_ ?_;refine ⟨by simp [ah];omega,?_⟩;refine rdv ?_;refine .inr ⟨e,rfl,?_⟩;simp [ah,Cert.cs]
   | some k =>
     rw [show lI d.aa c.ae=k by rw [lI,hg];rfl];have e:cJ d c=5:=by rw [cJ,aR fb,ij];simp [Qw hg]
     refine rdv ?_;rw [e];exact .inl ⟨dC,rfl,rfl⟩
  ·have hgi:=YH h (x:=c.ae) hy;rw [show atI d.aa c.round c.af=i by rw [atI,hx];rfl];refine rdv ?_;repeat' (apply tw<;>intro _)
   ·rename_i bC;have eY:fk d.aa c.ae=some i:=by
     cases hg:fk d.aa c.ae with
     | none=>rw [lI,hg] at bC;exact absurd bC (by show ¬((i:Int) = -1);omega)
     | some k=>rw [lI,hg] at bC;rw [show i=k from Int.ofNat_inj.1 bC]
    have e:cJ d c=4:=by rw [cJ,aR fb,ij];simp [hgi.1 eY]
    rw [e];exact .inl ⟨dC,rfl,rfl⟩
   ·rename_i bC;have ef:y.ae≠c.ae:=λh5=>bC (by rw [lI,hgi.2 h5];rfl);have e:cJ d c=5:=by rw [cJ,aR fb,ij];simp [ef]
    rw [e];exact .inl ⟨dC,rfl,rfl⟩
theorem OV (d:Dag) (h:Valid d) (c:Cert) (lK:c.aJ) (qx:gr c) (bw:bM d.nodes c) :
  zA 153 [d.av,c.av] [] (pQ (.tup [(gH d c).av,.k (cJ d c)]) []):=by
 refine bT (U9 d h c lK qx bw) ?_;rintro _ _ (⟨h,rfl,rfl⟩|⟨h,rfl,rfl⟩)
 ·rw [gH,aR h]
  conv=>whnf
  exact ⟨rfl,rfl⟩
 ·rw [gH,bp h,h]
  conv=>whnf
  exact ⟨rfl,rfl⟩
def Cert.jr (c:Cert):Prop:=c.aE.length<=3000/\c.ao.length<=3000/\c.sigs.length<=3000
theorem BV (l:List Cert) (hl:aU l) (h:∀ c∈l,c.ok):zA 22 [.d (.sl 6 (ah l))] [] (λav L=>(∃ n:Int,av = .k n/\(n<=3000->∀ c∈l,c.jr))/\L=[]):=by
 have bR:=ak l;unfold aU at hl;refine dB func22 ntmps22 ?_;refine dw aF bf aG (σ:=Int) (ρ:=Nat) (λw j=>([(0,.d (.sl 6 (ah l))),(3,.k w),(4,.k j)],[])) (λw j=>j<=l.length/\(0<=w/\w<=1000000000000000)/\(w<=3000->∀ c∈l.take j,c.jr)) (λ_ j=>l.length - j) [0,3,4] ?_ ?_
 ·conv=>whnf
  exact ⟨l.length,0,by rw [bR];rfl,rfl,oM,⟨oM,oM⟩,by simp⟩
 ·rintro w j ⟨hj,⟨hw0,Ag⟩,bK⟩
  conv=>whnf
  rw [bR];refine XD ?_;repeat' (apply tw<;>intro _)
  ·rename_i dM hwl;refine eG l j λc hc=>?_;have hk:=h c (fU hc);have h1:=hk.aE.1;have h2:=hk.ao.1;have h3:=hk.sigs.1;unfold aU at h1 h2 h3;refine ⟨oM,c.cs,aB hc,?_⟩
   conv=>whnf
   refine qR (JA c hk) ?_;refine ⟨_,j+1,rfl,rfl,⟨oM,⟨oM,oM⟩,λhw y hy=>?_⟩,oM⟩;rw [Mr hc] at hy;rcases gA.1 hy with hy|hy
   ·exact bK oM y hy
   ·simp at hy;rw [hy];exact ⟨oM,oM,oM⟩
  ·exact ⟨⟨_,rfl,λhw=>oM⟩,rfl⟩
  ·rw [gx oM] at bK;exact ⟨⟨_,rfl,bK⟩,rfl⟩
theorem Mt (d:Dag) (h:d.ok):zA 21 [d.av] [] (λav L=>(∃ b,av = .d (.bool b)/\(b=false->d.aa.length<=80/\∀ c∈d.aa,c.jr))/\L=[]):=by
 have bR:=ak d.aa;refine dB func21 ntmps21 ?_;rw [bR];refine XD ?_;repeat' (apply tw<;>intro _)
 ·exact ⟨⟨_,rfl,by intro h;cases h⟩,rfl⟩
 ·rename_i h80;refine (BV d.aa h.aa.1 h.aa.2).mono ?_;rintro _ _ ⟨⟨n,rfl,hn⟩,rfl⟩
  conv=>whnf
  exact ⟨⟨_,rfl,λh3=>⟨oM,hn (by have:=Wz h3;omega)⟩⟩,rfl⟩
theorem YI (n:Int):zA 31 [.k n] [] (pQ (.d (.bool (decide (0<=n/\n<=1099511627776)))) []):=by
 refine y0 func31 ntmps31 ?_;repeat' (apply tw<;>intro _)
 ·rename_i h1;exact ⟨bu (by simp;omega),rfl⟩
 ·rename_i h1;exact ⟨by rw [aP oM];rfl,rfl⟩
theorem Cert.jr.all {c:Cert} (h:c.jr):gr c/\c.aJ:=by
 obtain ⟨h1,h2,h3⟩:=h;exact ⟨⟨by unfold aU;omega,by unfold aU;omega,by unfold aU;omega⟩,⟨by show c.aE.length<=_;omega,by show c.ao.length<=_;omega,by show c.sigs.length<=_;omega⟩⟩
theorem wB (l:List Cert) (hl:aJ l) (h:∀ c∈l,c.aJ):zA 149 [.d (.sl 6 (ah l))] [] (pQ (.arr 0) [.row 47 6 (ah l) false]):=by
 have hx:=ak l;unfold aJ at hl;refine CI func149 ntmps149 ?_;refine aH aF bf aG (σ:=Nat) (λk=>([(5,.d (.sl 6 (ah l))),(6,.k l.length),(7,.k k),(2,.arr 0)],[.row 47 6 (ah (l.take k)) false])) (λk=>k<=l.length) (λk=>l.length - k) [5,6,7,2] ?_ ?_
 ·conv=>whnf
  exact ⟨0,by rw [hx];rfl,rfl,oM⟩
 ·intro k hk;refine cm ?_;repeat' (apply tw<;>intro _)
  ·rename_i h2;refine eG l k λa ha=>?_;have FN:=ak (l.take k);refine ⟨oM,a.cs,aB ha,?_⟩;refine cm ?_;refine qR (m7 a (h a (fU ha))) ?_;refine ⟨by simp [FN];omega,?_⟩;refine cm ?_;refine ⟨k+1,rfl,?_,oM,oM⟩;rw [iu,ha];simp [ah,Cert.cs]
  ·rename_i h2;rw [gx oM];exact ⟨rfl,rfl⟩
theorem Mu (d:Dag) (hl:aJ d.aa) (h:∀ c∈d.aa,c.aJ):zA 148 [d.av] [] (pQ (.agg [.k d.nodes,.k d.low,.arr 0]) [.row 47 6 (ah d.aa) false]):=by
 have h1:=wB d.aa hl h;refine CI func148 ntmps148 ?_;refine qR h1 ?_;exact ⟨rfl,rfl⟩
theorem Qx (d:Dag) (hl:aJ d.aa) (h:∀ c∈d.aa,c.aJ):zA 148 [d.av] [] (λav L=>av=d.av/\L=[]):=by
 refine bT (Mu d hl h) ?_;rintro _ _ ⟨rfl,rfl⟩
 conv=>whnf
 exact ⟨rfl,rfl⟩
theorem fc {α:Type}:aU ([]:List α):=br _
theorem qi (l:List bb) (hl:l.length<=1099511627776):zA 147 [.d (.sl 3 (ax l))] [] (pQ (.arr 0) [.row 106 3 (ax l) false]):=by
 have eM:=aV l;refine CI func147 ntmps147 ?_;intro b hb;refine rdv ?_;repeat' (apply tw<;>intro _)
 ·rename_i h;have:l=[]:=by simpa [ax] using hb h
  subst this;exact ⟨rfl,rfl⟩
 ·rename_i h;refine ⟨by rw [eM];show (0+l.length) * 24<=_;omega,?_⟩
  conv=>whnf
  exact ⟨rfl,rfl⟩
theorem Qy (l:List bb) (hl:l.length<=1099511627776):zA 147 [.d (.sl 3 (ax l))] [] (pQ (.d (.sl 3 (ax l))) []):=by
 refine bT (qi l hl) ?_;rintro _ _ ⟨rfl,rfl⟩
 conv=>whnf
 exact ⟨rfl,rfl⟩
theorem JC (l:List Cert) (hl:aJ l) (h:∀ c∈l,c.aJ):zA 149 [.d (.sl 6 (ah l))] [] (pQ (.d (.sl 6 (ah l))) []):=by
 refine bT (wB l hl h) ?_;rintro _ _ ⟨rfl,rfl⟩
 conv=>whnf
 exact ⟨rfl,rfl⟩
structure Prim.aJ (p:Prim):Prop where
 aK:p.aK.aJ
 aL:p.aL.length<=1099511627776
 aA:p.aA.length<=1099511627776
 aq:Go.Proofs.YtolkmjfkkkiboaaGreat.aJ p.aq.aa/\∀ c∈p.aq.aa,c.aJ
 late:Go.Proofs.YtolkmjfkkkiboaaGreat.aJ p.late/\∀ c∈p.late,c.aJ
theorem BW (p:Prim) (h:p.aJ):zA 94 [p.av] [] (λav L=>av=p.av/\L=[]):=by
 refine dB func94 ntmps94 ?_;refine cP LU ?_;refine aQ (Me p.aK h.aK) ?_;refine aQ (sR p.aL h.aL) ?_;refine aQ (Qy p.aA h.aA) ?_;refine cP LV ?_;refine aQ (Qx p.aq h.aq.1 h.aq.2) ?_;refine aQ (JC p.late h.late.1 h.late.2) ?_;exact ⟨rfl,rfl⟩
def dN (p:Prim):Cert:=⟨p.aK.af,p.aK.round,p.aK.aE,p.aK.ao,p.dD,p.aL⟩
def dQ (p:Prim):Prim:={ p with aK:=kb,dD:=0,aL:=[] }
def eJ (p:Prim):Bool := !(decide (p.dD=0)||decide ((p.aL.length:Int)<quo p.nodes))
def jV (p:Prim):Prim:=if eJ p then mB (dQ p) (dN p) else p
def cn (c:Cert):aW:=⟨6,0,0,0,0,0,[],kb,c,[]⟩
theorem mi (p:Prim) (out:List aW) (ho:out.length<=100000) (hn:jA p.nodes=true) (hd:eJ p=true->bM p.aq.nodes (dN p)/\(dN p).aJ/\lr p.aq p.late/\p.aq.aa.length+p.late.length<60000/\ct p.late):zA 146 [.ptr 0 0] (p.st out) (λav L=>av = .tup []/\∃ j,L=(jV p).sj j (out++if eJ p then cM (dQ p) (cn (dN p)) [] p.nodes.toNat else [])):=by
 refine dB func146 ntmps146 ?_;refine cP Yd ?_;repeat' (apply tw<;>intro _)
 ·rename_i h0;have hd:eJ p=false:=by simp [eJ,h0]
  refine ⟨rfl,false,?_⟩;rw [jV,hd];simp only [Sa,if_false,gR];rfl
 ·rename_i h0;have kx:=gQ hn;refine aQ (UC p.nodes ⟨oM,oM⟩) ?_;repeat' (apply tw<;>intro _)
  ·have hq:((nums p.aL).length:Int)<quo p.nodes:=aM;rw [nums_length] at hq;have hd:eJ p=false:=by simp [eJ,h0,hq]
   refine ⟨rfl,false,?_⟩;rw [jV,hd];simp only [Sa,if_false,gR];rfl
  ·have hq:¬((nums p.aL).length:Int)<quo p.nodes:=aM;rw [nums_length] at hq;have qQ:eJ p=true:=by simp [eJ,h0];omega
   obtain ⟨bw,lK,hf,eh,acU⟩:=hd qQ;have Ml:=ej (dQ p) (cn (dN p)) [] p.nodes.toNat;have BX:=wu (dQ p) (by show 0<=p.nodes/\p.nodes<=16;omega) out oM (cn (dN p)) fJ lK [] fc;have fD:=Qu (dQ p) (out++cM (dQ p) (cn (dN p)) [] p.nodes.toNat) (by rw [iQ];omega) (dN p) bw lK hf eh acU 0;rw [jV,bp qQ,bp qQ];rw [tz,aR (λh=>by have:=h.2;omega),gR] at fD;refine cP Ye ?_;refine (vN [(0,7,1),(0,8,1),(0,10,1)] rfl (bz BX (.cons (.refl _) (.cons (.agg ?_) (.cons (.refl _) .nil))))).mono ?_
   ·repeat (first|exact .nil|refine .cons (.refl _) ?_|refine .cons (.nils _ dC) ?_)
   ·rintro _ _ ⟨rfl,j,rfl⟩
    cases j
    all_goals
     refine rdv ?_;refine fD.mono ?_;rintro _ _ ⟨rfl,j,rfl⟩
     cases j
     all_goals
      refine rdv ?_
      first
       | exact ⟨rfl,false,rfl⟩
       | exact ⟨rfl,true,rfl⟩
theorem Gt (n:Int) (l:List Cert) (hl:l.length<=256) (hs:ct l) (bw:∀ c∈l,bM n c/\gr c):zA 76 [.d (.sl 6 (ah l)),.k n] [] (pQ (.d (.bool true)) []):=by
 have bR:=ak l;refine dB func76 ntmps76 ?_;refine aH aF bf aG (σ:=Nat) (λj=>([(0,.d (.sl 6 (ah l))),(1,.k n),(7,.d (.sl 6 (ah l))),(8,.k l.length),(9,.k j)],[])) (λj=>j<=l.length) (λj=>l.length - j) [0,1,7,8,9] ?_ ?_
 ·conv=>whnf
  exact ⟨0,by rw [bR];rfl,rfl,br _⟩
 ·intro j hj;refine rdv ?_;repeat' (apply tw<;>intro _)
  ·rename_i dM;refine eG l j λc hc=>?_;obtain ⟨h1,h2⟩:=bw c (fU hc);have hm:zA 130 [c.av,.k n] [] (pQ (.d (.bool true)) []):=(mY c h2 n).mono (by rintro _ _ ⟨rfl,rfl⟩;exact ⟨by simp [h1],rfl⟩);refine ⟨oM,c.cs,aB hc,?_⟩;refine rdv ?_;refine cP Uj ?_;refine aQ hm ?_;repeat' (apply tw<;>intro _)
   ·have CF:(j:Int)>0:=aM;refine nu (⟨_,ff oM⟩:∃ b,l[j - 1]? = some b) λb hb=>?_;have hbc:b.ae<c.ae:=by
     have:=CL.1 hs (j - 1) j oM oM oM;rw [ff oM] at hb hc
     cases hb;cases hc;exact this
    ((with_reducible apply aC);(focus (intro K hK;(conv=>whnf);exact ⟨oM,b.cs,(by rw [show ((j:Int) - 1).toNat=j - 1 by omega];exact aB hb),hK⟩));(conv=>whnf))
    repeat' (first|(refine jz ?_;repeat' (apply tw<;>intro _))|((with_reducible apply eT);(focus ((conv=>whnf);intro K hK;(conv=>whnf);exact ⟨oM,b.cs,(by rw [show ((j:Int) - 1).toNat=j - 1 by omega];exact aB hb),hK⟩));(conv=>whnf)))
    ·rename_i h;exact absurd (show b.ae≥c.ae from h) oM
    ·exact ⟨j+1,rfl,rfl,oM,oM⟩
   ·exact ⟨j+1,rfl,rfl,oM,oM⟩
  ·rename_i dM;refine ⟨?_,rfl⟩;rw [cz (oM:((ah l).length:Int)<=256)]
structure af9 (p:Prim):Prop where
 aK:p.aK.af=0/\p.aK.round=0/\p.aK.aE=[]/\p.aK.ao=[]
 dD:p.dD=0
 aL:p.aL=[]
theorem U_ (p:Prim) (h:af9 p):zA 73 [p.av] [] (pQ (.d (.bool true)) []):=by
 obtain ⟨⟨a1,a2,a3,a4⟩,a5,a6⟩:=h;obtain ⟨id,nodes,round,iq,said,⟨ma,mr,mb,mp,md,ms⟩,dD,aL,aA,aq,late⟩:=p;simp only at a1 a2 a3 a4 a5 a6;subst a1 a2 a3 a4 a5 a6;refine y0 func73 ntmps73 ?_;intro z hz;have vr:z=0:=by rw [hz];rfl
 subst vr;refine cm ?_;intro z2 oA;have vr:z2=0:=by rw [oA];rfl
 subst vr;refine cm ?_;exact ⟨rfl,rfl⟩
theorem JD:zA 74 [.d (.sl 3 [])] [] (pQ (.d (.bool true)) []):=by
 refine dB func74 ntmps74 ?_;refine mU aF bf aG (σ:=Unit) (λ_=>([(0,.d (.sl 3 [])),(3,.k 0)],[])) (λk _=>k=1) (λ_ _=>0) ?_ ?_
 ·rintro k rest hk _ rfl;have e:=Hl (show some _=some rest from hk);subst e;clear hk;refine cm ?_;exact ⟨rfl,rfl⟩
 ·intro pass
  conv=>whnf
  refine fq (σ:=Unit) (λ_=>([(0,.d (.sl 3 [])),(3,.k 0)],[])) (λ_=>True) [0,3] ?_ ?_
  ·conv=>whnf
   exact ⟨(),rfl,rfl,trivial⟩
  ·intro _ _;exact pass 1 _ rfl () rfl
structure Gu (p:Prim):Prop where
 bare:af9 p
 fl:jA p.nodes=true
 id:1<=p.id/\p.id<=p.nodes
 round:1<=p.round/\p.round<=1099511627776
 iq:0<=p.iq/\p.iq<=1099511627776
 said:0<=p.said/\p.said<=p.round
 aA:p.aA=[]
 aq:Valid p.aq
 same:p.aq.nodes=p.nodes
 late:p.late.length<=256/\ct p.late/\∀ c∈p.late,bM p.nodes c/\gr c
end Go.Proofs.YtolkmjfkkkiboaaGreat
