/- PrimaryExact: contracts. -/
import Derived.Test.YtolkmjfkkkiboaaGreatPrimaryExactCodO
set_option linter.all false
set_option maxHeartbeats 16000000
set_option maxRecDepth 100000
namespace Go.Proofs.YtolkmjfkkkiboaaGreat
open Go.Ab Go.RowKit Go.MapKept Tryz
attribute [local irreducible] ay AW cw eA eo bL
def ajA (p:Prim) (out:List aW) (x:Int×Int):AF×List AB:=([(0,.ptr 0 0)],(p.at x).st out)
def mvI (p:Prim) (out:List aW) (x:Int×Int) (i:Nat):AF×List AB:=([(0,.ptr 0 0),(2,.k (qF p (p.aq.aa.take i) 0)),(3,.k i)],(p.at x).st out)
theorem Y7 {p:Prim} {i:Nat} {c:Cert} (h:p.aq.aa[i]? = some c):qF p (p.aq.aa.take (i+1)) 0=if c.round>qF p (p.aq.aa.take i) 0/\dx p c.round=true then c.round else qF p (p.aq.aa.take i) 0:=by
 rw [iu,h];exact O6 p c _ _
theorem wW (p:Prim) (x:Int×Int):x.1<=(ox p x).1:=by
 unfold ox;split
 ·show x.1<=qM p;omega
 ·exact G8 _
theorem Ce (p:Prim):∀ (m n:Nat) (x:Int×Int),(1099511627776 - x.1).toNat<m->(1099511627776 - x.1).toNat<n->nn p m x=nn p n x
 | 0,n,x,h1,h2=>oM
 | m+1,0,x,h1,h2=>oM
 | m+1,n+1,x,h1,h2=>by
   unfold nn;have hl:=wW p x;by_cases hg:ir p (ox p x)=true
   ·rw [bp hg,bp hg];have:=ot hg;exact Ce p m n _ (by show (1099511627776 - ((ox p x).1+1)).toNat<_;omega) (by show (1099511627776 - ((ox p x).1+1)).toNat<_;omega)
   ·rw [aR hg,aR hg]
theorem tc {p:Prim} {x y:Int×Int} (nA:p.at (nn p ((1099511627776 - x.1).toNat+1) x)=wK p) (hr:ox p x=y) (hg:ir p y=false):wK p=p.at y:=by
 rw [<-nA,nn,hr,aR (by rw [hg];decide)]
theorem GM {p:Prim} {x y:Int×Int} (nA:p.at (nn p ((1099511627776 - x.1).toNat+1) x)=wK p) (hr:ox p x=y) (hg:ir p y=true):p.at (nn p ((1099511627776 - (y.1+1)).toNat+1) (y.1+1,0))=wK p:=by
 have h1:=ot hg;have h2:=wW p x;rw [hr] at h2;have e:nn p ((1099511627776 - x.1).toNat+1) x=nn p (1099511627776 - x.1).toNat (y.1+1,0):=by rw [nn,hr,bp hg]
 rw [<-nA,e];exact lM p.at (Ce p _ _ _ (Nt _) (by show (1099511627776 - (y.1+1)).toNat<_;omega))
theorem MU (p:Prim) (out:List aW) (hv:Valid p.aq) (hn:jA p.nodes=true) (jP:p.aq.nodes=p.nodes) (hr:1<=p.round/\p.round<=1099511627776) (htc:∀ c∈p.aq.aa,c.aJ):zA 95 [.ptr 0 0] (p.st out) (pQ (.tup []) ((wK p).st out)):=by
 have kx:=gQ hn;have hlen:=hv.len;have bR:=ak p.aq.aa;have VS:=λ(x:Int×Int) (r:Int)=>EG (p.at x) out (by show p.aq.aa.length<=_;omega) htc hn r;refine dB func95 ntmps95 ?_;refine aH aF bf aG (σ:=Int×Int) (ajA p out) (λx=>(1<=x.1/\x.1<=1099511627776)/\p.at (nn p ((1099511627776 - x.1).toNat+1) x)=wK p) (λx=>(1099511627776 - x.1).toNat) [0] ?_ ?_
 ·conv=>whnf
  exact ⟨(p.round,p.iq),rfl,rfl,hr,(VQ hv oM hr.1 _ (Nt _)).symm⟩
 ·rintro ⟨rd,ag⟩ ⟨hx,nA⟩;replace hx:1<=rd/\rd<=1099511627776:=hx;refine cm ?_;refine aH aF bf aG (σ:=Nat) (mvI p out (rd,ag)) (λi=>i<=p.aq.aa.length) (λi=>p.aq.aa.length - i) [0,2,3] ?_ ?_
  ·conv=>whnf
   exact ⟨0,rfl,rfl,br _⟩
  ·intro i hi;refine cm ?_;repeat' (apply tw<;>intro _)
   ·have k1:(i:Int)<((ah p.aq.aa).length:Int):=aM;refine eG p.aq.aa i λc hc=>?_;have dq:=Y7 hc;refine ⟨oM,c.cs,aB hc,?_⟩;refine cm ?_;repeat' (apply tw<;>intro _)
    ·have k2:c.round>qF p (p.aq.aa.take i) 0:=aM;refine (VS (rd,ag) c.round).mono ?_;rintro _ _ ⟨rfl,rfl⟩;rw [show dx (p.at (rd,ag)) c.round=dx p c.round from rfl]
     cases hf:dx p c.round with
     | true =>
       rw [bp ⟨k2,hf⟩] at dq;refine cm ?_;exact ⟨i+1,by unfold mvI;rw [dq];rfl,rfl,(oM:i+1<=p.aq.aa.length),(oM:p.aq.aa.length - (i+1)<p.aq.aa.length - i)⟩
     | false =>
       rw [aR (λh=>by rw [hf] at h;cases h.2)] at dq;refine cm ?_;exact ⟨i+1,by unfold mvI;rw [dq];rfl,rfl,(oM:i+1<=p.aq.aa.length),(oM:p.aq.aa.length - (i+1)<p.aq.aa.length - i)⟩
    ·have k2:¬c.round>qF p (p.aq.aa.take i) 0:=aM;rw [aR (λh=>k2 h.1)] at dq;exact ⟨i+1,by unfold mvI;rw [dq];rfl,rfl,(oM:i+1<=p.aq.aa.length),(oM:p.aq.aa.length - (i+1)<p.aq.aa.length - i)⟩
   ·rename_i k1 k2;replace k1:¬(i:Int)<((ah p.aq.aa).length:Int):=k1;have OT:qM p=qF p (p.aq.aa.take i) 0:=by rw [gx oM];rfl
    replace k2:qF p (p.aq.aa.take i) 0>rd:=k2;have hqx:=O7 p (p.aq.aa.take i) 0;obtain ⟨q,hq⟩:∃ q,qF p (p.aq.aa.take i) 0=q:=⟨_,rfl⟩;rw [hq] at OT k2 hqx;have hqm:q<=1099511627776:=by
     rcases hqx with e|⟨c,h1,h2,_⟩
     ·omega
     ·have:=(hv.aa c (Fc h1)).head.round;omega
    have Y8:=EI (p.at (q,0)) out hv jP ⟨(oM:1<=q),hqm⟩;have O8:ox p (rd,ag)=(q,0):=by unfold ox;rw [OT];exact bp k2
    have qx:=VS (q,0) q;rw [<-hq] at qx Y8;rw [<-hq] at O8 hqm;refine qx.mono ?_;rintro _ _ ⟨rfl,rfl⟩;rw [show dx (p.at (qF p (p.aq.aa.take i) 0,0)) ((qF p (p.aq.aa.take i) 0,0)).1=dx p ((qF p (p.aq.aa.take i) 0,0)).1 from rfl]
    cases hf:dx p ((qF p (p.aq.aa.take i) 0,0)).1 with
    | false =>
      refine cm ?_;have uR:=tc nA O8 (r8 hf);exact ⟨rfl,by rw [uR];rfl⟩
    | true =>
      refine cm ?_;repeat' (apply tw<;>intro _)
      ·rename_i k3;have uR:=tc nA O8 (r9 (by show ¬((qF p (p.aq.aa.take i) 0,0)).1<_;exact Int.not_lt.2 k3));exact ⟨rfl,by rw [uR];rfl⟩
      ·rename_i k3;have k4:((qF p (p.aq.aa.take i) 0,0):Int×Int).2<5:=by show (0:Int)<5;decide
       refine Y8.mono ?_;rintro _ _ ⟨rfl,rfl⟩
       cases hb:nh (p.at (qF p (p.aq.aa.take i) 0,0)) with
       | true =>
         have hg:=pc hf (Int.not_le.1 k3) hb;have Dm:=GM nA O8 hg;have bB:qF p (p.aq.aa.take i) 0<1099511627776:=ot hg;have hle:=wW p (rd,ag);rw [O8] at hle;replace hle:rd<=qF p (p.aq.aa.take i) 0:=hle;have ij:(p.at (qF p (p.aq.aa.take i) 0,0)).round=qF p (p.aq.aa.take i) 0:=rfl;refine cm ?_;exact ⟨(((qF p (p.aq.aa.take i) 0,0)).1+1,0),rfl,rfl,⟨⟨(oM:1<=qF p (p.aq.aa.take i) 0+1),(oM:((qF p (p.aq.aa.take i) 0,0)).1+1<=_)⟩,Dm⟩,(oM:(1099511627776 - (qF p (p.aq.aa.take i) 0+1)).toNat<(1099511627776 - rd).toNat)⟩
       | false =>
         refine cm ?_;have uR:=tc nA O8 (r_ (Int.not_le.2 k4) hb);exact ⟨rfl,by rw [uR];rfl⟩
   ·rename_i k1 k2;replace k1:¬(i:Int)<((ah p.aq.aa).length:Int):=k1;have OT:qM p=qF p (p.aq.aa.take i) 0:=by rw [gx oM];rfl
    replace k2:¬qF p (p.aq.aa.take i) 0>rd:=k2;have hqx:=O7 p (p.aq.aa.take i) 0;have Y8:=EI (p.at (rd,ag)) out hv jP hx;have O8:ox p (rd,ag)=(rd,ag):=by unfold ox;rw [OT];exact aR k2
    have qx:=VS (rd,ag) rd;refine qx.mono ?_;rintro _ _ ⟨rfl,rfl⟩;rw [show dx (p.at (rd,ag)) ((rd,ag)).1=dx p ((rd,ag)).1 from rfl]
    cases hf:dx p ((rd,ag)).1 with
    | false =>
      refine cm ?_;have uR:=tc nA O8 (r8 hf);exact ⟨rfl,by rw [uR];rfl⟩
    | true =>
      refine cm ?_;repeat' (apply tw<;>intro _)
      ·rename_i k3;have uR:=tc nA O8 (r9 (by show ¬((rd,ag)).1<_;exact Int.not_lt.2 k3));exact ⟨rfl,by rw [uR];rfl⟩
      ·rename_i k3 k4;refine Y8.mono ?_;rintro _ _ ⟨rfl,rfl⟩
       cases hb:nh (p.at (rd,ag)) with
       | true =>
         have hg:=pc hf (Int.not_le.1 k3) hb;have Dm:=GM nA O8 hg;have bB:rd<1099511627776:=ot hg;have hle:=wW p (rd,ag);rw [O8] at hle;replace hle:rd<=rd:=hle;have ij:(p.at (rd,ag)).round=rd:=rfl;refine cm ?_;exact ⟨(((rd,ag)).1+1,0),rfl,rfl,⟨⟨(oM:1<=rd+1),(oM:rd+1<=_)⟩,Dm⟩,(oM:(1099511627776 - (rd+1)).toNat<(1099511627776 - rd).toNat)⟩
       | false =>
         refine cm ?_;have uR:=tc nA O8 (r_ (Int.not_le.2 k4) hb);exact ⟨rfl,by rw [uR];rfl⟩
      ·rename_i k3 k4;have hg:=ym hf (Int.not_le.1 k3) (Int.not_lt.1 k4);have Dm:=GM nA O8 hg;have bB:rd<1099511627776:=ot hg;have hle:=wW p (rd,ag);rw [O8] at hle;replace hle:rd<=rd:=hle;have ij:(p.at (rd,ag)).round=rd:=rfl
       (refine XD ?_)
       exact ⟨(((rd,ag)).1+1,0),rfl,rfl,⟨⟨(oM:1<=rd+1),(oM:rd+1<=_)⟩,Dm⟩,(oM:(1099511627776 - (rd+1)).toNat<(1099511627776 - rd).toNat)⟩
def aW.from (m:aW) (p:Prim):aW:={ m with src:=p.id }
theorem kM (p:Prim) (out:List aW) (ho:out.length<=1000000000) (m:aW):zA 97 [.ptr 0 0,m.av] (p.st out) (pQ (.tup []) (p.st1 (out++[m.from p]))):=by
 have zy:=jT out;refine gG func97 ntmps97 ?_;refine cP acA ?_;refine ⟨by simp;omega,?_⟩;refine rdv ?_;refine ⟨rfl,?_⟩;rw [Prim.st1,show bZ (out++[m.from p])=bZ out++[(m.from p).cs] by simp [bZ]];rfl
def aW.Ki (m:aW) (d:Int):aW:={ m with dst:=d }
theorem pk (m:aW) (p:Prim) (d:Int):(m.Ki d).from p=m.told p d:=rfl
def Y9 (p:Prim) (out:List aW) (m:aW) (j:Bool) (s:Nat×Int):AF×List AB:=([(0,.ptr 0 0),(3,.ptr 2 0),(4,.k ((s.1:Int)+1))],teB p (out++cM p m [] s.1) (m.Ki s.2) j)
theorem wX (p:Prim) (hn:0<=p.nodes/\p.nodes<=16) (out:List aW) (ho:out.length<=100000000) (m:aW) (hm:m.small):zA 90 [.ptr 0 0,m.av] (p.st out) (λav L=>av = .tup []/\∃ j,L=p.sj j (out++cM p m [] p.nodes.toNat)):=by
 refine dB func90 ntmps90 ?_;refine dw aF bf aG (σ:=Bool) (ρ:=Nat×Int) (Y9 p out m) (λ_ s=>s.1<=p.nodes.toNat) (λ_ s=>p.nodes.toNat - s.1) [0,3,4] ?_ ?_
 ·conv=>whnf
  exact ⟨false,(0,m.dst),rfl,by unfold Y9;rw [show cM p m [] 0=[] from rfl,gR];rfl,br _⟩
 ·rintro j ⟨q,d⟩ hq;replace hq:q<=p.nodes.toNat:=hq;have Ml:=ej p m [] q;have j9:=m_ p m [] q;have BU:=B6 (m.Ki ((q:Int)+1)) ⟨hm.dX,hm.head,hm.cert,hm.aT,hm.sigs⟩;have KS:=kM p (out++cM p m [] q) (by rw [iQ];omega) (m.Ki ((q:Int)+1));rw [pk] at KS
  cases j with
  | false =>
    refine rdv ?_;repeat' (apply tw<;>intro _)
    ·have ef:(q:Int)+1≠p.id:=aM;have hle:(q:Int)+1<=p.nodes:=aM;rw [bp ⟨ef,by simp⟩] at j9;rw [uf,<-j9] at KS;refine aQ BU ?_;refine aQ KS ?_;exact ⟨true,(q+1,(q:Int)+1),rfl,rfl,(oM:q+1<=p.nodes.toNat),(oM:p.nodes.toNat - (q+1)<p.nodes.toNat - q)⟩
    ·have ef:(q:Int)+1=p.id:=aM;have hle:(q:Int)+1<=p.nodes:=aM;rw [aR (λh=>h.1 ef),gR] at j9;exact ⟨false,(q+1,d),rfl,by unfold Y9;rw [j9];rfl,(oM:q+1<=p.nodes.toNat),(oM:p.nodes.toNat - (q+1)<p.nodes.toNat - q)⟩
    ·have hle:¬(q:Int)+1<=p.nodes:=aM;obtain rfl:q=p.nodes.toNat:=oM;exact ⟨rfl,false,rfl⟩
  | true =>
    refine rdv ?_;repeat' (apply tw<;>intro _)
    ·have ef:(q:Int)+1≠p.id:=aM;have hle:(q:Int)+1<=p.nodes:=aM;rw [bp ⟨ef,by simp⟩] at j9;rw [uf,<-j9] at KS;refine aQ BU ?_;refine aQ KS ?_;exact ⟨true,(q+1,(q:Int)+1),rfl,rfl,(oM:q+1<=p.nodes.toNat),(oM:p.nodes.toNat - (q+1)<p.nodes.toNat - q)⟩
    ·have ef:(q:Int)+1=p.id:=aM;have hle:(q:Int)+1<=p.nodes:=aM;rw [aR (λh=>h.1 ef),gR] at j9;exact ⟨true,(q+1,d),rfl,by unfold Y9;rw [j9];rfl,(oM:q+1<=p.nodes.toNat),(oM:p.nodes.toNat - (q+1)<p.nodes.toNat - q)⟩
    ·have hle:¬(q:Int)+1<=p.nodes:=aM;obtain rfl:q=p.nodes.toNat:=oM;exact ⟨rfl,true,rfl⟩
theorem EJ {q:Prim} (h:∀ c∈q.aq.aa,c.af≠q.id):ou q=none:=by
 unfold ou;rw [ZH];intro c hc;rw [zfM] at hc;simpa using h c hc
theorem EK {q:Prim} {k:Nat} {c:Cert} (hk:q.aq.aa[k]? = some c) (hn:∀ c'∈q.aq.aa.drop (k+1),c'.af≠q.id) (ha:c.af=q.id):ou q=some c:=by
 have bB:=(dW.1 hk).1;have he:q.aq.aa=q.aq.aa.take k++c :: q.aq.aa.drop (k+1):=by
  have:=(dW.1 hk).2;rw [<-this,List.getElem_cons_drop,KG]
 unfold ou;rw [he,List.reverse_append,List.reverse_cons,uf,List.find?_append];have h1:(q.aq.aa.drop (k+1)).reverse.find? (λc=>c.af == q.id)=none:=by
  rw [ZH];intro c' kc;rw [zfM] at kc;simpa using hn c' kc
 rw [h1];simp [ha]
theorem Cf {l:List Int} {n:Nat} (h:dh l 1 n):l.length<=n:=by
 have:=sO (m:=(List.range n).map λn:Nat=>(n:Int)+1) (ik h.1) λx hx=>by
  have:=h.2 x hx;exact px.2 ⟨(x - 1).toNat,by simp;omega,oM⟩
 simpa using this
theorem kW {n:Int} (hn:jA n=true) {c:Cert} (h:bM n c):(cn c).small:=by
 have kx:=gQ hn;have h3:=h.head.aE;have h4:=h.head.ao;have h6:=h.sigs;rw [show n=(n.toNat:Int) by omega] at h6;have h6:=Cf h6;have z:(([]:List Int)).length<=3000:=br _;exact ⟨br _,⟨z,z⟩,⟨by show c.aE.length<=3000;omega,by show c.ao.length<=3000;omega,by show c.sigs.length<=3000;omega⟩,z,z⟩
def tkB (p q:Prim) (o:List aW):List AB:=[.cells (p.cs.map AV.d),.cells (q.cs.map AV.d++[.arr 2]),.row 49 18 (bZ o) false]
def np (q:Prim) (k:Nat):List aW:=if q.dD>0 then cM q (fm q) q.aL k else []
def tk1 (p q:Prim) (k:Nat):AF×List AB:=([(1,.ptr 0 0),(3,.ptr 1 0),(4,.k ((k:Int)+1))],tkB p q (np q k))
def tk2 (p q:Prim) (o:List aW) (k:Nat):AF×List AB:=([(1,.ptr 0 0),(3,.ptr 1 0),(5,.k ((k:Int) - 1))],tkB p q o)
theorem VT (q:Prim) (k:Nat):(np q k).length<=k:=by
 unfold np;split
 ·exact ej _ _ _ _
 ·exact br _
theorem Q7 (p:Prim) (h:ec p) (ht:p.aJ):zA 51 [p.av] [] (pQ (.ptr 0 0) ((gv p).st (gw (gv p)))):=by
 have BU:=dH p ht;have CJ:=h.iq;have kx:=gQ h.fl;have hmv:=MU (qD p) [] h.aq h.fl h.same h.round ht.aq.2;have ajC:=h.aq.aa;rw [show gv p=wK (qD p) from rfl];refine Qa func51 ntmps51 ?_;refine aQ BU ?_;obtain ⟨q,hq⟩:∃ q,wK (qD p)=q:=⟨_,rfl⟩;have Ta:q.nodes=p.nodes:=by rw [<-hq];rfl
 have hqi:q.id=p.id:=by rw [<-hq];rfl
 have hqk:q.aL=p.aL:=by rw [<-hq];rfl
 have hqd:q.aq=p.aq:=by rw [<-hq];rfl
 have hqm:q.aK=p.aK:=by rw [<-hq];rfl
 have hqr:=Ew (p:=qD p) h.aq h.round ⟨by show 0<=min (p.iq+1) 1099511627776;omega,by show min (p.iq+1) 1099511627776<=_;omega⟩;rw [hq] at hqr hmv ⊢;refine aQ hmv ?_;repeat' (apply tw<;>intro _)
 ·have k0:q.iq=0:=aM;have hb:gw q=[]:=by unfold gw;rw [bp (.inl k0)]
  rw [hb];exact ⟨rfl,rfl⟩
 ·have k0:q.iq≠0:=aM;refine ⟨dC,λz hz=>?_⟩;replace hz:=jS oM hz;subst hz;refine rdv ?_;repeat' (apply tw<;>intro _)
  ·rename_i k1;have hb:gw q=[]:=by unfold gw;rw [bp (.inr k1)]
   rw [hb];exact ⟨rfl,rfl⟩
  ·have k1:q.iq % 3=0:=aM;have hb:gw q=np q q.nodes.toNat++gN q:=by unfold gw;rw [aR (λh=>h.elim k0 (λh=>h k1))];rfl
   refine aH aF bf aG (σ:=Nat) (tk1 p q) (λk=>k<=q.nodes.toNat) (λk=>q.nodes.toNat - k) [1,3,4] ?_ ?_
   ·conv=>whnf
    exact ⟨0,rfl,by unfold tk1 np;rw [show cM q (fm q) q.aL 0=[] from rfl,ite_self];rfl,br _⟩
   ·intro k hk;have Mz:=VT q k;have bR:=ak q.aq.aa;have hlen:=h.aq.len;rw [<-hqd] at hlen;have i_:∀ c∈q.aq.aa,bM p.nodes c:=by rw [hqd,<-h.same];exact ajC
    refine rdv ?_;repeat' (apply tw<;>intro _)
    ·rename_i k3 k4 k5;replace k3:(k:Int)+1<=p.nodes:=k3;replace k4:q.dD>0:=k4;replace k5:(k:Int)+1≠p.id:=k5;have j9:=m_ q (fm q) q.aL k;have hak:np q k=cM q (fm q) q.aL k:=by unfold np;rw [bp k4]
     have Y_:np q (k+1)=cM q (fm q) q.aL (k+1):=by unfold np;rw [bp k4]
     have Ml:=kM q (np q k) oM ((fm q).Ki ((k:Int)+1));rw [pk] at Ml;refine aQ (Ep q.aL (by rw [hqk];have:=h.aL.2;unfold aU;omega) ((k:Int)+1)) ?_;repeat' (apply tw<;>intro _)
     ·have k6:KN q.aL ((k:Int)+1)<0:=aM;have hni:(k:Int)+1∉q.aL:=λhm=>by
       have:=U4 hm;omega
      rw [bp ⟨by rw [hqi];exact k5,hni⟩] at j9;refine cP XS ?_;refine aQ (gy q.aK (by rw [hqm];exact ht.aK)) ?_;refine (bz Ml (.cons (.refl _) (.cons (.agg ?_) .nil))).mono ?_
      ·repeat (first|exact .nil|refine .cons (.refl _) ?_|refine .cons (.nils _ dC) ?_)
      ·rintro _ _ ⟨rfl,rfl⟩;refine rdv ?_;exact ⟨k+1,rfl,by unfold tk1;rw [Y_,j9,<-hak];rfl,(oM:k+1<=q.nodes.toNat),(oM:q.nodes.toNat - (k+1)<q.nodes.toNat - k)⟩
     ·have k6:¬KN q.aL ((k:Int)+1)<0:=aM;have hni:¬((k:Int)+1∉q.aL):=λhm=>by
       have:=Gr hm;omega
      rw [aR (λh=>hni h.2),gR] at j9;exact ⟨k+1,rfl,by unfold tk1;rw [Y_,j9,<-hak];rfl,(oM:k+1<=q.nodes.toNat),(oM:q.nodes.toNat - (k+1)<q.nodes.toNat - k)⟩
    ·rename_i k3 k4 k5;replace k3:(k:Int)+1<=p.nodes:=k3;replace k4:q.dD>0:=k4;replace k5:(k:Int)+1=p.id:=k5;have j9:=m_ q (fm q) q.aL k;rw [aR (λh=>h.1 (by rw [hqi];exact k5)),gR] at j9;have hak:np q k=cM q (fm q) q.aL k:=by unfold np;rw [bp k4]
     have Y_:np q (k+1)=cM q (fm q) q.aL (k+1):=by unfold np;rw [bp k4]
     exact ⟨k+1,rfl,by unfold tk1;rw [Y_,j9,<-hak];rfl,(oM:k+1<=q.nodes.toNat),(oM:q.nodes.toNat - (k+1)<q.nodes.toNat - k)⟩
    ·rename_i k3 k4;replace k4:¬q.dD>0:=k4;have Kh:np q k=np q q.nodes.toNat:=by unfold np;rw [aR k4,aR k4]
     (refine eF ?_)
     refine aH aF bf aG (σ:=Nat) (tk2 p q (np q k)) (λi=>i<=q.aq.aa.length/\∀ c'∈q.aq.aa.drop i,c'.af≠q.id) (λi=>i) [1,3,5] ?_ ?_
     ·conv=>whnf
      exact ⟨q.aq.aa.length,by unfold tk2;rw [bR],rfl,eQ _,by rw [ze6];simp⟩
     ·rintro i ⟨hi,fu⟩;refine rdv ?_;repeat' (apply tw<;>intro _)
      ·have k5:(i:Int) - 1≥0:=aM;obtain ⟨i',rfl⟩:∃ i',i=i'+1:=⟨i - 1,oM⟩;refine nu (⟨_,ff oM⟩:∃ c,q.aq.aa[i']? = some c) λc hc=>?_;have lK:(q.aq.aa.map Cert.cs)[((((i'+1:Nat):Int)) - 1).toNat]? = some c.cs:=by rw [show ((((i'+1:Nat):Int)) - 1).toNat=i' by omega,CD,hc];rfl
       refine uH On ?_
       repeat' (first|(refine jz ?_;repeat' (apply tw<;>intro _))|((with_reducible apply aC);(focus (intro K hK;(conv=>whnf);exact ⟨oM,c.cs,lK,hK⟩));(conv=>whnf))|fail)
       ·have ka:c.af=p.id:=aM;refine ⟨oM,c.cs,lK,?_⟩;refine rdv ?_;have hl:=EK hc fu (by rw [ka,hqi]);have iR:gN q=cM q (cn c) [] q.nodes.toNat:=by unfold gN;rw [hl]
        rw [hb,<-Kh,iR];have bK:=wX q (by rw [Ta];omega) (np q k) oM (cn c) (kW h.fl (i_ c (fU hc)));refine (bz bK (.cons (.refl _) (.cons (.agg ?_) .nil))).mono ?_
        ·repeat (first|exact .nil|refine .cons (.refl _) ?_|refine .cons (.nils _ dC) ?_)
        ·rintro _ _ ⟨rfl,j,rfl⟩
         cases j
         ·refine rdv ?_;exact ⟨rfl,rfl⟩
         ·refine rdv ?_;exact ⟨rfl,rfl⟩
       ·have ka:c.af≠p.id:=aM;exact ⟨i',by rw [show (((i'+1:Nat):Int)) - 1 - 1=(i':Int) - 1 by omega];rfl,rfl,⟨(oM:i'<=q.aq.aa.length),λc' kc=>by
         rw [zd9 oM] at kc;rcases jy.1 kc with rfl|kc
         ·rw [(dW.1 hc).2,hqi];exact ka
         ·exact fu c' kc⟩,(oM:i'<i'+1)⟩
      ·have k5:¬(i:Int) - 1≥0:=aM;obtain rfl:i=0:=oM;have hl:=EJ (q:=q) (by simpa using fu);have iR:gN q=[]:=by unfold gN;rw [hl]
       rw [hb,<-Kh,iR,gR];exact ⟨rfl,rfl⟩
    ·have k3:¬(k:Int)+1<=p.nodes:=aM;have Kh:np q k=np q q.nodes.toNat:=by rw [show k=q.nodes.toNat by omega]
     (refine eF ?_)
     refine aH aF bf aG (σ:=Nat) (tk2 p q (np q k)) (λi=>i<=q.aq.aa.length/\∀ c'∈q.aq.aa.drop i,c'.af≠q.id) (λi=>i) [1,3,5] ?_ ?_
     ·conv=>whnf
      exact ⟨q.aq.aa.length,by unfold tk2;rw [bR],rfl,eQ _,by rw [ze6];simp⟩
     ·rintro i ⟨hi,fu⟩;refine rdv ?_;repeat' (apply tw<;>intro _)
      ·have k5:(i:Int) - 1≥0:=aM;obtain ⟨i',rfl⟩:∃ i',i=i'+1:=⟨i - 1,oM⟩;refine nu (⟨_,ff oM⟩:∃ c,q.aq.aa[i']? = some c) λc hc=>?_;have lK:(q.aq.aa.map Cert.cs)[((((i'+1:Nat):Int)) - 1).toNat]? = some c.cs:=by rw [show ((((i'+1:Nat):Int)) - 1).toNat=i' by omega,CD,hc];rfl
       refine uH On ?_
       repeat' (first|(refine jz ?_;repeat' (apply tw<;>intro _))|((with_reducible apply aC);(focus (intro K hK;(conv=>whnf);exact ⟨oM,c.cs,lK,hK⟩));(conv=>whnf))|fail)
       ·have ka:c.af=p.id:=aM;refine ⟨oM,c.cs,lK,?_⟩;refine rdv ?_;have hl:=EK hc fu (by rw [ka,hqi]);have iR:gN q=cM q (cn c) [] q.nodes.toNat:=by unfold gN;rw [hl]
        rw [hb,<-Kh,iR];have bK:=wX q (by rw [Ta];omega) (np q k) oM (cn c) (kW h.fl (i_ c (fU hc)));refine (bz bK (.cons (.refl _) (.cons (.agg ?_) .nil))).mono ?_
        ·repeat (first|exact .nil|refine .cons (.refl _) ?_|refine .cons (.nils _ dC) ?_)
        ·rintro _ _ ⟨rfl,j,rfl⟩
         cases j
         ·refine rdv ?_;exact ⟨rfl,rfl⟩
         ·refine rdv ?_;exact ⟨rfl,rfl⟩
       ·have ka:c.af≠p.id:=aM;exact ⟨i',by rw [show (((i'+1:Nat):Int)) - 1 - 1=(i':Int) - 1 by omega];rfl,rfl,⟨(oM:i'<=q.aq.aa.length),λc' kc=>by
         rw [zd9 oM] at kc;rcases jy.1 kc with rfl|kc
         ·rw [(dW.1 hc).2,hqi];exact ka
         ·exact fu c' kc⟩,(oM:i'<i'+1)⟩
      ·have k5:¬(i:Int) - 1≥0:=aM;obtain rfl:i=0:=oM;have hl:=EJ (q:=q) (by simpa using fu);have iR:gN q=[]:=by unfold gN;rw [hl]
       rw [hb,<-Kh,iR,gR];exact ⟨rfl,rfl⟩
end Go.Proofs.YtolkmjfkkkiboaaGreat
namespace Go.Ab
open Go.RowKit
theorem GN {P:Program} {f:FuncId} {x y:AV} {e n:Nat} (hn:RN e n) {post:AV->List AB->Prop} (h:ay P f [.agg [x,y,.arr 0,.arr 1]] [.row e n [] false,.row e n [] false] post):ay P f [.agg [x,y,.d .nils,.d .nils]] [] post:=by
 intro c vs hc hL hs hv;obtain ⟨dR,eX⟩:=hs.pN hc e n false hn;obtain ⟨e_,jG⟩:=dR.pN hc e n false hn;simp only [Du,tC,CE,KX,gP] at dR eX e_ jG;have hle:=eX.trans jG;have Ga:aI { c with E0:=ca (ca c.E0 0 none) 1 none,L0:=[.row e n [] false,.row e n [] false] } (ca (ca c.E0 0 none) 1 none) [.row e n [] false,.row e n [] false] c.w0 :=
  ⟨e_.os,e_.tape,e_.output,e_.size,e_.gS,e_.fQ,e_.low,e_.inj,RC.le.refl _,e_.bx⟩
 refine (h { c with E0:=ca (ca c.E0 0 none) 1 none,L0:=[.row e n [] false,.row e n [] false] } vs ⟨hc.low,hc.sub,hc.st⟩ rfl Ga ?_).mono ?_
 ·simp only [cD,VR,eK,VD] at hv ⊢;obtain ⟨u1,r1,h1,⟨us,rfl,w1,s1,h3,o1,v1,w2,s2,h4,o2,v2,w3,s3,h5,o3,rfl,w4,s4,h6,o4,rfl,rfl⟩,rfl⟩:=hv;refine ⟨_,_,h1,⟨us,rfl,w1,s1,h3,o1,VR.mono hle _ _ v1,w2,s2,h4,o2,VR.mono hle _ _ v2,_,s3,h5,o3,?_,_,_,h6,o4,?_,rfl⟩,rfl⟩
  ·exact ⟨_,rfl,by simp [bj,ca]⟩
  ·exact ⟨_,rfl,by simp [bj,ca]⟩
 ·rintro e w' ⟨v,av,L',E',h1,h2,h3,h4⟩;refine ⟨v,av,L',E',h1,h2,⟨h3.os,h3.tape,h3.output,h3.size,h3.gS,h3.fQ,h3.low,h3.inj,?_,h3.bx⟩,h4⟩;rw [hL];exact hle.trans h3.q_
end Go.Ab
namespace Go.Proofs.YtolkmjfkkkiboaaGreat
open Go.Ab Go.RowKit Go.MapKept Tryz
attribute [local irreducible] ay AW cw eA eo bL
theorem GO (l:List bb) (hl:aU l):zA 86 [.d (.sl 3 (ax l)),.d (.sl 3 (ax l))] [] (pQ (.d (.bool true)) []):=by
 have bR:=aV l;unfold aU at hl;refine gG func86 ntmps86 ?_;repeat' (apply tw<;>intro _)
 ·rename_i hx;exact absurd rfl hx
 ·refine aH aF bf aG (σ:=Nat) (λk=>([(0,.d (.sl 3 (ax l))),(1,.d (.sl 3 (ax l))),(5,.k k)],[])) (λk=>k<=l.length) (λk=>l.length - k) [0,1,5] ?_ ?_
  ·conv=>whnf
   exact ⟨0,rfl,rfl,oM⟩
  ·intro k hk
   conv=>whnf
   rw [bR];refine eF ?_;repeat' (apply tw<;>intro _)
   ·rename_i yd;refine eG l k λc hc=>?_;refine uH acu ?_
    repeat' (first|(refine jz ?_;repeat' (apply tw<;>intro _))|((with_reducible apply aC);(focus (intro K hK;(conv=>whnf);exact ⟨oM,c.cs,bJ hc,hK⟩));(conv=>whnf))|((with_reducible apply aC);(focus (intro K hK;(conv=>whnf);exact iB hc (by first|rfl|omega) hK));(conv=>whnf))|((with_reducible apply aC);(focus (intro K hK;(conv=>whnf);exact ⟨QU,hK⟩));(conv=>whnf))|fail)
    ·rename_i hx;exfalso;simp at hx
    ·exact ⟨k+1,rfl,rfl,oM,oM⟩
   ·exact ⟨rfl,rfl⟩
theorem sn (p:Prim) (h:p.ok) (hd:aU p.aq.aa/\∀ c∈p.aq.aa,gr c) (hl:aU p.late/\∀ c∈p.late,gr c) (hv:aU p.aA) (ha:aU p.aL) (hm:aU p.aK.aE/\aU p.aK.ao) :
  zA 45 [p.av,p.av] [] (pQ (.d (.bool true)) []):=by
 have h1:=ib p.aK p.aK hm;have h2:=cC p.aL p.aL ha;have h3:=GO p.aA hv;have h4:=MJ p.aq hd.1 hd.2;have h5:=wQ p.late hl.1 hl.2;rw [cz ⟨rfl,rfl,rfl,rfl⟩] at h1;rw [cz rfl] at h2;refine dB func45 ntmps45 ?_
 repeat' (first|(refine jz ?_;repeat' (apply tw<;>intro _))|(refine uB h1 ?_)|(refine uB h2 ?_)|(refine uB h3 ?_)|(refine uB h4 ?_)|(refine uB h5 ?_)|fail)
 all_goals first
  | exact ⟨rfl,rfl⟩
  | (rename_i hx;exact absurd rfl hx)
theorem EL (a r:Int) (xs ys:List Int) (hx:xs.length<=8000000000) (hy:ys.length<=8000000000):zA 47 [.agg [.k a,.k r,.arr 0,.arr 1]] [.row 3 1 (nums xs) false,.row 3 1 (nums ys) false] (pQ (.tup []) [.dead,.dead]):=by
 have h1:=J0 xs hx;have h2:=J0 ys hy;refine Qa func47 ntmps47 ?_
 (refine Or.inr ?_;(conv=>whnf))
 refine aQ h1 ?_
 (refine Or.inr ?_;(conv=>whnf))
 refine aQ h2 ?_;exact ⟨rfl,rfl⟩
theorem uS:zA 47 [.agg [.k 0,.k 0,.d .nils,.d .nils]] [] (pQ (.tup []) [.dead,.dead]) :=
 GN (by exact ⟨dC,rfl⟩) (EL 0 0 [] [] (br _) (br _))
theorem yw:zA 35 [.agg [.k 0,.k 0,.d .nils,.d .nils],.agg [.k 0,.k 0,.d .nils,.d .nils]] [] (pQ (.d (.bool true)) []):=by
 have h1:=ib kb kb ⟨br _,br _⟩;rw [cz ⟨rfl,rfl,rfl,rfl⟩] at h1;have e:NW (.agg [.k 0,.k 0,.d .nils,.d .nils]) kb.pD := .agg (.cons (.refl _) (.cons (.refl _) (.cons (.nils 1 dC) (.cons (.nils 1 dC) .nil))));exact bz h1 (.cons e (.cons e .nil))
theorem Q8 (h:Cert) (hf:aU h.aE/\aU h.ao):zA 35 [.agg [.k h.af,.k h.round,.arr 0,.arr 1],h.pD] [.row 3 1 (nums h.aE) false,.row 3 1 (nums h.ao) false]
  (pQ (.d (.bool true)) [.row 3 1 (nums h.aE) false,.row 3 1 (nums h.ao) false]):=by
 have h1:=ib h h hf;rw [cz ⟨rfl,rfl,rfl,rfl⟩] at h1;exact bS (cG _) ⟨_,_,rfl,.inr ⟨_,_,rfl,rfl,_,_,rfl,.inl ⟨_,rfl,rfl⟩,_,_,rfl,.inl ⟨_,rfl,rfl⟩,_,_,rfl,.inr (.inl ⟨0,_,_,_,_,rfl,rfl,rfl⟩),_,_,rfl,.inr (.inl ⟨1,_,_,_,_,rfl,rfl,rfl⟩),rfl⟩,
  _,_,rfl,.inr ⟨_,_,rfl,rfl,_,_,rfl,.inl ⟨_,rfl,rfl⟩,_,_,rfl,.inl ⟨_,rfl,rfl⟩,_,_,rfl,.inl ⟨_,rfl,rfl⟩,_,_,rfl,.inl ⟨_,rfl,rfl⟩,rfl⟩,rfl⟩ h1
theorem O9:zA 170 [.d (.sl 4 []),.d (.sl 4 [])] [] (pQ (.d (.bool true)) []):=by
 refine gG func170 ntmps170 ?_;refine aH aF bf aG (σ:=Unit) (λ_=>([(0,.d (.sl 4 [])),(1,.d (.sl 4 [])),(5,.k 0)],[])) (λ_=>True) (λ_=>0) [0,1,5] ?_ ?_
 ·conv=>whnf
  exact ⟨(),rfl,rfl,trivial⟩
 ·intro _ _;refine rdv ?_;exact ⟨rfl,rfl⟩
theorem Q9 (a b:Int):zA 118 [.agg [.k a,.k b,.d (.sl 4 [])],.agg [.k a,.k b,.d (.sl 4 [])]] [] (pQ (.d (.bool true)) []):=by
 have h1:=O9;refine gG func118 ntmps118 ?_;repeat' (apply tw<;>intro _)
 ·(refine (h1).mono ?_;rintro _ _ ⟨rfl,rfl⟩;(conv=>whnf))
  exact ⟨rfl,rfl⟩
 all_goals (rename_i hx;exact absurd rfl hx)
theorem MW (m:aW) (hf:m.cY) (ht:m.dX=[]):zA 59 [m.av,m.av] [] (pQ (.d (.bool true)) []):=by
 obtain ⟨kind,src,dst,ae,ba,bn,dX,head,cert,aT⟩:=m;replace ht:dX=[]:=ht;subst ht;have h1:=Q9 ba bn;have h2:=kV head hf.head;have h3:=se cert hf.cert;have h4:=cC aT aT hf.aT;rw [cz rfl] at h4;refine gG func59 ntmps59 ?_;repeat' (apply tw<;>intro _)
 ·refine aQ h1 ?_
  ·refine aQ h2 ?_
   ·refine aQ h3 ?_
    ·(refine (h4).mono ?_;rintro _ _ ⟨rfl,rfl⟩;(conv=>whnf))
     exact ⟨rfl,rfl⟩
 all_goals (rename_i hx;exact absurd rfl hx)
theorem Kj {l:List aW} {i:Nat} {m:aW} (h:l[i]? = some m):(bZ l)[(i:Int).toNat]? = some m.cs:=by
 rw [WA,bZ,CD,h];rfl
theorem zj (l:List aW) (hl:aU l) (h:∀ m∈l,m.cY/\m.dX=[]):zA 61 [.d (.sl 18 (bZ l)),.d (.sl 18 (bZ l))] [] (pQ (.d (.bool true)) []):=by
 have bR:=jT l;unfold aU at hl;refine gG func61 ntmps61 ?_;repeat' (apply tw<;>intro _)
 ·rename_i hx;exact absurd rfl hx
 ·refine aH aF bf aG (σ:=Nat) (λk=>([(0,.d (.sl 18 (bZ l))),(1,.d (.sl 18 (bZ l))),(5,.k k)],[])) (λk=>k<=l.length) (λk=>l.length - k) [0,1,5] ?_ ?_
  ·conv=>whnf
   exact ⟨0,rfl,rfl,oM⟩
  ·intro k hk
   conv=>whnf
   rw [bR];refine eF ?_;repeat' (apply tw<;>intro _)
   ·rename_i yd;refine eG l k λc hc=>?_;have hh:=h c (fU hc);have h1:=MW c hh.1 hh.2;refine cP ack ?_
    ((with_reducible apply aC);(focus (intro K hK;(conv=>whnf);exact ⟨oM,c.cs,Kj hc,hK⟩));(conv=>whnf))
    (refine eF ?_)
    ((with_reducible apply aC);(focus (intro K hK;(conv=>whnf);exact ⟨oM,c.cs,Kj hc,hK⟩));(conv=>whnf))
    (refine eF ?_)
    refine aQ h1 ?_;exact ⟨k+1,rfl,rfl,oM,oM⟩
   ·exact ⟨rfl,rfl⟩
structure aW.nice (m:aW):Prop where
 cY:m.cY
 dX:m.dX=[]
 fit:m.iF
theorem nq {p:Prim} {m:aW} {no:List Int} {k:Nat} (h:m.nice):∀ x∈cM p m no k,x.nice:=by
 intro x hx;obtain ⟨t,_,rfl⟩:=px.1 hx;exact ⟨⟨h.cY.dX,h.cY.head,h.cY.cert,h.cY.aT⟩,h.dX,⟨h.fit.dX,h.fit.head,h.fit.cert,h.fit.aT⟩⟩
theorem eD {c:Cert} (h:c.iF):gr c:=⟨by have:=h.aE;unfold aU;omega,by have:=h.ao;unfold aU;omega,by have:=h.sigs;unfold aU;omega⟩
theorem j5:kb.iF:=⟨br _,br _,br _⟩
theorem zk {q:Prim} (h:q.aK.iF):(fm q).nice:=⟨⟨br _,eD h,eD j5,br _⟩,rfl,⟨br _,h,j5,br _⟩⟩
theorem mn {c:Cert} (h:c.iF):(cn c).nice:=⟨⟨br _,eD j5,eD h,br _⟩,rfl,⟨br _,j5,h,br _⟩⟩
theorem Cg {q:Prim} (hm:q.aK.iF) (hc:∀ c∈q.aq.aa,c.iF):∀ x∈gw q,x.nice:=by
 unfold gw;split
 ·intro x hx;cases hx
 ·intro x hx;rcases gA.1 hx with hx|hx
  ·unfold qE at hx;split at hx
   ·exact nq (zk hm) x hx
   ·cases hx
  ·unfold gN at hx;split at hx
   ·rename_i c hl;refine nq (mn (hc c ?_)) x hx;unfold ou at hl;exact zfM.1 (zd7 hl)
   ·cases hx
theorem Q_ (q:Prim):(gw q).length<=2 * q.nodes.toNat:=by
 unfold gw;split
 ·exact br _
 ·rw [iQ];have h1:(qE q).length<=q.nodes.toNat:=by
   unfold qE;split
   ·exact ej _ _ _ _
   ·exact br _
  have h2:(gN q).length<=q.nodes.toNat:=by
   unfold gN;split
   ·exact ej _ _ _ _
   ·exact br _
  omega
def zP:Prim:=⟨0,0,0,0,0,kb,0,[],[],⟨0,0,[]⟩,[]⟩
def ac8 (q:Prim) (o:List aW) (e:Int):AV := .tup [q.ai 0,.isl 0 (.sl 18 (bZ o)),.k e]
theorem kX (l:List Int):P8 (nums l):=vV (f:=λx=>[DV.j x]) (λ_=>⟨trivial,trivial⟩) l
theorem VU (l:List bb):P8 (ax l):=vV (f:=bb.cs) (λ_=>⟨trivial,trivial,trivial,trivial⟩) l
theorem mo (l:List Int):RY (.sl 1 (nums l)):=by simp only [RY];exact kX l
theorem Za (c:Cert):XP c.cs:=⟨trivial,trivial,mo _,mo _,trivial,mo _,trivial⟩
theorem Kk (l:List Cert):P8 (ah l):=vV Za l
theorem ac9 {m:aW} (h:m.dX=[]):XP m.cs:=⟨trivial,trivial,trivial,trivial,trivial,trivial,by rw [h];simp only [RY];exact trivial,trivial,trivial,mo _,mo _,trivial,trivial,mo _,mo _,trivial,mo _,mo _,trivial⟩
theorem Ak:∀ {l:List aW},(∀ m∈l,m.nice)->P8 (bZ l)
 | [],_=>trivial
 | m :: r,h=>⟨ac9 (h m (.head _)).dX,Ak λx hx=>h x (.tail _ hx)⟩
theorem bE {i:Nat} (n:Int):Isl i (.k n) (.k n) := .flat (Ix _ _)
theorem td (i:Nat) (p:Prim):F9 i p.av (p.ai i) := .inr ⟨_,_,rfl,rfl,.cons (bE _) (.cons (bE _) (.cons (bE _) (.cons (bE _) (.cons (bE _) (.cons (bE _) (.cons (bE _) (.cons (.sl (kX _)) (.cons (.sl (kX _)) (.cons (bE _) (.cons (.sl (kX _)) (.cons (.sl (VU _)) (.cons (bE _) (.cons (bE _) (.cons (.sl (Kk _)) (.cons (.sl (Kk _)) .nil)))))))))))))))⟩
theorem Ch (i:Nat):F9 i (.agg gM) (.agg gM) := .inr ⟨_,_,rfl,rfl,.cons (bE _) (.cons (bE _) (.cons (bE _) (.cons (bE _) (.cons (bE _) (.cons (bE _) (.cons (bE _) (.cons (.flat mz) (.cons (.flat mz) (.cons (bE _) (.cons (.flat mz) (.cons (.flat mz) (.cons (bE _) (.cons (bE _) (.cons (.flat mz) (.cons (.flat mz) .nil)))))))))))))))⟩
theorem cZ {L:List AB} (a:AV):T7 L a a := .inl rfl
theorem zG {lo n m:Nat} (h:0<m):T7 [.aN lo n true] (.d .nils) (.isl 0 (.sl m [])) := .inr ⟨0,lo,n,m,rfl,⟨_,rfl,rfl⟩,h,rfl⟩
open Classical in
theorem VV (p:Prim) (bw:p.ok) (hm:p.aK.iF) (hc:∀ c∈p.aq.aa,c.iF):zA 52 [p.av] [] (λav L=>((ec p/\av=ac8 (gv p) (gw (gv p)) 0)∨(¬ec p/\av=ac8 zP [] 1))/\∃ lo n,L=[.aN lo n true]):=by
 refine oY (ll (X:=λav=>(ec p/\av=sb (gv p) (gw (gv p)))∨(¬ec p/\av=nj 1)) (post:=λav=>(ec p/\av=ac8 (gv p) (gw (gv p)) 0)∨(¬ec p/\av = .tup [.agg gM,.isl 0 (.sl 18 []),.k 1])) (.cons (nm [] p) .nil) (VG p bw) ?_) ?_
 ·rintro _ (⟨k,rfl⟩|⟨k,rfl⟩)
  ·exact ⟨_,.inr ⟨_,_,rfl,rfl,.cons (td _ _) (.cons (.inl (.sl (Ak (Cg (q:=gv p) hm hc)))) (.cons (.inl (bE _)) .nil))⟩,.inl ⟨k,rfl⟩⟩
  ·exact ⟨_,.inr ⟨_,_,rfl,rfl,.cons (Ch _) (.cons (.inl (.sl trivial)) (.cons (.inl (bE _)) .nil))⟩,.inr ⟨k,rfl⟩⟩
 ·rintro _ _ ⟨⟨k,rfl⟩|⟨k,rfl⟩,lo,n,rfl⟩
  ·exact ⟨_,.inl (.inl (cZ _)),.inl ⟨k,rfl⟩,lo,n,rfl⟩
  ·refine ⟨_,.inr ⟨_,_,rfl,rfl,.cons (.inr ⟨_,_,rfl,rfl,?_⟩) (.cons (.inl (cZ _)) (.cons (.inl (cZ _)) .nil))⟩,.inr ⟨k,rfl⟩,lo,n,rfl⟩;exact .cons (cZ _) (.cons (cZ _) (.cons (cZ _) (.cons (cZ _) (.cons (cZ _) (.cons (cZ _) (.cons (cZ _) (.cons (zG dC) (.cons (zG dC) (.cons (cZ _) (.cons (zG dC) (.cons (zG dC) (.cons (cZ _) (.cons (cZ _) (.cons (zG dC) (.cons (zG dC) .nil)))))))))))))))
theorem so {i lo n:Nat} {ok:zp} {L:List AB} (h:L[i]? = some (.aN lo n ok)) (x:DV) (hr:ok.reads x=true):rQ L (.isl i x) (.d x) := .inr (.inr (.inr (.inr (.inr ⟨i,x,x,lo,n,ok,rfl,h,hr,rfl,.refl _⟩))))
theorem uT {i lo n:Nat} {L:List AB} (h:L[i]? = some (.aN lo n true)) (x:DV):rQ L (.isl i x) (.d x):=so h x rfl
theorem O_ {i lo n:Nat} {ok:zp} {L:List AB} (h:L[i]? = some (.aN lo n ok)) (hr:∀ m xs,ok.reads (.sl m xs)=true) (p:Prim):yV L (p.ai i) p.av := .inr ⟨_,_,rfl,rfl,aw (bG _) (aw (bG _) (aw (bG _) (aw (bG _) (aw (bG _) (aw (bG _) (aw (bG _) (aw (so h _ (hr _ _)) (aw (so h _ (hr _ _)) (aw (bG _) (aw (so h _ (hr _ _)) (aw (so h _ (hr _ _)) (aw (bG _) (aw (bG _) (aw (so h _ (hr _ _)) (aw (so h _ (hr _ _)) nT)))))))))))))))⟩
theorem fe {L:List AB} (x:DV):rQ L (.d x) (.d x) := .inl ⟨_,rfl,rfl⟩
theorem Zb {L:List AB} (p:Prim):yV L p.av p.av := .inr ⟨_,_,rfl,rfl,aw (fe _) (aw (fe _) (aw (fe _) (aw (fe _) (aw (fe _) (aw (fe _) (aw (fe _) (aw (fe _) (aw (fe _) (aw (fe _) (aw (fe _) (aw (fe _) (aw (fe _) (aw (fe _) (aw (fe _) (aw (fe _) nT)))))))))))))))⟩
theorem agE:kb.ok:=⟨wR,wR,⟨br _,λ_ h=>by cases h⟩,⟨br _,λ_ h=>by cases h⟩,wR,⟨br _,λ_ h=>by cases h⟩⟩
theorem agF:zP.ok:=⟨agE,br _,br _,br _,⟨wR,wR,br _,λ_ h=>by cases h⟩,⟨br _,λ_ h=>by cases h⟩⟩
def ajD (k:Nat):List AV:=[.k 0,.k 0,.k 0,.k 0,.k 0,.k 0,.k 0,.arr (k+1),.arr (k+2),.k 0,.arr (k+3),.arr (k+4),.k 0,.k 0,.arr (k+5),.arr (k+6)]
def aaL:List AB:=[.row 3 1 [] false,.row 3 1 [] false,.row 3 1 [] false,.row 106 3 [] false,.row 47 6 [] false,.row 47 6 [] false]
theorem sq {i e n:Nat} {xs:List (List DV)} {sh:Bool} {L:List AB} (h:L[i]? = some (.row e n xs sh)):rQ L (.arr i) (.d (.sl n xs)) := .inr (.inl ⟨i,e,n,xs,sh,rfl,h,rfl⟩)
theorem VW:zP.iF:=⟨br _,br _,br _,br _,⟨br _,λ_ h=>by cases h⟩,⟨br _,λ_ h=>by cases h⟩⟩
theorem EM {d:Dag} {l:List Cert}:∀ j,∀ c∈(bd d (l.take j)).1.aa,c∈d.aa∨c∈l
 | 0,c,h=>by simpa [bd] using .inl h
 | j+1,c,h=>by
   have ih:=EM (d:=d) (l:=l) j
   cases hc:l[j]? with
   | none =>
     have hl:l.length<=j:=by simpa using hc
     rw [gx oM] at ih h;exact ih c h
   | some x =>
     rw [hZ hc] at h;rcases Va h with rfl|h
     ·exact .inr (fU hc)
     ·exact ih c h
theorem Ci:∀ (n:Nat) (d:Dag) (l:List Cert),(∀ c∈(iC n d l).1.aa,c∈d.aa∨c∈l)/\∀ c∈(iC n d l).2,c∈l
 | 0,d,l=>⟨λc h => .inl h,λc h=>h⟩
 | n+1,d,l=>by
   have hp:=EM (d:=d) (l:=l) l.length;have hs:=(B7 d l l.length).subset;rw [lD] at hp hs;unfold iC;split
   ·have ih:=Ci n (bd d l).1 (bd d l).2;refine ⟨λc h=>?_,λc h=>hs (ih.2 c h)⟩;rcases ih.1 c h with h|h
    ·exact hp c h
    ·exact .inr (hs h)
   ·exact ⟨hp,λc h=>h⟩
def KT (a b:aW):Prop:=a.kind=b.kind/\a.src=b.src/\a.dst=b.dst/\a.ae=b.ae/\a.ba=b.ba/\a.bn=b.bn/\b.dX=[]/\(a.head.af=b.head.af/\a.head.round=b.head.round/\a.head.aE=b.head.aE/\a.head.ao=b.head.ao)/\(a.cert.af=b.cert.af/\a.cert.round=b.cert.round/\a.cert.aE=b.cert.aE/\a.cert.ao=b.cert.ao/\a.cert.ae=b.cert.ae/\a.cert.sigs=b.cert.sigs)/\a.aT=b.aT
def agG:Code->Code | .seq a _=>a|c=>c
def ajE:Code->Code | .seq _ b=>b|c=>c
def aaM:Option Code->Code|some c=>c|none => .skip
theorem nW (n:Int) (m:aW) (rest:Code) (Q:Exit->AF->List AB->Prop) (h:dI prog tt fo 136 0 rest Q [(5,.ptr 1 0),(13,.agg [.k m.kind,.k m.src,.k m.dst,.k 0,.k 0,.k 0,.d .nils,.k 0,.k 0,.d .nils,.d .nils,.k 0,.k 0,.d .nils,.d .nils,.k 0,.d .nils,.d .nils]),(12,.k m.dst),(11,.ptr 0 2),(10,.k m.src),(9,.ptr 0 1),(8,.k m.kind),(7,.ptr 0 0),(4,.d (.bool false)),(2,.ptr 0 0),(0,m.av),(1,.k n)] [.cells (m.cs.map AV.d),.cells [.k m.kind,.k m.src,.k m.dst,.k 0,.k 0,.k 0,.d .nils,.k 0,.k 0,.d .nils,.d .nils,.k 0,.k 0,.d .nils,.d .nils,.k 0,.d .nils,.d .nils]]) :
  dI prog tt fo 136 0 (.seq (agG (aaM Tryz.f109.body)) (.seq (agG (ajE (aaM Tryz.f109.body))) rest)) Q (oN [m.av,.k n] 0) []:=by
 conv=>whnf
 exact h
theorem Zc (l:List Tx):zA 170 [.d (.sl 4 []),.d (.sl 4 (dr l))] [] (pQ (.d (.bool (decide (l.length=0)))) []):=by
 have hl:(dr l).length=l.length:=tg ..
 cases l with
 | nil=>exact O9
 | cons t r =>
   refine y0 func170 ntmps170 ?_;exact ⟨rfl,rfl⟩
theorem EN (a b:Cert) (ha:gr a):zA 119 [a.av,b.av] [] (pQ (.d (.bool (decide (a.af=b.af/\a.round=b.round/\a.aE=b.aE/\a.ao=b.ao/\a.ae=b.ae/\a.sigs=b.sigs)))) []):=by
 have h1:=ib a b ⟨ha.aE,ha.ao⟩;have h2:=cC a.sigs b.sigs ha.sigs;refine dB func119 ntmps119 ?_;refine h1.mono ?_;rintro _ _ ⟨rfl,rfl⟩;by_cases k1:a.af=b.af/\a.round=b.round/\a.aE=b.aE/\a.ao=b.ao
 ·rw [cz k1];obtain ⟨j1,j2,j3,j4⟩:=k1;refine cm ?_;repeat' (apply tw<;>intro _)
  ·rename_i k2;refine h2.mono ?_;rintro _ _ ⟨rfl,rfl⟩
   conv=>whnf
   refine ⟨?_,rfl⟩;by_cases k3:a.sigs=b.sigs
   ·rw [cz k3,cz ⟨j1,j2,j3,j4,k2,k3⟩]
   ·rw [aP k3,aP (λh=>k3 h.2.2.2.2.2)]
  ·rename_i k2;rw [aP (λh=>k2 h.2.2.2.2.1)];exact ⟨rfl,rfl⟩
 ·rw [aP k1];refine cm ?_;rw [aP (λh=>k1 ⟨h.1,h.2.1,h.2.2.1,h.2.2.2.1⟩)];exact ⟨rfl,rfl⟩
theorem Ra (a b:Int) (l:List Tx) (x y:Int):zA 118 [.agg [.k a,.k b,.d (.sl 4 [])],.agg [.k x,.k y,.d (.sl 4 (dr l))]] [] (pQ (.d (.bool (decide (a=x/\b=y/\l=[])))) []):=by
 have h1:=Zc l;refine y0 func118 ntmps118 ?_;repeat' (apply tw<;>intro _)
 ·have k1:a=x:=aM;have k2:b=y:=aM
  (refine (h1).mono ?_;rintro _ _ ⟨rfl,rfl⟩;(conv=>whnf))
  refine ⟨?_,rfl⟩
  cases l with
  | nil=>rw [cz (p:=a=x/\b=y/\([]:List Tx)=[]) ⟨k1,k2,rfl⟩];rfl
  | cons t r=>rw [aP (p:=a=x/\b=y/\t :: r=[]) (λh=>by cases h.2.2)];rfl
 ·rename_i k1 k2;replace k2:b≠y:=k2;rw [aP (λh=>k2 h.2.1)];exact ⟨rfl,rfl⟩
 ·have k1:a≠x:=aM;rw [aP (λh=>k1 h.1)];exact ⟨rfl,rfl⟩
open Classical in
theorem mD (a b:aW) (fa:a.cY) (ha:a.dX=[]):zA 59 [a.av,b.av] [] (pQ (.d (.bool (decide (KT a b)))) []):=by
 have h1:=Ra a.ba a.bn b.dX b.ba b.bn;have h2:=ib a.head b.head ⟨fa.head.aE,fa.head.ao⟩;have h3:=EN a.cert b.cert fa.cert;have h4:=cC a.aT b.aT fa.aT;have e0:a.av=(⟨a.kind,a.src,a.dst,a.ae,a.ba,a.bn,[],a.head,a.cert,a.aT⟩:aW).av:=by rw [<-ha]
 rw [e0];refine y0 func59 ntmps59 ?_;repeat' (apply tw<;>intro _)
 ·rename_i k1 k2 k3 k4;refine h1.mono ?_;rintro _ _ ⟨rfl,rfl⟩;by_cases j1:a.ba=b.ba/\a.bn=b.bn/\b.dX=[]
  ·rw [@cz _ (_) j1];refine cm ?_;refine h2.mono ?_;rintro _ _ ⟨rfl,rfl⟩;by_cases j2:a.head.af=b.head.af/\a.head.round=b.head.round/\a.head.aE=b.head.aE/\a.head.ao=b.head.ao
   ·rw [@cz _ (_) j2];refine cm ?_;refine h3.mono ?_;rintro _ _ ⟨rfl,rfl⟩;by_cases j3:a.cert.af=b.cert.af/\a.cert.round=b.cert.round/\a.cert.aE=b.cert.aE/\a.cert.ao=b.cert.ao/\a.cert.ae=b.cert.ae/\a.cert.sigs=b.cert.sigs
    ·rw [@cz _ (_) j3];refine cm ?_;refine h4.mono ?_;rintro _ _ ⟨rfl,rfl⟩
     conv=>whnf
     refine ⟨?_,rfl⟩;congr 2;rw [zd4];exact ⟨λh=>⟨k1,k2,k3,k4,j1.1,j1.2.1,j1.2.2,j2,j3,h⟩,λh=>h.2.2.2.2.2.2.2.2.2⟩
    ·rw [@aP _ (_) j3];refine cm ?_;rw [aP (λh:KT a b=>j3 h.2.2.2.2.2.2.2.2.1)];exact ⟨rfl,rfl⟩
   ·rw [@aP _ (_) j2];refine cm ?_;rw [aP (λh:KT a b=>j2 h.2.2.2.2.2.2.2.1)];exact ⟨rfl,rfl⟩
  ·rw [@aP _ (_) j1];refine cm ?_;rw [aP (λh:KT a b=>j1 ⟨h.2.2.2.2.1,h.2.2.2.2.2.1,h.2.2.2.2.2.2.1⟩)];exact ⟨rfl,rfl⟩
 ·rename_i k1 k2 k3 k4;rw [aP (λh:KT a b=>k4 h.2.2.2.1)];exact ⟨rfl,rfl⟩
 ·rename_i k1 k2 k3;rw [aP (λh:KT a b=>k3 h.2.2.1)];exact ⟨rfl,rfl⟩
 ·rename_i k1 k2;rw [aP (λh:KT a b=>k2 h.2.1)];exact ⟨rfl,rfl⟩
 ·rename_i k1;rw [aP (λh:KT a b=>k1 h.1)];exact ⟨rfl,rfl⟩
def mq (m:aW) (g h c d:Bool):aW:=⟨m.kind,m.src,m.dst,if g then m.ae else 0,0,0,[],if h then m.head else kb,if c then m.cert else kb,if d then m.aT else []⟩
theorem mE {m:aW} (hf:m.cY) (g h c d:Bool):(mq m g h c d).cY:=by
 refine ⟨br _,?_,?_,?_⟩
 ·unfold mq;cases h;exact eD j5;exact hf.head
 ·unfold mq;cases c;exact eD j5;exact hf.cert
 ·unfold mq;cases d;exact br _;exact hf.aT
structure sr (n:Int) (m:aW):Prop where
 fl:jA n=true
 src:1<=m.src/\m.src<=n
 dst:1<=m.dst/\m.dst<=n
 ne:m.src≠m.dst
theorem pn {m:aW} (hb:m.kind≠1/\m.kind≠3):KT (mq m (decide (m.kind<=5)) (decide (m.kind=4)) (decide (m.kind=6)) (decide (7<=m.kind))) m↔gu m:=by
 unfold KT mq;constructor
 ·rintro ⟨-,-,-,e4,e5,e6,e7,e8,e9,e10⟩;refine ⟨λh=>?_,λ_=>⟨e5.symm,e6.symm,e7⟩,λh=>?_,λh=>?_,λh=>?_⟩
  ·rw [aP (oM:¬m.kind<=5)] at e4;exact e4.symm
  ·rw [aP h] at e8;exact ⟨e8.1.symm,e8.2.1.symm,e8.2.2.1.symm,e8.2.2.2.symm⟩
  ·rw [aP h] at e9;exact ⟨e9.1.symm,e9.2.1.symm,e9.2.2.1.symm,e9.2.2.2.1.symm,e9.2.2.2.2.1.symm,e9.2.2.2.2.2.symm⟩
  ·rw [aP (oM:¬7<=m.kind)] at e10;exact e10.symm
 ·intro h;obtain ⟨b1,b2,b3⟩:=h.Vg hb;refine ⟨rfl,rfl,rfl,?_,b1.symm,b2.symm,b3,?_,?_,?_⟩
  ·by_cases k:m.kind<=5
   ·rw [cz k];rfl
   ·rw [aP k];exact (h.dD oM).symm
  ·by_cases k:m.kind=4
   ·rw [cz k];exact ⟨rfl,rfl,rfl,rfl⟩
   ·obtain ⟨c1,c2,c3,c4⟩:=h.head k;rw [aP k];exact ⟨c1.symm,c2.symm,c3.symm,c4.symm⟩
  ·by_cases k:m.kind=6
   ·rw [cz k];exact ⟨rfl,rfl,rfl,rfl,rfl,rfl⟩
   ·obtain ⟨c1,c2,c3,c4,c5,c6⟩:=h.cert k;rw [aP k];exact ⟨c1.symm,c2.symm,c3.symm,c4.symm,c5.symm,c6.symm⟩
  ·by_cases k:7<=m.kind
   ·rw [cz k];rfl
   ·rw [aP k];exact (h.aT oM).symm
open Classical in
theorem qq {n:Int} {m:aW} (he:sr n m) (hk:er n m):decide (gu m)=decide (aX n m):=by
 rw [zd4];exact ⟨λh=>⟨he.fl,he.src,he.dst,he.ne,hk,h⟩,λh=>h.only⟩
open Classical in
theorem VX {n:Int} {m:aW} (hf:m.cY) (hk:m.kind=5):zA 109 [m.av,.k n] [] (pQ (.d (.bool (decide (aX n m)))) []):=by
 have Cj:=iV n;have h46:=gZ m.ae;have heq:=mD (mq m true false false false) m (mE hf ..) rfl;rw [show KT (mq m true false false false) m=gu m from propext (by rw [<-pn (m:=m) oM,hk];exact Iff.rfl)] at heq;refine cF aF bf aG func109 rfl ntmps109 rfl false rfl ?_;refine nW n m _ _ ?_;refine rdv ?_;obtain ⟨b,hb⟩:∃ b,jA n=b:=⟨_,rfl⟩;rw [hb] at Cj;refine Cj.mono ?_;rintro _ _ ⟨rfl,rfl⟩
 cases b
 ·refine rdv ?_;exact ⟨by rw [aP (λh:aX n m=>by have:=h.fl;rw [hb] at this;cases this)];rfl,rfl⟩
 refine rdv ?_;repeat' (apply tw<;>intro _)
 ·have k:m.src<1:=aM;exact ⟨by rw [aP (λh:aX n m=>by have:=h.src;omega)];rfl,rfl⟩
 ·rename_i k0 k;replace k:m.src>n:=k;exact ⟨by rw [aP (λh:aX n m=>by have:=h.src;omega)];rfl,rfl⟩
 ·have k:m.dst<1:=aM;exact ⟨by rw [aP (λh:aX n m=>by have:=h.dst;omega)];rfl,rfl⟩
 ·have k:m.dst>n:=aM;exact ⟨by rw [aP (λh:aX n m=>by have:=h.dst;omega)];rfl,rfl⟩
 ·have k:m.src=m.dst:=aM;exact ⟨by rw [aP (λh:aX n m=>h.ne k)];rfl,rfl⟩
 all_goals first
  | (exfalso;omega)
  | skip
 have he:sr n m:=⟨hb,⟨(show 1<=m.src by have:¬m.src<1:=(by assumption);omega),(show m.src<=n by have:¬m.src>n:=(by assumption);omega)⟩,⟨(show 1<=m.dst by have:¬m.dst<1:=(by assumption);omega),(show m.dst<=n by have:¬m.dst>n:=(by assumption);omega)⟩,by assumption⟩;refine (h46).mono ?_;rintro _ _ ⟨rfl,rfl⟩;by_cases j:1<=m.ae/\m.ae<=65536
 ·rw [cz j];have bw:er n m:=⟨oM,λh=>j,λh=>absurd h oM,λh=>absurd h oM,λh=>absurd h oM,λh=>absurd h oM⟩;refine rdv ?_;refine (bz (avs':=[(mq m true false false false).av,m.av]) heq (.cons ?_ (.cons (.refl _) .nil))).mono ?_
  ·refine .agg ?_
   repeat (first|exact .nil|refine .cons (.refl _) ?_|refine .cons (.nils _ dC) ?_)
  rintro _ _ ⟨rfl,rfl⟩
  conv=>whnf
  rw [qq he bw];exact ⟨rfl,rfl⟩
 ·rw [aP j];refine rdv ?_;exact ⟨by rw [aP (λh:aX n m=>j (h.ok.dD oM))];rfl,rfl⟩
open Classical in
theorem ada {n:Int} {m:aW} (hf:m.cY) (hk:m.kind=2):zA 109 [m.av,.k n] [] (pQ (.d (.bool (decide (aX n m)))) []):=by
 have Cj:=iV n;have h46:=gZ m.ae;have heq:=mD (mq m true false false false) m (mE hf ..) rfl;rw [show KT (mq m true false false false) m=gu m from propext (by rw [<-pn (m:=m) oM,hk];exact Iff.rfl)] at heq;refine cF aF bf aG func109 rfl ntmps109 rfl false rfl ?_;refine nW n m _ _ ?_;refine rdv ?_;obtain ⟨b,hb⟩:∃ b,jA n=b:=⟨_,rfl⟩;rw [hb] at Cj;refine Cj.mono ?_;rintro _ _ ⟨rfl,rfl⟩
 cases b
 ·refine rdv ?_;exact ⟨by rw [aP (λh:aX n m=>by have:=h.fl;rw [hb] at this;cases this)];rfl,rfl⟩
 refine rdv ?_;repeat' (apply tw<;>intro _)
 ·have k:m.src<1:=aM;exact ⟨by rw [aP (λh:aX n m=>by have:=h.src;omega)];rfl,rfl⟩
 ·rename_i k0 k;replace k:m.src>n:=k;exact ⟨by rw [aP (λh:aX n m=>by have:=h.src;omega)];rfl,rfl⟩
 ·have k:m.dst<1:=aM;exact ⟨by rw [aP (λh:aX n m=>by have:=h.dst;omega)];rfl,rfl⟩
 ·have k:m.dst>n:=aM;exact ⟨by rw [aP (λh:aX n m=>by have:=h.dst;omega)];rfl,rfl⟩
 ·have k:m.src=m.dst:=aM;exact ⟨by rw [aP (λh:aX n m=>h.ne k)];rfl,rfl⟩
 all_goals first
  | (exfalso;omega)
  | skip
 have he:sr n m:=⟨hb,⟨(show 1<=m.src by have:¬m.src<1:=(by assumption);omega),(show m.src<=n by have:¬m.src>n:=(by assumption);omega)⟩,⟨(show 1<=m.dst by have:¬m.dst<1:=(by assumption);omega),(show m.dst<=n by have:¬m.dst>n:=(by assumption);omega)⟩,by assumption⟩;refine (h46).mono ?_;rintro _ _ ⟨rfl,rfl⟩;by_cases j:1<=m.ae/\m.ae<=65536
 ·rw [cz j];have bw:er n m:=⟨oM,λh=>j,λh=>absurd h oM,λh=>absurd h oM,λh=>absurd h oM,λh=>absurd h oM⟩;refine rdv ?_;refine (bz (avs':=[(mq m true false false false).av,m.av]) heq (.cons ?_ (.cons (.refl _) .nil))).mono ?_
  ·refine .agg ?_
   repeat (first|exact .nil|refine .cons (.refl _) ?_|refine .cons (.nils _ dC) ?_)
  rintro _ _ ⟨rfl,rfl⟩
  conv=>whnf
  rw [qq he bw];exact ⟨rfl,rfl⟩
 ·rw [aP j];refine rdv ?_;exact ⟨by rw [aP (λh:aX n m=>j (h.ok.dD oM))];rfl,rfl⟩
open Classical in
theorem VY {n:Int} {m:aW} (hf:m.cY) (hk:m.kind=6):zA 109 [m.av,.k n] [] (pQ (.d (.bool (decide (aX n m)))) []):=by
 have Cj:=iV n;have h33:=rW m.cert hf.cert n;have heq:=mD (mq m false false true false) m (mE hf ..) rfl;rw [show KT (mq m false false true false) m=gu m from propext (by rw [<-pn (m:=m) oM,hk];exact Iff.rfl)] at heq;refine cF aF bf aG func109 rfl ntmps109 rfl false rfl ?_;refine nW n m _ _ ?_;refine rdv ?_;obtain ⟨b,hb⟩:∃ b,jA n=b:=⟨_,rfl⟩;rw [hb] at Cj;refine Cj.mono ?_;rintro _ _ ⟨rfl,rfl⟩
 cases b
 ·refine rdv ?_;exact ⟨by rw [aP (λh:aX n m=>by have:=h.fl;rw [hb] at this;cases this)];rfl,rfl⟩
 refine rdv ?_;repeat' (apply tw<;>intro _)
 ·have k:m.src<1:=aM;exact ⟨by rw [aP (λh:aX n m=>by have:=h.src;omega)];rfl,rfl⟩
 ·rename_i k0 k;replace k:m.src>n:=k;exact ⟨by rw [aP (λh:aX n m=>by have:=h.src;omega)];rfl,rfl⟩
 ·have k:m.dst<1:=aM;exact ⟨by rw [aP (λh:aX n m=>by have:=h.dst;omega)];rfl,rfl⟩
 ·have k:m.dst>n:=aM;exact ⟨by rw [aP (λh:aX n m=>by have:=h.dst;omega)];rfl,rfl⟩
 ·have k:m.src=m.dst:=aM;exact ⟨by rw [aP (λh:aX n m=>h.ne k)];rfl,rfl⟩
 all_goals first
  | (exfalso;omega)
  | skip
 have he:sr n m:=⟨hb,⟨(show 1<=m.src by have:¬m.src<1:=(by assumption);omega),(show m.src<=n by have:¬m.src>n:=(by assumption);omega)⟩,⟨(show 1<=m.dst by have:¬m.dst<1:=(by assumption);omega),(show m.dst<=n by have:¬m.dst>n:=(by assumption);omega)⟩,by assumption⟩;refine (h33).mono ?_;rintro _ _ ⟨rfl,rfl⟩;by_cases j:bM n m.cert
 ·rw [cz j];have bw:er n m:=⟨oM,λh=>absurd h oM,λh=>absurd h oM,λh=>absurd h oM,λh=>j,λh=>absurd h oM⟩;refine rdv ?_;refine (bz (avs':=[(mq m false false true false).av,m.av]) heq (.cons ?_ (.cons (.refl _) .nil))).mono ?_
  ·refine .agg ?_
   repeat (first|exact .nil|refine .cons (.refl _) ?_|refine .cons (.nils _ dC) ?_)
  rintro _ _ ⟨rfl,rfl⟩
  conv=>whnf
  rw [qq he bw];exact ⟨rfl,rfl⟩
 ·rw [aP j];refine rdv ?_;exact ⟨by rw [aP (λh:aX n m=>j (h.ok.cert hk))];rfl,rfl⟩
open Classical in
theorem VZ {n:Int} {m:aW} (hf:m.cY) (hk:m.kind=8):zA 109 [m.av,.k n] [] (pQ (.d (.bool (decide (aX n m)))) []):=by
 have Cj:=iV n;have h91:=nM m.aT hf.aT 16;have eM:=nums_length m.aT;have heq:=mD (mq m false false false true) m (mE hf ..) rfl;rw [show KT (mq m false false false true) m=gu m from propext (by rw [<-pn (m:=m) oM,hk];exact Iff.rfl)] at heq;refine cF aF bf aG func109 rfl ntmps109 rfl false rfl ?_;refine nW n m _ _ ?_;refine rdv ?_;obtain ⟨b,hb⟩:∃ b,jA n=b:=⟨_,rfl⟩;rw [hb] at Cj;refine Cj.mono ?_;rintro _ _ ⟨rfl,rfl⟩
 cases b
 ·refine rdv ?_;exact ⟨by rw [aP (λh:aX n m=>by have:=h.fl;rw [hb] at this;cases this)];rfl,rfl⟩
 refine rdv ?_;repeat' (apply tw<;>intro _)
 ·have k:m.src<1:=aM;exact ⟨by rw [aP (λh:aX n m=>by have:=h.src;omega)];rfl,rfl⟩
 ·rename_i k0 k;replace k:m.src>n:=k;exact ⟨by rw [aP (λh:aX n m=>by have:=h.src;omega)];rfl,rfl⟩
 ·have k:m.dst<1:=aM;exact ⟨by rw [aP (λh:aX n m=>by have:=h.dst;omega)];rfl,rfl⟩
 ·have k:m.dst>n:=aM;exact ⟨by rw [aP (λh:aX n m=>by have:=h.dst;omega)];rfl,rfl⟩
 ·have k:m.src=m.dst:=aM;exact ⟨by rw [aP (λh:aX n m=>h.ne k)];rfl,rfl⟩
 all_goals first
  | (exfalso;omega)
  | skip
 have he:sr n m:=⟨hb,⟨(show 1<=m.src by have:¬m.src<1:=(by assumption);omega),(show m.src<=n by have:¬m.src>n:=(by assumption);omega)⟩,⟨(show 1<=m.dst by have:¬m.dst<1:=(by assumption);omega),(show m.dst<=n by have:¬m.dst>n:=(by assumption);omega)⟩,by assumption⟩
 ·have k:((nums m.aT).length:Int)≥1:=aM;refine (h91).mono ?_;rintro _ _ ⟨rfl,rfl⟩;by_cases j:(m.aT.length:Int)<=16/\dh m.aT 1 65536
  ·rw [cz j];have bw:er n m:=⟨oM,λh=>absurd h oM,λh=>absurd h oM,λh=>absurd h oM,λh=>absurd h oM,λh=>⟨⟨oM,by have:=j.1;omega⟩,j.2⟩⟩;refine rdv ?_;refine (bz (avs':=[(mq m false false false true).av,m.av]) heq (.cons ?_ (.cons (.refl _) .nil))).mono ?_
   ·refine .agg ?_
    repeat (first|exact .nil|refine .cons (.refl _) ?_|refine .cons (.nils _ dC) ?_)
   rintro _ _ ⟨rfl,rfl⟩
   conv=>whnf
   rw [qq he bw];exact ⟨rfl,rfl⟩
  ·rw [aP j];refine rdv ?_;exact ⟨by rw [aP (λh:aX n m=>j ⟨by have:=(h.ok.aT oM).1.2;omega,(h.ok.aT oM).2⟩)];rfl,rfl⟩
 ·have k:¬((nums m.aT).length:Int)≥1:=aM;exact ⟨by rw [aP (λh:aX n m=>by have:=(h.ok.aT oM).1.1;omega)];rfl,rfl⟩
open Classical in
theorem adb {n:Int} {m:aW} (hf:m.cY) (hk:m.kind=7):zA 109 [m.av,.k n] [] (pQ (.d (.bool (decide (aX n m)))) []):=by
 have Cj:=iV n;have h91:=nM m.aT hf.aT 16;have eM:=nums_length m.aT;have heq:=mD (mq m false false false true) m (mE hf ..) rfl;rw [show KT (mq m false false false true) m=gu m from propext (by rw [<-pn (m:=m) oM,hk];exact Iff.rfl)] at heq;refine cF aF bf aG func109 rfl ntmps109 rfl false rfl ?_;refine nW n m _ _ ?_;refine rdv ?_;obtain ⟨b,hb⟩:∃ b,jA n=b:=⟨_,rfl⟩;rw [hb] at Cj;refine Cj.mono ?_;rintro _ _ ⟨rfl,rfl⟩
 cases b
 ·refine rdv ?_;exact ⟨by rw [aP (λh:aX n m=>by have:=h.fl;rw [hb] at this;cases this)];rfl,rfl⟩
 refine rdv ?_;repeat' (apply tw<;>intro _)
 ·have k:m.src<1:=aM;exact ⟨by rw [aP (λh:aX n m=>by have:=h.src;omega)];rfl,rfl⟩
 ·rename_i k0 k;replace k:m.src>n:=k;exact ⟨by rw [aP (λh:aX n m=>by have:=h.src;omega)];rfl,rfl⟩
 ·have k:m.dst<1:=aM;exact ⟨by rw [aP (λh:aX n m=>by have:=h.dst;omega)];rfl,rfl⟩
 ·have k:m.dst>n:=aM;exact ⟨by rw [aP (λh:aX n m=>by have:=h.dst;omega)];rfl,rfl⟩
 ·have k:m.src=m.dst:=aM;exact ⟨by rw [aP (λh:aX n m=>h.ne k)];rfl,rfl⟩
 all_goals first
  | (exfalso;omega)
  | skip
 have he:sr n m:=⟨hb,⟨(show 1<=m.src by have:¬m.src<1:=(by assumption);omega),(show m.src<=n by have:¬m.src>n:=(by assumption);omega)⟩,⟨(show 1<=m.dst by have:¬m.dst<1:=(by assumption);omega),(show m.dst<=n by have:¬m.dst>n:=(by assumption);omega)⟩,by assumption⟩
 ·have k:((nums m.aT).length:Int)≥1:=aM;refine (h91).mono ?_;rintro _ _ ⟨rfl,rfl⟩;by_cases j:(m.aT.length:Int)<=16/\dh m.aT 1 65536
  ·rw [cz j];have bw:er n m:=⟨oM,λh=>absurd h oM,λh=>absurd h oM,λh=>absurd h oM,λh=>absurd h oM,λh=>⟨⟨oM,by have:=j.1;omega⟩,j.2⟩⟩;refine rdv ?_;refine (bz (avs':=[(mq m false false false true).av,m.av]) heq (.cons ?_ (.cons (.refl _) .nil))).mono ?_
   ·refine .agg ?_
    repeat (first|exact .nil|refine .cons (.refl _) ?_|refine .cons (.nils _ dC) ?_)
   rintro _ _ ⟨rfl,rfl⟩
   conv=>whnf
   rw [qq he bw];exact ⟨rfl,rfl⟩
  ·rw [aP j];refine rdv ?_;exact ⟨by rw [aP (λh:aX n m=>j ⟨by have:=(h.ok.aT oM).1.2;omega,(h.ok.aT oM).2⟩)];rfl,rfl⟩
 ·have k:¬((nums m.aT).length:Int)≥1:=aM;exact ⟨by rw [aP (λh:aX n m=>by have:=(h.ok.aT oM).1.1;omega)];rfl,rfl⟩
open Classical in
theorem V0 {n:Int} {m:aW} (hf:m.cY) (hk:m.kind=4):zA 109 [m.av,.k n] [] (pQ (.d (.bool (decide (aX n m)))) []):=by
 have Cj:=iV n;have h46:=gZ m.ae;have h47:=qf m.head hf.head n;have heq:=mD (mq m true true false false) m (mE hf ..) rfl;rw [show KT (mq m true true false false) m=gu m from propext (by rw [<-pn (m:=m) oM,hk];exact Iff.rfl)] at heq;refine cF aF bf aG func109 rfl ntmps109 rfl false rfl ?_;refine nW n m _ _ ?_;refine rdv ?_;obtain ⟨b,hb⟩:∃ b,jA n=b:=⟨_,rfl⟩;rw [hb] at Cj;refine Cj.mono ?_;rintro _ _ ⟨rfl,rfl⟩
 cases b
 ·refine rdv ?_;exact ⟨by rw [aP (λh:aX n m=>by have:=h.fl;rw [hb] at this;cases this)];rfl,rfl⟩
 refine rdv ?_;repeat' (apply tw<;>intro _)
 ·have k:m.src<1:=aM;exact ⟨by rw [aP (λh:aX n m=>by have:=h.src;omega)];rfl,rfl⟩
 ·rename_i k0 k;replace k:m.src>n:=k;exact ⟨by rw [aP (λh:aX n m=>by have:=h.src;omega)];rfl,rfl⟩
 ·have k:m.dst<1:=aM;exact ⟨by rw [aP (λh:aX n m=>by have:=h.dst;omega)];rfl,rfl⟩
 ·have k:m.dst>n:=aM;exact ⟨by rw [aP (λh:aX n m=>by have:=h.dst;omega)];rfl,rfl⟩
 ·have k:m.src=m.dst:=aM;exact ⟨by rw [aP (λh:aX n m=>h.ne k)];rfl,rfl⟩
 all_goals first
  | (exfalso;omega)
  | skip
 have he:sr n m:=⟨hb,⟨(show 1<=m.src by have:¬m.src<1:=(by assumption);omega),(show m.src<=n by have:¬m.src>n:=(by assumption);omega)⟩,⟨(show 1<=m.dst by have:¬m.dst<1:=(by assumption);omega),(show m.dst<=n by have:¬m.dst>n:=(by assumption);omega)⟩,by assumption⟩;refine cP Uo ?_;refine (h46).mono ?_;rintro _ _ ⟨rfl,rfl⟩;by_cases j:1<=m.ae/\m.ae<=65536
 ·rw [cz j];refine rdv ?_;refine h47.mono ?_;rintro _ _ ⟨rfl,rfl⟩;by_cases j2:eB n m.head
  ·rw [cz j2];refine rdv ?_;repeat' (apply tw<;>intro _)
   ·have j3:m.head.af=m.src:=aM;have bw:er n m:=⟨oM,λh=>j,λh=>absurd h oM,λh=>⟨j2,j3⟩,λh=>absurd h oM,λh=>absurd h oM⟩;refine rdv ?_;refine (bz (avs':=[(mq m true true false false).av,m.av]) heq (.cons ?_ (.cons (.refl _) .nil))).mono ?_
    ·refine .agg ?_
     repeat (first|exact .nil|refine .cons (.refl _) ?_|refine .cons (.nils _ dC) ?_)
    rintro _ _ ⟨rfl,rfl⟩
    conv=>whnf
    rw [qq he bw];exact ⟨rfl,rfl⟩
   ·have j3:m.head.af≠m.src:=aM;exact ⟨by rw [aP (λh:aX n m=>j3 (h.ok.head hk).2)];rfl,rfl⟩
  ·rw [aP j2];refine rdv ?_;exact ⟨by rw [aP (λh:aX n m=>j2 (h.ok.head hk).1)];rfl,rfl⟩
 ·rw [aP j];refine rdv ?_;exact ⟨by rw [aP (λh:aX n m=>j (h.ok.dD oM))];rfl,rfl⟩
def agH (k:Int) (av:AV) (L:List AB):Prop:=(∃ m:aW,av=m.av/\m.small/\m.kind=k/\L=[])∨(∃ (m:aW) (sg:List Int),av = .agg (mAr m 0)/\m.small/\sg.length<=3000/\m.kind=k/\L=[.row 3 1 (nums sg) false])∨∃ (m:aW) (x:Int),av = .agg (mDr m 0)/\m.small/\m.kind=k/\L=[.row 3 1 (nums [x]) false]
theorem ss {k:Int} {av:AV} (m:aW) (h:av=m.av) (hs:m.small) (hk:m.kind=k:=by rfl):agH k av [] := .inl ⟨m,h,hs,hk,rfl⟩
open Classical in
theorem V1 (p:Prim) (bw:p.ok) (zx:p.aq.aa.length<=1000) (a:Act) (hl:a.m.small) (ha:i64 a.d):zA 55 [p.av,a.av] [] (agH a.m.kind):=by
 have ajH:=yq p bw;have Oi:=Int.tmod_lt_of_pos a.d (dC:(0:Int)<2);have hd3:=Int.lt_tmod_of_pos a.d (dC:(0:Int)<2);have i_:=B6 a.m hl;have bR:=ak p.aq.aa;refine gG func55 ntmps55 ?_;refine aQ i_ ?_;repeat' (apply tw<;>intro _)
 ·exact ss a.m rfl hl
 ·rename_i k0;refine ajH.mono ?_;rintro _ _ ⟨rfl,rfl⟩;by_cases k1:ec p
  ·rw [cz k1];have Lu:=k1.id;have kx:=gQ k1.fl;have htr:=GG k1.aq;have QL:=YR p.aq (fO 1000 zx);have Ck:=Ez p.aq (fO 1000 zx) oM (λc hc=>dG k1.fl (by have:=k1.aq.aa c hc;rw [k1.same] at this;exact this)) (jR p.aq.aa+a.d.tmod 2 - 1);have QH:(mW p.aq.aa (jR p.aq.aa+a.d.tmod 2 - 1)).length<=p.aq.aa.length:=mv ..;have fh:((mW p.aq.aa (jR p.aq.aa+a.d.tmod 2 - 1)).map (·.ae)).Nodup:=zeS (List.Sublist.map _ zd1) k1.aq.dD;obtain ⟨ol,OW⟩:∃ ol,mW p.aq.aa (jR p.aq.aa+a.d.tmod 2 - 1)=ol:=⟨_,rfl⟩;rw [OW] at Ck QH fh;have hoe:=ak ol;have hq:=kG p.nodes k1.fl;refine rdv ?_;repeat' (apply tw<;>intro _)
   all_goals first
    | exact ss a.m rfl hl
    | (refine ⟨oM,λz hz=>?_⟩
       replace hz:=jS oM hz;have pB:0<=z/\z<p.nodes:=by rw [hz];exact ⟨WV _ oM,ZI _ oM⟩
       clear hz
       conv=>whnf
       (refine eF ?_;repeat' (apply tw<;>intro _)))
    | skip
   all_goals first
    | exact ss ⟨_,_,_,_,_,_,_,⟨_,_,_,_,0,[]⟩,⟨_,_,_,_,_,_⟩,_⟩ rfl ⟨hl.dX,hl.head,hl.cert,hl.aT,br _⟩
    | (have kk:a.m.kind=5:=by assumption
       refine ⟨dC,λz1 pB=>?_⟩;refine rdv ?_;repeat' (apply tw<;>intro _)
       all_goals exact ss ⟨_,_,_,_,_,_,_,⟨_,_,_,_,0,[]⟩,⟨_,_,_,_,_,_⟩,_⟩ rfl ⟨hl.dX,hl.head,hl.cert,hl.aT,br _⟩)
    | skip
   all_goals first
    | (have kk:a.m.kind=4:=by assumption
       refine ⟨dC,λz1 pB=>?_⟩;refine rdv ?_;repeat' (apply tw<;>intro _)
       ·refine cP Oo ?_
        ((with_reducible apply aC);(focus (intro K hK;(conv=>whnf);exact ⟨dC,λz hz=>by subst hz;exact hK⟩));(conv=>whnf))
        (refine eF ?_)
        refine aQ QL ?_;refine aQ Ck ?_;refine lj [(3,10,1)] rfl ?_;refine dw aF bf aG (σ:=List Int) (ρ:=Nat) (agq p a ⟨a.m.kind,(z+1),p.id,a.m.ae,a.m.ba,a.m.bn,a.m.dX,⟨(z+1),max 1 (jR p.aq.aa+a.d.tmod 2),a.m.head.aE,[],0,[]⟩,a.m.cert,a.m.aT⟩ ol) (zg ol) (λ_ j=>ol.length - j) [2,3,4,5,7,8] ?_ ?_
        ·conv=>whnf
         exact ⟨[],0,rfl,rfl,sY ol⟩
        ·rintro acc j x_;have dM:=x_.le;have Mz:=x_.len;refine rdv ?_;repeat' (apply tw<;>intro _)
         ·have h:(j:Int)<((ah ol).length:Int):=aM;refine eG ol j λc hc=>?_;have yh:=pf fh x_ hc;have RU:=qo fh x_ hc;refine cP Oq ?_
          ((with_reducible apply aC);(focus (intro K hK;(conv=>whnf);exact iB hc (by first|rfl|omega) hK));(conv=>whnf))
          (refine eF ?_)
          refine aQ (wz acc (by unfold aJ;omega) x_.Dh c.ae yh) ?_;exact ⟨uL acc c.ae,j+1,rfl,rfl,RU,oM⟩
         ·exact ss ⟨_,_,_,_,_,_,_,⟨_,_,_,acc,0,[]⟩,⟨_,_,_,_,_,_⟩,_⟩ rfl ⟨hl.dX,⟨hl.head.1,by show acc.length<=_;omega⟩,hl.cert,hl.aT,br _⟩
       ·exact ss ⟨_,_,_,_,_,_,_,⟨_,_,_,_,0,[]⟩,⟨_,_,_,_,_,_⟩,_⟩ rfl ⟨hl.dX,hl.head,hl.cert,hl.aT,br _⟩)
    | (have kk:a.m.kind=4:=by assumption
       refine ⟨dC,λz1 pB=>?_⟩;refine rdv ?_;repeat' (apply tw<;>intro _)
       ·refine cP Oo ?_
        ((with_reducible apply aC);(focus (intro K hK;(conv=>whnf);exact ⟨dC,λz hz=>by subst hz;exact hK⟩));(conv=>whnf))
        (refine eF ?_)
        refine aQ QL ?_;refine aQ Ck ?_;refine lj [(3,10,1)] rfl ?_;refine dw aF bf aG (σ:=List Int) (ρ:=Nat) (agq p a ⟨a.m.kind,a.m.src,p.id,a.m.ae,a.m.ba,a.m.bn,a.m.dX,⟨a.m.src,max 1 (jR p.aq.aa+a.d.tmod 2),a.m.head.aE,[],0,[]⟩,a.m.cert,a.m.aT⟩ ol) (zg ol) (λ_ j=>ol.length - j) [2,3,4,5,7,8] ?_ ?_
        ·conv=>whnf
         exact ⟨[],0,rfl,rfl,sY ol⟩
        ·rintro acc j x_;have dM:=x_.le;have Mz:=x_.len;refine rdv ?_;repeat' (apply tw<;>intro _)
         ·have h:(j:Int)<((ah ol).length:Int):=aM;refine eG ol j λc hc=>?_;have yh:=pf fh x_ hc;have RU:=qo fh x_ hc;refine cP Oq ?_
          ((with_reducible apply aC);(focus (intro K hK;(conv=>whnf);exact iB hc (by first|rfl|omega) hK));(conv=>whnf))
          (refine eF ?_)
          refine aQ (wz acc (by unfold aJ;omega) x_.Dh c.ae yh) ?_;exact ⟨uL acc c.ae,j+1,rfl,rfl,RU,oM⟩
         ·exact ss ⟨_,_,_,_,_,_,_,⟨_,_,_,acc,0,[]⟩,⟨_,_,_,_,_,_⟩,_⟩ rfl ⟨hl.dX,⟨hl.head.1,by show acc.length<=_;omega⟩,hl.cert,hl.aT,br _⟩
       ·exact ss ⟨_,_,_,_,_,_,_,⟨_,_,_,_,0,[]⟩,⟨_,_,_,_,_,_⟩,_⟩ rfl ⟨hl.dX,hl.head,hl.cert,hl.aT,br _⟩)
    | (have kk:a.m.kind=6:=by assumption
       refine ⟨dC,λz1 pB=>?_⟩;refine rdv ?_;repeat' (apply tw<;>intro _)
       ·refine cP Ot ?_
        ((with_reducible apply aC);(focus (intro K hK;(conv=>whnf);exact ⟨dC,λz hz=>by subst hz;exact hK⟩));(conv=>whnf))
        (refine eF ?_)
        refine aQ QL ?_;refine aQ Ck ?_;refine lj [(3,14,1)] rfl ?_;refine dw aF bf aG (σ:=List Int) (ρ:=Nat) (agr p a ⟨a.m.kind,(z+1),p.id,a.m.ae,a.m.ba,a.m.bn,a.m.dX,a.m.head,⟨a.m.cert.af,max 1 (jR p.aq.aa+a.d.tmod 2),a.m.cert.aE,[],a.m.cert.ae,a.m.cert.sigs⟩,a.m.aT⟩ ol) (zg ol) (λ_ j=>ol.length - j) [2,3,4,5,10,11] ?_ ?_
        ·conv=>whnf
         exact ⟨[],0,rfl,rfl,sY ol⟩
        ·rintro acc j x_;have dM:=x_.le;have Mz:=x_.len;refine rdv ?_;repeat' (apply tw<;>intro _)
         ·have h:(j:Int)<((ah ol).length:Int):=aM;refine eG ol j λc hc=>?_;have yh:=pf fh x_ hc;have RU:=qo fh x_ hc;refine cP Ou ?_
          ((with_reducible apply aC);(focus (intro K hK;(conv=>whnf);exact iB hc (by first|rfl|omega) hK));(conv=>whnf))
          (refine eF ?_)
          refine aQ (wz acc (by unfold aJ;omega) x_.Dh c.ae yh) ?_;exact ⟨uL acc c.ae,j+1,rfl,rfl,RU,oM⟩
         ·(refine (sP a.d p.nodes oM oM ha).mono ?_;rintro _ _ ⟨rfl,rfl⟩;(conv=>whnf))
          have hwb:0<=(a.d % 18446744073709551616) % p.nodes/\(a.d % 18446744073709551616) % p.nodes<p.nodes:=⟨WV _ oM,ZI _ oM⟩
          (refine eF ?_)
          refine uC [(3,16,3,1)] rfl ?_;refine dw aF bf aG (σ:=List Int) (ρ:=Nat) (λs n=>YS p a ⟨a.m.kind,(z+1),p.id,a.m.ae,a.m.ba,a.m.bn,a.m.dX,a.m.head,⟨1+(a.d % 18446744073709551616) % p.nodes,max 1 (jR p.aq.aa+a.d.tmod 2),a.m.cert.aE,acc,a.m.cert.ae,[]⟩,a.m.aT⟩ s ((n:Int)+1)) (λs n=>s.length=n/\n<=33) (λ_ n=>34 - n) [2,3,4,5,12] ?_ ?_
          ·conv=>whnf
           exact ⟨[],0,rfl,rfl,rfl,br _⟩
          ·rintro sg n ⟨n_,ajJ⟩;have dq:=nums_length sg;refine rdv ?_;refine aQ hq ?_;repeat' (apply tw<;>intro _)
           ·have hle:(n:Int)+1<=2 * ((p.nodes - 1) / 3)+1:=aM;refine ⟨by show ((nums sg).length+1) * 8<=_;omega,?_⟩;refine rdv ?_;refine ⟨sg++[(n:Int)+1],n+1,rfl,?_,⟨by simp;omega,oM⟩,oM⟩;rw [YS,<-db];rfl
           ·exact .inr (.inl ⟨⟨_,_,_,_,_,_,_,⟨_,_,_,_,0,[]⟩,⟨_,_,_,acc,_,[]⟩,_⟩,sg,rfl,⟨hl.dX,hl.head,⟨hl.cert.1,by show acc.length<=_;omega,br _⟩,hl.aT,br _⟩,oM,rfl,rfl⟩)
       ·exact ss ⟨_,_,_,_,_,_,_,⟨_,_,_,_,0,[]⟩,⟨_,_,_,_,_,_⟩,_⟩ rfl ⟨hl.dX,hl.head,hl.cert,hl.aT,br _⟩)
    | (have kk:a.m.kind=6:=by assumption
       refine ⟨dC,λz1 pB=>?_⟩;refine rdv ?_;repeat' (apply tw<;>intro _)
       ·refine cP Ot ?_
        ((with_reducible apply aC);(focus (intro K hK;(conv=>whnf);exact ⟨dC,λz hz=>by subst hz;exact hK⟩));(conv=>whnf))
        (refine eF ?_)
        refine aQ QL ?_;refine aQ Ck ?_;refine lj [(3,14,1)] rfl ?_;refine dw aF bf aG (σ:=List Int) (ρ:=Nat) (agr p a ⟨a.m.kind,a.m.src,p.id,a.m.ae,a.m.ba,a.m.bn,a.m.dX,a.m.head,⟨a.m.cert.af,max 1 (jR p.aq.aa+a.d.tmod 2),a.m.cert.aE,[],a.m.cert.ae,a.m.cert.sigs⟩,a.m.aT⟩ ol) (zg ol) (λ_ j=>ol.length - j) [2,3,4,5,10,11] ?_ ?_
        ·conv=>whnf
         exact ⟨[],0,rfl,rfl,sY ol⟩
        ·rintro acc j x_;have dM:=x_.le;have Mz:=x_.len;refine rdv ?_;repeat' (apply tw<;>intro _)
         ·have h:(j:Int)<((ah ol).length:Int):=aM;refine eG ol j λc hc=>?_;have yh:=pf fh x_ hc;have RU:=qo fh x_ hc;refine cP Ou ?_
          ((with_reducible apply aC);(focus (intro K hK;(conv=>whnf);exact iB hc (by first|rfl|omega) hK));(conv=>whnf))
          (refine eF ?_)
          refine aQ (wz acc (by unfold aJ;omega) x_.Dh c.ae yh) ?_;exact ⟨uL acc c.ae,j+1,rfl,rfl,RU,oM⟩
         ·(refine (sP a.d p.nodes oM oM ha).mono ?_;rintro _ _ ⟨rfl,rfl⟩;(conv=>whnf))
          have hwb:0<=(a.d % 18446744073709551616) % p.nodes/\(a.d % 18446744073709551616) % p.nodes<p.nodes:=⟨WV _ oM,ZI _ oM⟩
          (refine eF ?_)
          refine uC [(3,16,3,1)] rfl ?_;refine dw aF bf aG (σ:=List Int) (ρ:=Nat) (λs n=>YS p a ⟨a.m.kind,a.m.src,p.id,a.m.ae,a.m.ba,a.m.bn,a.m.dX,a.m.head,⟨1+(a.d % 18446744073709551616) % p.nodes,max 1 (jR p.aq.aa+a.d.tmod 2),a.m.cert.aE,acc,a.m.cert.ae,[]⟩,a.m.aT⟩ s ((n:Int)+1)) (λs n=>s.length=n/\n<=33) (λ_ n=>34 - n) [2,3,4,5,12] ?_ ?_
          ·conv=>whnf
           exact ⟨[],0,rfl,rfl,rfl,br _⟩
          ·rintro sg n ⟨n_,ajJ⟩;have dq:=nums_length sg;refine rdv ?_;refine aQ hq ?_;repeat' (apply tw<;>intro _)
           ·have hle:(n:Int)+1<=2 * ((p.nodes - 1) / 3)+1:=aM;refine ⟨by show ((nums sg).length+1) * 8<=_;omega,?_⟩;refine rdv ?_;refine ⟨sg++[(n:Int)+1],n+1,rfl,?_,⟨by simp;omega,oM⟩,oM⟩;rw [YS,<-db];rfl
           ·exact .inr (.inl ⟨⟨_,_,_,_,_,_,_,⟨_,_,_,_,0,[]⟩,⟨_,_,_,acc,_,[]⟩,_⟩,sg,rfl,⟨hl.dX,hl.head,⟨hl.cert.1,by show acc.length<=_;omega,br _⟩,hl.aT,br _⟩,oM,rfl,rfl⟩)
       ·exact ss ⟨_,_,_,_,_,_,_,⟨_,_,_,_,0,[]⟩,⟨_,_,_,_,_,_⟩,_⟩ rfl ⟨hl.dX,hl.head,hl.cert,hl.aT,br _⟩)
    | (have kk:a.m.kind=8:=by assumption
       have afe:((ah p.aq.aa).length:Int)>0:=by assumption
       have hwt:=sP a.d p.aq.aa.length oM oM ha;have hwb:0<=(a.d % 18446744073709551616) % (p.aq.aa.length:Int)/\(a.d % 18446744073709551616) % (p.aq.aa.length:Int)<p.aq.aa.length:=⟨WV _ oM,ZI _ oM⟩;obtain ⟨w,hw⟩:∃ w:Int,(a.d % 18446744073709551616) % (p.aq.aa.length:Int)=w:=⟨_,rfl⟩;rw [hw] at hwt hwb;rw [<-bR] at hwt;refine nu (⟨_,ff oM⟩:∃ c,p.aq.aa[w.toNat]? = some c) λc hc=>?_;refine cP XT ?_
       (refine (hwt).mono ?_;rintro _ _ ⟨rfl,rfl⟩;(conv=>whnf))
       repeat' (first|(refine jz ?_)|((with_reducible apply eT);(focus ((conv=>whnf);intro K hK;(conv=>whnf);exact ⟨oM,c.cs,aB hc,hK⟩));(conv=>whnf))|((with_reducible apply aC);(focus (intro K hK;(conv=>whnf);exact ⟨oM,c.cs,aB hc,hK⟩));(conv=>whnf)))
       exact .inr (.inr ⟨⟨_,_,_,_,_,_,_,⟨_,_,_,_,0,[]⟩,⟨_,_,_,_,_,_⟩,[]⟩,c.ae,rfl,⟨hl.dX,hl.head,hl.cert,br _,br _⟩,rfl,rfl⟩))
  ·rw [aP k1];refine rdv ?_;exact ss a.m rfl hl
theorem Zd (p:Prim) (bw:p.ok) (zx:p.aq.aa.length<=1000) (a:Act) (hl:a.m.small) (ha:i64 a.d):zA 55 [p.av,a.av] [] (λav L=>(∃ m:aW,av=m.av/\m.small/\m.kind=a.m.kind)/\L=[]):=by
 refine bT (V1 p bw zx a hl ha) ?_;rintro _ _ (⟨m,rfl,hs,hk,rfl⟩|⟨m,sg,rfl,hs,YT,hk,rfl⟩|⟨m,x,rfl,hs,hk,rfl⟩)
 ·conv=>whnf
  exact ⟨⟨m,rfl,hs,hk⟩,rfl⟩
 ·conv=>whnf
  exact ⟨⟨⟨m.kind,m.src,m.dst,m.ae,m.ba,m.bn,m.dX,m.head,⟨m.cert.af,m.cert.round,m.cert.aE,m.cert.ao,m.cert.ae,sg⟩,m.aT⟩,rfl,⟨hs.dX,hs.head,⟨hs.cert.1,hs.cert.2.1,YT⟩,hs.aT,hs.sigs⟩,hk⟩,rfl⟩
 ·conv=>whnf
  exact ⟨⟨⟨m.kind,m.src,m.dst,m.ae,m.ba,m.bn,m.dX,m.head,m.cert,[x]⟩,rfl,⟨hs.dX,hs.head,hs.cert,by show 1<=3000;omega,hs.sigs⟩,hk⟩,rfl⟩
end Go.Proofs.YtolkmjfkkkiboaaGreat
