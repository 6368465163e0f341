/- PrimaryExact: contracts. -/
import Derived.Test.YtolkmjfkkkiboaaGreatPrimaryExactCodK
set_option linter.all false
set_option maxHeartbeats 4000000
set_option maxRecDepth 100000
namespace Go.Proofs.YtolkmjfkkkiboaaGreat
open Go.Ab Go.RowKit Go.MapKept Tryz
attribute [local irreducible] ay AW cw eA eo bL
def agm (e:Int):AV := .tup [.agg [.k 0,.k 0,.d .nils,.d .nils],.k e]
open Classical in
theorem QQ (p:Prim) (bw:p.ok) (zx:p.aq.aa.length<=100000) (l:List Int) (hl:aU l):zA 44 [p.av,.d (.sl 1 (nums l))] [] (λav L=>(((ec p/\lu l=true)/\jd p=true/\av = .tup [(wE p l).pD,.k 0])∨((ec p/\lu l=true)/\jd p=false/\av=agm 10)∨(¬(ec p/\lu l=true)/\av=agm 1))/\L=[]):=by
 have h1:=mj p bw;have h2:=oo l hl;refine gG func44 ntmps44 ?_;refine h1.mono ?_;rintro _ _ ⟨rfl,rfl⟩;by_cases k1:ec p
 ·rw [cz k1];have h3:=rY p k1.aq.fit k1.fl k1.round;have h4:=wF p k1.aq.fit k1.round zx l hl;refine rdv ?_;refine h2.mono ?_;rintro _ _ ⟨rfl,rfl⟩
  cases k2:lu l with
  | false =>
    refine rdv ?_;exact ⟨.inr (.inr ⟨λh=>(by cases h.2),rfl⟩),rfl⟩
  | true =>
    refine rdv ?_;refine h3.mono ?_;rintro _ _ ⟨rfl,rfl⟩
    cases k3:jd p with
    | false =>
      refine rdv ?_;exact ⟨.inr (.inl ⟨⟨k1,rfl⟩,rfl,rfl⟩),rfl⟩
    | true =>
      refine rdv ?_;refine aQ h4 ?_;exact ⟨.inl ⟨⟨k1,rfl⟩,rfl,rfl⟩,rfl⟩
 ·rw [aP k1];refine rdv ?_;exact ⟨.inr (.inr ⟨λh=>k1 h.1,rfl⟩),rfl⟩
def QR (h:Cert):Cert:=⟨h.af,h.round,h.aE,h.ao,0,[]⟩
def dp (p:Prim) (h:Cert) (d:Int):Prim:={ p with aA:=jX p.aA ⟨h.round,p.id,d⟩,said:=p.round,aK:=QR h,dD:=d,aL:=[p.id] }
def GH (p:Prim) (h:Cert) (d:Int):Prim:=jV (dp p h d)
def zE (p:Prim) (h:Cert) (d:Int):List aW:=cM (dp p h d) (fm (dp p h d)) [] p.nodes.toNat++(if eJ (dp p h d) then cM (dQ (dp p h d)) (cn (dN (dp p h d))) [] p.nodes.toNat else [])
structure sd (p:Prim) (h:Cert):Prop where
 ready:jd p=true
 round:h.round=p.round
 ao:h.ao=dE (fY p)
theorem dz {p:Prim} (hm:ec p) (hr:p.aq.aa.length+p.late.length<60000) {h:Cert} (hh:eB p.nodes h) {d:Int} (hd:1<=d/\d<=65536) (qQ:eJ (dp p h d)=true):GB (dp p h d):=by
 have kx:=gQ hm.fl;have Lu:=hm.id;have bw:bM p.nodes (dN (dp p h d)):=by
  refine ⟨⟨hh.fl,hh.af,hh.round,hh.aE,hh.ao,hh.one,hh.many⟩,hd,⟨zeL ..,λx hx=>by have:=Hj.1 hx;subst this;exact Lu⟩,?_⟩;simp only [eJ,G6,ze1,zeK] at qQ;have:=qQ.2;show (([p.id]:List Int).length:Int)≥quo p.nodes;have h2:(dp p h d).aL.length=1:=rfl;have h3:(dp p h d).nodes=p.nodes:=rfl;rw [h2,h3] at this;show ((1:Nat):Int)≥_;omega
 exact ⟨by rw [show (dp p h d).aq.nodes=p.nodes from hm.same];exact bw,dG hm.fl bw,hm.cY (WX hr),hr,hm.late.Dh⟩
theorem fO {α:Type} {l:List α} (n:Nat) (h:l.length<=n) (hn:n<=140737488355328:=by decide):aU l:=by unfold aU;omega
structure lv (p:Prim) (h:Cert) (d:Int):Prop where
 may:ec p
 dD:1<=d/\d<=65536
 head:eB p.nodes h
 af:h.af=p.id
structure Tx.ok (t:Tx):Prop where
 key:t.key.size<=140737488355328
 val:t.val.size<=140737488355328
theorem Vs (l:List Tx) (hl:aU l) (hk:∀ t∈l,t.ok):zA 124 [.d (.sl 4 (dr l))] [] (λav L=>(∃ n:Int,av = .k n/\(l.length:Int)<=n/\n<=562949953421312)/\L=[]):=by
 have bR:=JG l;unfold aU at hl;refine dB func124 ntmps124 ?_;refine dw aF bf aG (σ:=Int) (ρ:=Nat) (λw j=>([(0,.d (.sl 4 (dr l))),(3,.k w),(4,.k j)],[])) (λw j=>j<=l.length/\(l.length:Int)<=w/\w<=562949953421312) (λ_ j=>l.length - j) [0,3,4] ?_ ?_
 ·conv=>whnf
  exact ⟨l.length,0,by rw [bR];rfl,rfl,oM,oM,oM⟩
 ·rintro w j ⟨hj,Ag,hw2⟩
  conv=>whnf
  rw [bR];refine eF ?_;repeat' (apply tw<;>intro _)
  ·rename_i dM hwl;replace hwl:w<1048576:=hwl;refine eG l j λc hc=>?_;have YG:=hk c (fU hc);have Bl:=YG.key;have hk2:=YG.val;refine uH X8 ?_
   repeat' (first|((with_reducible apply aC);(focus (intro K hK;(conv=>whnf);exact iB hc (by first|rfl|omega) hK));(conv=>whnf))|(first|((with_reducible first|apply aC|apply eT);(focus ((conv=>whnf)<;>first|rfl|(intro K hK;(conv=>whnf);first|exact hK|exact eU oM hK)));conv=>whnf)|((with_reducible apply eU);(focus omega);conv=>whnf)|((with_reducible first|apply iA|apply Z6|apply Z7|apply TJ|apply Bo)<;>(intro _;conv=>whnf))))
   exact ⟨_,j+1,rfl,rfl,⟨oM,oM,oM⟩,oM⟩
  ·exact ⟨⟨_,rfl,Ag,hw2⟩,rfl⟩
  ·exact ⟨⟨_,rfl,Ag,hw2⟩,rfl⟩
structure aW.jr (m:aW):Prop where
 dX:m.dX.length<=2000
 head:m.head.aE.length<=2000/\m.head.ao.length<=2000
 cert:m.cert.jr
 aT:m.aT.length<=2000
theorem QS (m:aW) (h:m.ok) (hk:∀ t∈m.dX,t.ok):zA 65 [m.av] [] (λav L=>(∃ n:Int,av = .k n/\(n<=2000->m.jr))/\L=[]):=by
 have h1:=Vs m.dX h.dX hk;have h2:=wA m.head h.head;have h3:=JA m.cert h.cert;have l7:=nums_length m.aT;have f1:=h.head.aE.1;have f2:=h.head.ao.1;have f3:=h.cert.aE.1;have f4:=h.cert.ao.1;have f5:=h.cert.sigs.1;have f6:=h.aT;unfold aU at f1 f2 f3 f4 f5 f6;refine dB func65 ntmps65 ?_;refine cP acn ?_;refine h1.mono ?_;rintro _ _ ⟨⟨n,rfl,hn1,hn2⟩,rfl⟩;refine rdv ?_;refine aQ h2 ?_;refine aQ h3 ?_;exact ⟨⟨_,rfl,λhle=>⟨oM,⟨oM,oM⟩,⟨oM,oM,oM⟩,oM⟩⟩,rfl⟩
theorem JY (m:aW) (h:m.ok) (hk:∀ t∈m.dX,t.ok):zA 24 [m.av] [] (λav L=>(∃ b:Bool,av = .d (.bool b)/\(b=false->m.jr))/\L=[]):=by
 have h1:=QS m h hk;refine gG func24 ntmps24 ?_;refine h1.mono ?_;rintro _ _ ⟨⟨n,rfl,hn⟩,rfl⟩;refine rdv ?_;exact ⟨⟨_,rfl,λhb=>hn (by have:=Wz hb;omega)⟩,rfl⟩
structure Act.jr (a:Act):Prop where
 m:a.m.jr
 l:a.l.length<=200
 h:a.h.aE.length<=200/\a.h.ao.length<=200
structure iD.jr (s:iD):Prop where
 aa:s.p.aq.aa.length<=80/\∀ c∈s.p.aq.aa,c.jr
 late:s.p.late.length<=60/\∀ c∈s.p.late,c.jr
 aA:s.p.aA.length<=300
 aL:s.p.aL.length<=100
 aK:s.p.aK.aE.length<=200/\s.p.aK.ao.length<=200
 il:s.il.length<=50/\∀ a∈s.il,a.jr
structure iD.oks (s:iD):Prop where
 ok:s.ok
 dX:∀ a∈s.il,∀ t∈a.m.dX,t.ok
 aU:∀ a∈s.il,Go.Proofs.YtolkmjfkkkiboaaGreat.aU a.l
theorem JZ (s:iD) (hh:s.oks):zA 14 [s.av] [] (λav L=>(∃ b:Bool,av = .d (.bool b)/\(b=false->s.jr))/\L=[]):=by
 have h:=hh.ok;have Mz:=wC s.il;have eM:=ak s.p.late;have CX:=aV s.p.aA;have yd:=nums_length s.p.aL;have h1:=Mt s.p.aq h.aq;have h2:=BV s.p.late h.late.1 h.late.2;have h3:=wA s.p.aK h.aK;have yes:∀ L:List AB,L=[]->((∃ b:Bool,AV.d (.bool true) = .d (.bool b)/\(b=false->s.jr))/\L=[]):=λL e=>⟨⟨true,rfl,λh=>(by cases h)⟩,e⟩;refine gG func14 ntmps14 ?_;refine h1.mono ?_;rintro _ _ ⟨⟨b,rfl,hb⟩,rfl⟩
 conv=>whnf
 cases b
 ·replace hb:=hb rfl
  conv=>whnf
  refine h2.mono ?_;rintro _ _ ⟨⟨n,rfl,hn⟩,rfl⟩;refine rdv ?_;repeat' (apply tw<;>intro _)
  all_goals first|exact yes _ rfl|skip
  rename_i k1 k2 k3 k4;replace k2:¬((ah s.p.late).length:Int)>60:=k2;replace k3:¬((ax s.p.aA).length:Int)>300:=k3;replace k4:¬((nums s.p.aL).length:Int)>100:=k4;refine aQ h3 ?_;repeat' (apply tw<;>intro _)
  all_goals first|exact yes _ rfl|skip
  have k5:¬(1+(s.p.aK.aE.length:Int)+s.p.aK.ao.length)>200:=aM;have k6:¬((qB s.il).length:Int)>50:=aM;refine aH aF bf aG (σ:=Nat) (λj=>([(1,.ptr 0 0),(3,.k j)],[.cells (s.cs.map AV.d)])) (λj=>j<=s.il.length/\∀ a∈s.il.take j,a.jr) (λj=>s.il.length - j) [1,3] ?_ ?_
  ·conv=>whnf
   exact ⟨0,rfl,rfl,br _,by simp⟩
  ·rintro j ⟨hj,bB⟩
   conv=>whnf
   rw [Mz];refine eF ?_;repeat' (apply tw<;>intro _)
   ·rename_i dM;refine eG s.il j λa ha=>?_;have R3:=fU ha;have hk:=h.il.2 a R3;have kj:=nums_length a.l;refine ⟨oM,a.cs,BY ha,?_⟩
    conv=>whnf
    refine (JY a.m hk.m (hh.dX a R3)).mono ?_;rintro _ _ ⟨⟨b,rfl,hbm⟩,rfl⟩
    conv=>whnf
    cases b
    ·replace hbm:=hbm rfl;refine rdv ?_;refine ⟨oM,a.cs,BY ha,?_⟩;refine rdv ?_;repeat' (apply tw<;>intro _)
     all_goals first|exact yes _ rfl|skip
     have k7:¬((nums a.l).length:Int)>200:=aM;refine ⟨oM,a.cs,BY ha,?_⟩
     conv=>whnf
     refine aQ (wA a.h hk.h) ?_;repeat' (apply tw<;>intro _)
     ·exact yes _ rfl
     ·have k8:¬(1+(a.h.aE.length:Int)+a.h.ao.length)>200:=aM;refine ⟨j+1,rfl,rfl,⟨oM,λx hx=>?_⟩,oM⟩;rw [iu,ha] at hx;rcases gA.1 hx with hx|hx
      ·exact bB x hx
      ·simp at hx;subst hx;exact ⟨hbm,oM,⟨oM,oM⟩⟩
    ·conv=>whnf
     exact yes _ rfl
   ·rename_i dM;rw [gx oM] at bB;exact ⟨⟨false,rfl,λ_=>⟨hb,⟨oM,hn oM⟩,oM,oM,⟨oM,oM⟩,⟨oM,bB⟩⟩⟩,rfl⟩
 ·conv=>whnf
  exact yes _ rfl
end Go.Proofs.YtolkmjfkkkiboaaGreat
namespace Go.Ab
open Go.RowKit
end Go.Ab
namespace Go.Proofs.YtolkmjfkkkiboaaGreat
open Go.Ab Go.RowKit Go.MapKept Tryz
attribute [local irreducible] ay AW cw eA eo bL
theorem kV (c:Cert) (h:gr c):zA 35 [c.pD,c.pD] [] (pQ (.d (.bool true)) []):=by
 have h1:=cC c.aE c.aE h.aE;have h2:=cC c.ao c.ao h.ao;rw [cz rfl] at h1 h2;refine gG func35 ntmps35 ?_;repeat' (apply tw<;>intro _)
 ·refine aQ h1 ?_;refine h2.mono ?_;rintro _ _ ⟨rfl,rfl⟩
  conv=>whnf
  exact ⟨rfl,rfl⟩
 all_goals (rename_i hx;exact absurd rfl hx)
theorem se (c:Cert) (h:gr c):zA 119 [c.av,c.av] [] (pQ (.d (.bool true)) []):=by
 have h1:=kV c h;have h2:=cC c.sigs c.sigs h.sigs;rw [cz rfl] at h2;refine dB func119 ntmps119 ?_;refine aQ h1 ?_;repeat' (apply tw<;>intro _)
 ·refine h2.mono ?_;rintro _ _ ⟨rfl,rfl⟩
  conv=>whnf
  exact ⟨rfl,rfl⟩
 all_goals (rename_i hx;exact absurd rfl hx)
theorem wQ (l:List Cert) (hl:aU l) (h:∀ c∈l,gr c):zA 88 [.d (.sl 6 (ah l)),.d (.sl 6 (ah l))] [] (pQ (.d (.bool true)) []):=by
 have bR:=ak l;unfold aU at hl;refine gG func88 ntmps88 ?_;repeat' (apply tw<;>intro _)
 ·rename_i hx;exact absurd rfl hx
 ·refine aH aF bf aG (σ:=Nat) (λk=>([(0,.d (.sl 6 (ah l))),(1,.d (.sl 6 (ah l))),(5,.k k)],[])) (λk=>k<=l.length) (λk=>l.length - k) [0,1,5] ?_ ?_
  ·conv=>whnf
   exact ⟨0,rfl,rfl,oM⟩
  ·intro k hk
   conv=>whnf
   rw [bR];refine eF ?_;repeat' (apply tw<;>intro _)
   ·rename_i yd;refine eG l k λc hc=>?_;have h1:=se c (h c (fU hc));refine cP acv ?_
    ((with_reducible apply aC);(focus (intro K hK;(conv=>whnf);exact ⟨oM,c.cs,aB hc,hK⟩));(conv=>whnf))
    (refine eF ?_)
    ((with_reducible apply aC);(focus (intro K hK;(conv=>whnf);exact ⟨oM,c.cs,aB hc,hK⟩));(conv=>whnf))
    (refine eF ?_)
    refine aQ h1 ?_;exact ⟨k+1,rfl,rfl,oM,oM⟩
   ·exact ⟨rfl,rfl⟩
theorem MJ (d:Dag) (hl:aU d.aa) (h:∀ c∈d.aa,gr c):zA 87 [d.av,d.av] [] (pQ (.d (.bool true)) []):=by
 have h1:=wQ d.aa hl h;refine gG func87 ntmps87 ?_;repeat' (apply tw<;>intro _)
 ·refine h1.mono ?_;rintro _ _ ⟨rfl,rfl⟩
  conv=>whnf
  exact ⟨rfl,rfl⟩
 all_goals (rename_i hx;exact absurd rfl hx)
theorem MK (d:Dag) (hl:aJ d.aa) (h:∀ c∈d.aa,c.aJ):zA 28 [d.av] [] (λav L=>av=d.av/\L=[]):=by
 refine dB func28 ntmps28 ?_;refine aQ (mh d.aa hl h) ?_;exact ⟨rfl,rfl⟩
theorem J0 (xs:List Int) (hm:xs.length<=8000000000):zA 50 [.arr 0] [.row 3 1 (nums xs) false] (pQ (.tup []) [.dead]):=by
 refine CI func50 ntmps50 ?_;refine dw aF bf aG (σ:=Nat) (ρ:=List Int) (λk ys=>([(0,.arr 0),(2,.k k)],[.row 3 1 (nums ys) false])) (λk ys=>k<=xs.length/\ys.length=xs.length) (λk _=>xs.length - k) [0,2] ?_ ?_
 ·conv=>whnf
  exact ⟨0,xs,rfl,rfl,oM,rfl⟩
 ·rintro k ys ⟨hk,hl⟩;have eM:=nums_length ys;refine rdv ?_;repeat' (apply tw<;>intro _)
  ·rename_i h;refine ⟨oM,by rw [eM];show k<_;omega,?_⟩
   conv=>whnf
   refine eG ys k λy hy=>?_;refine ⟨[.j y],bD hy,?_⟩;refine rdv ?_;refine ⟨k+1,ys.set k (-99),rfl,?_,⟨oM,by simpa using hl⟩,oM⟩;simp [nums,List.map_set]
  ·rename_i h;refine ⟨by rw [nums_length,RF];show (_+1) * 8<=_;omega,?_⟩
   conv=>whnf
   exact ⟨rfl,rfl⟩
theorem ib (a b:Cert) (ha:aU a.aE/\aU a.ao):zA 35 [a.pD,b.pD] [] (pQ (.d (.bool (decide (a.af=b.af/\a.round=b.round/\a.aE=b.aE/\a.ao=b.ao)))) []):=by
 have h1:=cC a.aE b.aE ha.1;have h2:=cC a.ao b.ao ha.2;refine gG func35 ntmps35 ?_;repeat' (apply tw<;>intro _)
 ·rename_i k1 k2;refine aQ h1 ?_;repeat' (apply tw<;>intro _)
  ·rename_i k3
   (refine (h2).mono ?_;rintro _ _ ⟨rfl,rfl⟩;(conv=>whnf))
   exact ⟨bu (by simp only [jh];exact ⟨λh=>⟨k1,k2,k3,h⟩,λh=>h.2.2.2⟩),rfl⟩
  ·rename_i k3;exact ⟨by rw [aP (λh=>k3 h.2.2.1)];rfl,rfl⟩
 ·rename_i k1 k2;exact ⟨by rw [aP (λh=>k2 h.2.1)];rfl,rfl⟩
 ·rename_i k1;exact ⟨by rw [aP (λh=>k1 h.1)];rfl,rfl⟩
open Classical in
theorem J1 (v:bb):zA 67 [v.av] [] (pQ (.d (.bool (decide (h_ v)))) []):=by
 refine gG func67 ntmps67 ?_;repeat' (apply tw<;>intro _)
 all_goals first
  | exact ⟨by rw [aP (λh:h_ v=>by have:=h.round;have:=h.af;omega)];rfl,rfl⟩
  | skip
 (refine (gZ v.ae).mono ?_;rintro _ _ ⟨rfl,rfl⟩;(conv=>whnf))
 exact ⟨bu (by simp only [jh];exact ⟨λh=>⟨oM,oM,h⟩,λh=>h.ae⟩),rfl⟩
open Classical in
theorem J2 (l:List bb) (hl:aU l):zA 32 [.d (.sl 3 (ax l))] [] (pQ (.d (.bool (decide (cW l)))) []):=by
 have bR:=aV l;unfold aU at hl;refine gG func32 ntmps32 ?_;repeat' (apply tw<;>intro _)
 ·have h0:((ax l).length:Int)>65536:=aM;exact ⟨by rw [aP (λh:cW l=>by have:=h.len;omega)];rfl,rfl⟩
 ·have h0:¬((ax l).length:Int)>65536:=aM;refine aH aF bf aG (σ:=Nat) (λj=>([(0,.d (.sl 3 (ax l))),(3,.k j)],[])) (λj=>j<=l.length/\YM l j) (λj=>l.length - j) [0,3] ?_ ?_
  ·conv=>whnf
   exact ⟨0,rfl,rfl,br _,⟨by simp,by simp [jW]⟩⟩
  ·rintro j ⟨hj,hm⟩;refine rdv ?_;repeat' (apply tw<;>intro _)
   ·have dM:(j:Int)<((ax l).length:Int):=aM;refine eG l j λv hv=>?_;refine cP aca ?_
    ((with_reducible apply aC);(focus (intro K hK;(conv=>whnf);exact iB hv (by first|rfl|omega) hK));(conv=>whnf))
    (refine eF ?_)
    refine (J1 v).mono ?_;rintro _ _ ⟨rfl,rfl⟩;by_cases tG:h_ v
    ·rw [cz tG];refine rdv ?_;repeat' (apply tw<;>intro _)
     ·have CF:(j:Int)>0:=aM;refine nu (⟨_,ff oM⟩:∃ b,l[j - 1]? = some b) λy hy=>?_
      ((with_reducible apply aC);(focus (intro K hK;(conv=>whnf);exact ⟨oM,y.cs,(by rw [show ((j:Int) - 1).toNat=j - 1 by omega];exact bJ hy),hK⟩));(conv=>whnf))
      repeat' (first|(refine jz ?_)|((with_reducible apply aC);(focus (intro K hK;(conv=>whnf);exact ⟨oM,y.cs,(by rw [show ((j:Int) - 1).toNat=j - 1 by omega];exact bJ hy),hK⟩));(conv=>whnf))|((with_reducible apply aC);(focus (intro K hK;(conv=>whnf);exact ⟨oM,v.cs,bJ hv,hK⟩));(conv=>whnf))|((with_reducible apply eT);(focus ((conv=>whnf);intro K hK;(conv=>whnf);exact ⟨oM,y.cs,(by rw [show ((j:Int) - 1).toNat=j - 1 by omega];exact bJ hy),hK⟩));(conv=>whnf))|((with_reducible apply eT);(focus ((conv=>whnf);intro K hK;(conv=>whnf);exact ⟨oM,v.cs,bJ hv,hK⟩));(conv=>whnf)))
      refine (mX y.round y.af v.round v.af).mono ?_;rintro _ _ ⟨rfl,rfl⟩;by_cases hb:y.round<v.round∨y.round=v.round/\y.af<v.af
      ·rw [cz hb];refine rdv ?_;exact ⟨j+1,rfl,rfl,⟨oM,sX hv hm tG (λy' _ Xv=>by rw [hy] at Xv;cases Xv;exact cQ.2 hb)⟩,oM⟩
      ·rw [aP hb];have fu:¬cW l:=λhh=>by
        have BP:=(dW.1 hv).1;have:=CL.1 hh.sorted (j - 1) j oM oM oM;rw [(dW.1 hv).2,(dW.1 hy).2] at this;exact hb (cQ.1 this)
       refine rdv ?_;exact ⟨by rw [aP fu];rfl,rfl⟩
     ·have CF:¬(j:Int)>0:=aM;exact ⟨j+1,rfl,rfl,⟨oM,sX hv hm tG (λy' h0 _=>oM)⟩,oM⟩
    ·rw [aP tG];refine rdv ?_;exact ⟨by rw [aP (λhh:cW l=>tG (hh.aA v (fU hv)))];rfl,rfl⟩
   ·have dM:¬(j:Int)<((ax l).length:Int):=aM;have BP:l.take j=l:=gx oM;have:cW l:=⟨oM,λv hv=>hm.aA v (by rwa [BP]),by have:=hm.sorted;rwa [BP] at this⟩;exact ⟨by rw [cz this];rfl,rfl⟩
open Classical in
theorem QT (n:Int) (l:List Cert) (hl:aU l) (hc:∀ c∈l,gr c):zA 34 [.d (.sl 6 (ah l)),.k n] [] (pQ (.d (.bool (decide (ng n l)))) []):=by
 have bR:=ak l;have Hb:=hl;unfold aU at Hb;refine dB func34 ntmps34 ?_;refine aH aF bf aG (σ:=Nat) (λj=>([(0,.d (.sl 6 (ah l))),(1,.k n),(5,.k j)],[])) (λj=>j<=l.length/\ct (l.take j)/\∀ c∈l.take j,bM n c) (λj=>l.length - j) [0,1,5] ?_ ?_
 ·conv=>whnf
  exact ⟨0,rfl,rfl,br _,by simp [ct],by simp⟩
 ·rintro j ⟨hj,hr,ho⟩;refine rdv ?_;repeat' (apply tw<;>intro _)
  ·have dM:(j:Int)<((ah l).length:Int):=aM;refine eG l j λc OI=>?_;have i_:=fU OI;have hm:=rW c (hc c i_) n;have dq:l.take (j+1)=l.take j++[c]:=by rw [iu,OI];rfl
   have JP:bM n c->(∀ b,0<j->l[j - 1]? = some b->b.ae<c.ae)->ct (l.take (j+1))/\∀ c∈l.take (j+1),bM n c:=by
    intro h1 h2;rw [dq];refine ⟨Hi.2 ⟨hr,by simp,λx hx y hy=>?_⟩,λx hx=>?_⟩
    ·simp at hy;subst hy;obtain ⟨i,hi,rfl⟩:=G4.1 hx;have hb:=h2 l[j - 1] oM (ff oM);by_cases ru:i=j - 1
     ·subst ru;exact hb
     ·have hs:=CL.1 hr i (j - 1) (by simp;omega) (by simp;omega) oM;simp only [zdY] at hs;omega
    ·rcases gA.1 hx with hx|hx
     ·exact ho x hx
     ·simp at hx;subst hx;exact h1
   refine cP acb ?_
   ((with_reducible apply aC);(focus (intro K hK;(conv=>whnf);exact iB OI (by first|rfl|omega) hK));(conv=>whnf))
   (refine eF ?_)
   refine hm.mono ?_;rintro _ _ ⟨rfl,rfl⟩;by_cases QH:bM n c
   ·rw [cz QH];refine rdv ?_;repeat' (apply tw<;>intro _)
    ·have CF:(j:Int)>0:=aM;refine nu (⟨_,ff oM⟩:∃ b,l[j - 1]? = some b) λb hb=>?_
     repeat' (first|(refine jz ?_;repeat' (apply tw<;>intro _))|((with_reducible apply aC);(focus (intro K hK;(conv=>whnf);exact ⟨oM,b.cs,(by rw [show ((j:Int) - 1).toNat=j - 1 by omega];exact aB hb),hK⟩));(conv=>whnf))|((with_reducible apply aC);(focus (intro K hK;(conv=>whnf);exact ⟨oM,c.cs,aB OI,hK⟩));(conv=>whnf))|((with_reducible apply eT);(focus ((conv=>whnf);intro K hK;(conv=>whnf);exact ⟨oM,b.cs,(by rw [show ((j:Int) - 1).toNat=j - 1 by omega];exact aB hb),hK⟩));(conv=>whnf))|((with_reducible apply eT);(focus ((conv=>whnf);intro K hK;(conv=>whnf);exact ⟨oM,c.cs,aB OI,hK⟩));(conv=>whnf)))
     ·have h:b.ae≥c.ae:=aM;have fu:¬ng n l:=λhh=>by
       have:=CL.1 hh.Dh (j - 1) j oM oM oM;rw [(dW.1 hb).2,(dW.1 OI).2] at this;omega
      exact ⟨by rw [aP fu];rfl,rfl⟩
     ·have h:¬b.ae≥c.ae:=aM;exact ⟨j+1,rfl,rfl,⟨oM,JP QH (λb' _ kg=>by rw [hb] at kg;cases kg;omega)⟩,oM⟩
    ·have CF:¬(j:Int)>0:=aM;exact ⟨j+1,rfl,rfl,⟨oM,JP QH (λb' h0 _=>oM)⟩,oM⟩
   ·rw [aP QH];refine rdv ?_;exact ⟨by rw [aP (λhh:ng n l=>QH (hh.aa c i_))];rfl,rfl⟩
  ·have dM:¬(j:Int)<((ah l).length:Int):=aM;have BP:l.take j=l:=gx oM;rw [BP] at hr ho;refine ⟨bu ?_,rfl⟩;simp only [jh];exact ⟨λh=>⟨oM,hr,ho⟩,λh=>by have:=h.len;omega⟩
theorem GI (l:List bb) (hl:l.length<=1099511627776):zA 27 [.d (.sl 3 (ax l))] [] (pQ (.d (.sl 3 (ax l))) []):=by
 have hx:=aV l;refine dB func27 ntmps27 ?_;refine aH aF bf aG (σ:=Nat) (λj=>([(0,.d (.sl 3 (ax l))),(3,.arr 0),(4,.k j)],[.row 106 3 (ax (l.take j)) false])) (λj=>j<=l.length) (λj=>l.length - j) [0,3,4] ?_ ?_
 ·conv=>whnf
  exact ⟨0,rfl,rfl,br _⟩
 ·intro j hj;have bB:=CB j l;have xw:=aV (l.take j);refine rdv ?_;repeat' (apply tw<;>intro _)
  ·have h:(j:Int)<((ax l).length:Int):=aM;refine eG l j λa ha=>?_;refine ⟨oM,a.cs,bJ ha,?_⟩;refine rdv ?_;refine ⟨by show ((ax (l.take j)).length+1) * 24<=_;omega,?_⟩;refine rdv ?_;refine ⟨j+1,rfl,?_,oM,oM⟩;rw [iu,ha,show ax (l.take j++(some a).toList)=ax (l.take j)++[a.cs] by simp [ax]];rfl
  ·have h:¬(j:Int)<((ax l).length:Int):=aM;rw [gx oM];exact ⟨rfl,rfl⟩
theorem dH (p:Prim) (h:p.aJ):zA 15 [p.av] [] (λav L=>av=p.av/\L=[]):=by
 refine gG func15 ntmps15 ?_;refine aQ (gy p.aK h.aK) ?_;refine aQ (dZ p.aL h.aL) ?_;refine aQ (GI p.aA h.aA) ?_;refine aQ (MK p.aq h.aq.1 h.aq.2) ?_;refine aQ (mh p.late h.late.1 h.late.2) ?_;exact ⟨rfl,rfl⟩
open Classical in
theorem yq (p:Prim) (bw:p.ok):zA 16 [p.av] [] (pQ (.d (.bool (decide (ec p)))) []):=by
 have hi:=iV p.nodes;have hnu:=YI p.iq;have hv:=J2 p.aA bw.aA;have hd:=Gq p.aq bw.aq;have hl:=QT p.nodes p.late bw.late.1 (λc hc=>sS (bw.late.2 c hc));have he:=ib p.aK kb ⟨bw.aK.aE.1,bw.aK.ao.1⟩;have Mz:=nums_length p.aL;refine gG func16 ntmps16 ?_;refine hi.mono ?_;rintro _ _ ⟨rfl,rfl⟩
 cases hn:jA p.nodes with
 | false =>
   refine rdv ?_;exact ⟨by rw [aP (λh:ec p=>by have:=h.fl;rw [hn] at this;cases this)];rfl,rfl⟩
 | true =>
   have hq:=kG p.nodes hn;refine rdv ?_;repeat' (apply tw<;>intro _)
   all_goals first
    | exact ⟨by rw [aP (λh:ec p=>by have:=h.id;have:=h.round;omega)];rfl,rfl⟩
    | skip
   refine hnu.mono ?_;rintro _ _ ⟨rfl,rfl⟩;by_cases k1:0<=p.iq/\p.iq<=1099511627776
   ·rw [cz k1];refine rdv ?_;repeat' (apply tw<;>intro _)
    all_goals first
     | exact ⟨by rw [aP (λh:ec p=>by have:=h.said;omega)];rfl,rfl⟩
     | skip
    refine hv.mono ?_;rintro _ _ ⟨rfl,rfl⟩;by_cases k2:cW p.aA
    ·rw [cz k2];refine rdv ?_;repeat' (apply tw<;>intro _)
     ·rename_i k3;exact ⟨by rw [aP (λh:ec p=>k3 h.same)];rfl,rfl⟩
     ·rename_i k3;refine hd.mono ?_;rintro _ _ ⟨rfl,rfl⟩;by_cases k4:Valid p.aq
      ·rw [wx k4];refine rdv ?_;refine hl.mono ?_;rintro _ _ ⟨rfl,rfl⟩;by_cases k5:ng p.nodes p.late
       ·rw [cz k5];have key:nf p->ec p:=λh=>⟨hn,oM,oM,k1,oM,h,k2,k4,k3,k5⟩;refine rdv ?_;repeat' (apply tw<;>intro _)
        ·rename_i k6;refine (bz he (.cons (.refl _) (.cons (.agg ?_) .nil))).mono ?_
         ·repeat (first|exact .nil|refine .cons (.refl _) ?_|refine .cons (.nils _ dC) ?_)
         rintro _ _ ⟨rfl,rfl⟩;refine rdv ?_;repeat' (apply tw<;>intro _)
         ·rename_i k7;refine ⟨bu ?_,rfl⟩;simp only [xd,jh];constructor
          ·intro h;have h:((nums p.aL).length:Int)=0:=h;have e3:p.aL=[]:=oy oM;exact key ⟨λ_=>⟨k7.1,k7.2.1,k7.2.2.1,k7.2.2.2,e3⟩,λh=>absurd k6 h,λh=>absurd k6 h,λh=>absurd k6 h,λh=>absurd k6 h,λh=>absurd k6 h,λh=>absurd k6 h⟩
          ·intro h;obtain ⟨_,_,_,_,e3⟩:=h.aK.none k6;show ((nums p.aL).length:Int)=0;rw [e3];rfl
         ·rename_i k7;exact ⟨by rw [aP (λh:ec p=>k7 (by have:=h.aK.none k6;exact ⟨this.1,this.2.1,this.2.2.1,this.2.2.2.1⟩))];rfl,rfl⟩
        ·rename_i k6;refine cP ab_ ?_;refine aQ (gZ p.dD) ?_;repeat' (apply tw<;>intro _)
         ·rename_i k7;refine aQ (qf p.aK (sS bw.aK) p.nodes) ?_;repeat' (apply tw<;>intro _)
          ·rename_i k8 k9 Ve;refine aQ (g_ p.aL bw.aL) ?_;repeat' (apply tw<;>intro _)
           ·rename_i k11;refine aQ (rV p.aL bw.aL 1 p.nodes) ?_;repeat' (apply tw<;>intro _)
            ·rename_i k12;refine aQ hq ?_;refine ⟨bu ?_,rfl⟩;simp only [jh,Mz];exact ⟨λh=>key ⟨λh6=>absurd h6 k6,λ_=>k7,λ_=>k8,λ_=>k9,λ_=>Ve,λ_=>⟨k11,k12⟩,λ_=>h⟩,λh=>h.aK.less k6⟩
            ·rename_i k12;exact ⟨by rw [aP (λh:ec p=>k12 (h.aK.aL k6).2)];rfl,rfl⟩
           ·rename_i k11;exact ⟨by rw [aP (λh:ec p=>k11 (h.aK.aL k6).1)];rfl,rfl⟩
          ·rename_i k8 k9 Ve;exact ⟨by rw [aP (λh:ec p=>Ve (h.aK.round k6))];rfl,rfl⟩
          ·rename_i k8 k9;exact ⟨by rw [aP (λh:ec p=>k9 (h.aK.af k6))];rfl,rfl⟩
          ·rename_i k8;exact ⟨by rw [aP (λh:ec p=>k8 (h.aK.head k6))];rfl,rfl⟩
         ·rename_i k7;exact ⟨by rw [aP (λh:ec p=>k7 (h.aK.dD k6))];rfl,rfl⟩
       ·rw [aP k5];refine rdv ?_;exact ⟨by rw [aP (λh:ec p=>k5 h.late)];rfl,rfl⟩
      ·rw [Gn k4];refine rdv ?_;exact ⟨by rw [aP (λh:ec p=>k4 h.aq)];rfl,rfl⟩
    ·rw [aP k2];refine rdv ?_;exact ⟨by rw [aP (λh:ec p=>k2 h.aA)];rfl,rfl⟩
   ·rw [aP k1];refine rdv ?_;exact ⟨by rw [aP (λh:ec p=>k1 h.iq)];rfl,rfl⟩
theorem ML (l:List Tx) (hl:l.length<=1099511627776):zA 163 [.d (.sl 4 (dr l))] [] (pQ (.d (.sl 4 (dr l))) []):=by
 have hx:=iM l;refine dB func163 ntmps163 ?_;refine aH aF bf aG (σ:=Nat) (λj=>([(0,.d (.sl 4 (dr l))),(3,.arr 0),(4,.k j)],[.row 180 4 (dr (l.take j)) false])) (λj=>j<=l.length) (λj=>l.length - j) [0,3,4] ?_ ?_
 ·conv=>whnf
  exact ⟨0,rfl,rfl,br _⟩
 ·intro j hj;have bB:=CB j l;have xw:=iM (l.take j);refine cm ?_;repeat' (apply tw<;>intro _)
  ·have h:(j:Int)<((dr l).length:Int):=aM;refine eG l j λa ha=>?_;refine ⟨oM,a.cs,wG ha,?_⟩;refine cm ?_;refine ⟨by show ((dr (l.take j)).length+1) * 48<=_;omega,?_⟩;refine cm ?_;refine ⟨j+1,rfl,?_,oM,oM⟩;rw [iu,ha,show dr (l.take j++(some a).toList)=dr (l.take j)++[a.cs] by simp [dr]];rfl
  ·have h:¬(j:Int)<((dr l).length:Int):=aM;rw [gx oM];exact ⟨rfl,rfl⟩
theorem GJ (m:aW) (hl:m.dX.length<=1099511627776):zA 113 [m.bav] [] (λav L=>av=m.bav/\L=[]):=by
 refine y0 func113 ntmps113 ?_;refine qR (ML m.dX hl) ?_;exact ⟨rfl,rfl⟩
structure aW.small (m:aW):Prop where
 dX:m.dX.length<=3000
 head:m.head.aE.length<=3000/\m.head.ao.length<=3000
 cert:m.cert.aE.length<=3000/\m.cert.ao.length<=3000/\m.cert.sigs.length<=3000
 aT:m.aT.length<=3000
 sigs:m.head.sigs.length<=3000
theorem aW.small.aaD {m:aW} (h:m.small):m.head.aJ:=⟨by have:=h.head;unfold Go.Proofs.YtolkmjfkkkiboaaGreat.aJ;omega,by have:=h.head;unfold Go.Proofs.YtolkmjfkkkiboaaGreat.aJ;omega,by have:=h.sigs;unfold Go.Proofs.YtolkmjfkkkiboaaGreat.aJ;omega⟩
theorem aW.small.aaE {m:aW} (h:m.small):m.cert.aJ:=⟨by have:=h.cert;unfold Go.Proofs.YtolkmjfkkkiboaaGreat.aJ;omega,by have:=h.cert;unfold Go.Proofs.YtolkmjfkkkiboaaGreat.aJ;omega,by have:=h.cert;unfold Go.Proofs.YtolkmjfkkkiboaaGreat.aJ;omega⟩
theorem aW.small.cY {m:aW} (h:m.small):m.cY:=⟨fO 3000 h.dX,⟨fO 3000 h.head.1,fO 3000 h.head.2,fO 3000 h.sigs⟩,⟨fO 3000 h.cert.1,fO 3000 h.cert.2.1,fO 3000 h.cert.2.2⟩,fO 3000 h.aT⟩
theorem B6 (m:aW) (h:m.small):zA 57 [m.av] [] (λav L=>av=m.av/\L=[]):=by
 refine y0 func57 ntmps57 ?_;refine qR (GJ m (by have:=h.dX;omega)) ?_;refine qR (gy m.head h.aaD) ?_;refine qR (dF m.cert h.aaE) ?_;refine qR (dZ m.aT (by have:=h.aT;unfold aJ;omega)) ?_;exact ⟨rfl,rfl⟩
theorem YR (d:Dag) (hd:aU d.aa):zA 107 [d.av] [] (pQ (.k (jR d.aa)) []):=by
 have bR:=ak d.aa;unfold aU at hd;refine y0 func107 ntmps107 ?_;repeat' (apply tw<;>intro _)
 ·have h:((ah d.aa).length:Int)=0:=aM;have:d.aa=[]:=oy oM;rw [this];exact ⟨rfl,rfl⟩
 ·have h:¬((ah d.aa).length:Int)=0:=aM;refine nu (⟨_,ff oM⟩:∃ c,d.aa[d.aa.length - 1]? = some c) λc hc=>?_;refine ⟨oM,c.cs,(by show (ah d.aa)[(((ah d.aa).length:Int) - 1).toNat]? = _;rw [show (((ah d.aa).length:Int) - 1).toNat=d.aa.length - 1 by omega];exact aB hc),?_⟩
  conv=>whnf
  have ht:jR d.aa=c.round:=by rw [jR,List.getLast?_eq_getElem?,hc];rfl
  rw [ht];exact ⟨rfl,rfl⟩
theorem Ez (d:Dag) (hd:aU d.aa) (hl:d.aa.length<=1099511627776) (hc:∀ c∈d.aa,c.aJ) (r:Int):zA 108 [d.av,.k r] [] (pQ (.d (.sl 6 (ah (mW d.aa r)))) []):=by
 have bR:=ak d.aa;refine dB func108 ntmps108 ?_;refine aH aF bf aG (σ:=Nat) (λj=>([(1,.k r),(2,.ptr 0 0),(5,.arr 1),(6,.k j)],[.cells d.cells,.row 47 6 (ah (mW (d.aa.take j) r)) false])) (λj=>j<=d.aa.length) (λj=>d.aa.length - j) [1,2,5,6] ?_ ?_
 ·conv=>whnf
  exact ⟨0,rfl,rfl,br _⟩
 ·intro j hj;have bB:(mW (d.aa.take j) r).length<=d.aa.length:=fS (mv ..) (CB ..);have xw:=ak (mW (d.aa.take j) r);refine cm ?_;repeat' (apply tw<;>intro _)
  ·have h:(j:Int)<((ah d.aa).length:Int):=aM;refine eG d.aa j λa ha=>?_;have dq:mW (d.aa.take (j+1)) r=mW (d.aa.take j) r++(if a.round=r then [a] else []):=by
    unfold mW;rw [iu,ha,CC];by_cases h:a.round=r<;>simp [h]
   refine ⟨oM,a.cs,aB ha,?_⟩;refine cm ?_;repeat' (apply tw<;>intro _)
   ·have h1:a.round=r:=aM;rw [bp h1] at dq;refine ⟨oM,a.cs,aB ha,?_⟩;refine cm ?_;refine qR (dF a (hc a (fU ha))) ?_;refine ⟨by show ((ah (mW (d.aa.take j) r)).length+1) * 96<=_;omega,?_⟩;refine cm ?_;refine ⟨j+1,rfl,?_,oM,oM⟩;rw [dq,show ah (mW (d.aa.take j) r++[a])=ah (mW (d.aa.take j) r)++[a.cs] by simp [ah]];rfl
   ·have h1:¬a.round=r:=aM;rw [aR h1,gR] at dq;exact ⟨j+1,rfl,by rw [dq];rfl,oM,oM⟩
  ·have h:¬(j:Int)<((ah d.aa).length:Int):=aM;rw [gx oM];exact ⟨rfl,rfl⟩
def Act.av (a:Act):AV := .agg (a.cs.map AV.d)
theorem zf {m:aW} (h:m.jr) (hs:m.head.sigs=[]):m.small:=⟨by have:=h.dX;omega,⟨by have:=h.head;omega,by have:=h.head;omega⟩,h.cert,by have:=h.aT;omega,by rw [hs];simp⟩
def aaF:AB := .cells [.k 0,.k 0,.k 0,.k 0,.k 0,.k 0,.d .nils,.k 0,.k 0,.d .nils,.d .nils,.k 0,.k 0,.d .nils,.d .nils,.k 0,.d .nils,.d .nils]
def agp (p:Prim) (a:Act) (m:aW):List AB:=[.cells (p.cs.map AV.d),.cells (a.cs.map AV.d),aaF,.cells (m.cs.map AV.d)]
def agq (p:Prim) (a:Act) (m:aW) (ol:List Cert) (acc:List Int) (j:Nat):AF×List AB:=([(2,.ptr 0 0),(3,.ptr 1 0),(4,.ptr 2 0),(5,.ptr 3 0),(7,.d (.sl 6 (ah ol))),(8,.k j)],agp p a { m with head:={ m.head with ao:=acc } })
def agr (p:Prim) (a:Act) (m:aW) (ol:List Cert) (acc:List Int) (j:Nat):AF×List AB:=([(2,.ptr 0 0),(3,.ptr 1 0),(4,.ptr 2 0),(5,.ptr 3 0),(10,.d (.sl 6 (ah ol))),(11,.k j)],agp p a { m with cert:={ m.cert with ao:=acc } })
def mAr (m:aW) (k:Nat):List AV:=[.k m.kind,.k m.src,.k m.dst,.k m.ae,.k m.ba,.k m.bn,.d (.sl 4 (dr m.dX)),.k m.head.af,.k m.head.round,.d (.sl 1 (nums m.head.aE)),.d (.sl 1 (nums m.head.ao)),.k m.cert.af,.k m.cert.round,.d (.sl 1 (nums m.cert.aE)),.d (.sl 1 (nums m.cert.ao)),.k m.cert.ae,.arr k,.d (.sl 1 (nums m.aT))]
def mDr (m:aW) (k:Nat):List AV:=[.k m.kind,.k m.src,.k m.dst,.k m.ae,.k m.ba,.k m.bn,.d (.sl 4 (dr m.dX)),.k m.head.af,.k m.head.round,.d (.sl 1 (nums m.head.aE)),.d (.sl 1 (nums m.head.ao)),.k m.cert.af,.k m.cert.round,.d (.sl 1 (nums m.cert.aE)),.d (.sl 1 (nums m.cert.ao)),.k m.cert.ae,.d (.sl 1 (nums m.cert.sigs)),.arr k]
def YS (p:Prim) (a:Act) (m:aW) (acc:List Int) (j:Int):AF×List AB:=([(2,.ptr 0 0),(3,.ptr 1 0),(4,.ptr 2 0),(5,.ptr 3 0),(12,.k j)],[.cells (p.cs.map AV.d),.cells (a.cs.map AV.d),aaF,.cells (mAr m 4),.row 3 1 (nums acc) false])
structure zg (ol:List Cert) (acc:List Int) (j:Nat):Prop where
 le:j<=ol.length
 Dh:bq acc
 len:acc.length<=j
 mem:∀ x∈acc,x∈(ol.take j).map (·.ae)
theorem sY (ol:List Cert):zg ol [] 0:=⟨br _,List.Pairwise.nil,eQ _,λx h=>(by cases h)⟩
theorem pf {ol:List Cert} (hn:(ol.map (·.ae)).Nodup) {acc:List Int} {j:Nat} (h:zg ol acc j) {c:Cert} (hc:ol[j]? = some c):c.ae∉acc:=by
 intro hm;obtain ⟨y,hy,hyd⟩:=px.1 (h.mem _ hm);obtain ⟨i,hi,rfl⟩:=G4.1 hy;have dM:=(dW.1 hc).1;have h1:i<ol.length:=oM;have:=(CL.1 hn) i j (by simpa using h1) (by simpa using dM) oM;rw [zfN,zfN,(dW.1 hc).2] at this;exact this hyd
theorem qo {ol:List Cert} (hn:(ol.map (·.ae)).Nodup) {acc:List Int} {j:Nat} (h:zg ol acc j) {c:Cert} (hc:ol[j]? = some c):zg ol (uL acc c.ae) (j+1):=by
 have dM:=(dW.1 hc).1;refine ⟨oM,y8 h.Dh (pf hn h hc),by rw [Jz];have:=h.len;omega,λx hx=>?_⟩;rw [iu,hc];rcases Jw.1 hx with hx|hx
 ·have:=h.mem x hx;simp at this ⊢;exact .inl this
 ·simp [hx]
theorem B7 (d:Dag) (l:List Cert):∀ j,(bd d (l.take j)).2.Sublist (l.take j)
 | 0=>by simp [bd]
 | j+1=>by
   have ih:=B7 d l j
   cases hc:l[j]? with
   | none =>
     have hl:l.length<=j:=by simpa using hc
     rw [gx oM] at ih ⊢;exact ih
   | some c =>
     rw [hZ hc,iu,hc];unfold tZ;simp only;split
     ·exact List.Sublist.append ih (zeW _)
     ·exact ih.trans (List.sublist_append_left ..)
theorem J3 (d:Dag) (l:List Cert):∀ j,∀ c∈d.aa,c∈(bd d (l.take j)).1.aa
 | 0,c,h=>by simpa [bd] using h
 | j+1,c,h=>by
   have ih:=J3 d l j c h
   cases hc:l[j]? with
   | none =>
     have hl:l.length<=j:=by simpa using hc
     rw [gx oM] at ih ⊢;exact ih
   | some x =>
     rw [hZ hc];exact JE ih
theorem Vt {d:Dag} {l:List Cert} (h:lr d l):Valid (bd d l).1/\(bd d l).1.nodes=d.nodes/\(bd d l).1.low=d.low/\(bd d l).1.aa.length+(bd d l).2.length<=d.aa.length+l.length/\(bd d l).2.Sublist l/\∀ c∈d.aa,c∈(bd d l).1.aa:=by
 obtain ⟨h1,h2,h3,h4,h5⟩:=sU h l.length (eQ _);have h6:=B7 d l l.length;have h7:=J3 d l l.length;rw [lD] at h1 h2 h3 h4 h6 h7;exact ⟨h1,h2,h3,h4,h6,h7⟩
structure AgK (d:Dag) (l:List Cert) (t:Dag×List Cert):Prop where
 valid:Valid t.1
 nodes:t.1.nodes=d.nodes
 low:t.1.low=d.low
 len:t.1.aa.length+t.2.length<=d.aa.length+l.length
 sub:t.2.Sublist l
 mem:∀ c∈d.aa,c∈t.1.aa
theorem zh:∀ (n:Nat) (d:Dag) (l:List Cert),lr d l->l.length<n->AgK d l (iC n d l)
 | 0,d,l,h,hn=>oM
 | n+1,d,l,h,hn=>by
   obtain ⟨h1,h2,h3,h4,h5,h6⟩:=Vt h;have hr:=h.room;unfold iC;split
   ·rename_i bB;have hf:lr (bd d l).1 (bd d l).2:=⟨h1,oM,λc hc=>by rw [h2];exact h.late c (h5.subset hc)⟩;have ih:=zh n _ _ hf oM;exact ⟨ih.valid,ih.nodes.trans h2,ih.low.trans h3,fS ih.len h4,ih.sub.trans h5,λc hc=>ih.mem c (h6 c hc)⟩
   ·rename_i rl;exact ⟨h1,h2,h3,by show (bd d l).1.aa.length+l.length<=_;omega,zeW _,h6⟩
theorem qp {d:Dag} {l:List Cert} (h:lr d l):AgK d l (cT d l):=zh _ d l h (Nt _)
def Prim.gh (p:Prim):Prop:=p.aK.ae=0/\p.aK.sigs=[]
structure yr (p x:Prim):Prop where
 may:ec x
 round:p.round<=x.round
 said:p.said<=x.said
 id:x.id=p.id
 nodes:x.nodes=p.nodes
 aA:∀ v∈p.aA,v∈x.aA
 aa:∀ c∈p.aq.aa,c∈x.aq.aa
 gh:p.gh->x.gh
 room:x.aq.aa.length+x.late.length<=p.aq.aa.length+p.late.length+1
 amJ:x.aA.length<=p.aA.length+1
theorem mC {p:Prim} (h:ec p):yr p p:=⟨h,G8 _,G8 _,rfl,rfl,λ_ h=>h,λ_ h=>h,id,oM,oM⟩
theorem Vu {n:Int} {l:List Cert} (h:ng n l) {c:Cert} (hc:bM n c):ng n (bN l c):=by
 refine ⟨?_,jU h.Dh c,λx hx=>?_⟩
 ·have hl:=h.len;unfold bN;split
  ·rename_i hh;simp;omega
  ·exact hl
 ·rcases Qt hx with rfl|hx
  ·exact hc
  ·exact h.aa x hx
theorem O2 {p:Prim} (h:ec p) (hr:p.aq.aa.length+p.late.length<60000) {c:Cert} (hc:bM p.nodes c):yr p (mB p c):=by
 unfold mB;split
 ·rename_i h0;have hf:lr (gH p.aq c) p.late:=⟨na h.aq (by rw [h.same];exact hc) oM,by have:=o9 p.aq c;omega,λx hx=>by rw [kK,h.same];exact ⟨h.late.aa x hx,dG h.fl (h.late.aa x hx)⟩⟩;have ha:=qp hf;have fT:=o9 p.aq c;refine ⟨⟨h.fl,h.id,h.round,h.iq,h.said,⟨h.aK.none,h.aK.dD,h.aK.head,h.aK.af,h.aK.round,h.aK.aL,h.aK.less⟩,h.aA,ha.valid,?_,?_⟩,G8 _,G8 _,rfl,rfl,λ_ h=>h,λx hx=>ha.mem x (JE hx),id,?_,Nat.le_succ _⟩
  ·show (cT (gH p.aq c) p.late).1.nodes=p.nodes;rw [ha.nodes,kK,h.same]
  ·exact ⟨fS ha.sub.length_le h.late.len,zeS ha.sub h.late.Dh,λx hx=>h.late.aa x (ha.sub.subset hx)⟩
  ·show (cT (gH p.aq c) p.late).1.aa.length+(cT (gH p.aq c) p.late).2.length<=_;have:=ha.len;omega
 ·split
  ·refine ⟨⟨h.fl,h.id,h.round,h.iq,h.said,⟨h.aK.none,h.aK.dD,h.aK.head,h.aK.af,h.aK.round,h.aK.aL,h.aK.less⟩,h.aA,h.aq,h.same,Vu h.late hc⟩,G8 _,G8 _,rfl,rfl,λ_ h=>h,λ_ h=>h,id,?_,Nat.le_succ _⟩;show p.aq.aa.length+(bN p.late c).length<=_;have:=o_ p.late c;omega
  ·exact mC h
theorem J4 {l:List bb} {v x:bb} (h:x∈l):x∈jX l v:=by
 unfold jX;split
 ·unfold B1;rw [<-KG (cI l v.round v.af) l] at h;rcases gA.1 h with h|h
  ·exact gA.2 (.inl h)
  ·exact gA.2 (.inr (xg _ h))
 ·exact h
theorem Vv {l:List bb} {v x:bb} (h:x∈jX l v):x=v∨x∈l:=by
 unfold jX at h;split at h
 ·unfold B1 at h;rcases gA.1 h with h|h
  ·exact .inr (Fc h)
  ·rcases jy.1 h with h|h
   ·exact .inl h
   ·exact .inr (G5 h)
 ·exact .inr h
theorem J5 (l:List bb) (v:bb):(jX l v).length<=l.length+1:=by
 unfold jX;split
 ·unfold B1;simp;omega
 ·omega
theorem O3 {l:List bb} {v:bb} (h:bX l v=0):Hg l v.round v.af=none/\l.length≠65536:=by
 unfold bX at h
 cases ij:Hg l v.round v.af with
 | some y =>
   rw [ij] at h;simp only at h;split at h
   ·exact absurd h dC
   ·exact absurd h dC
 | none =>
   rw [ij] at h;simp only at h;split at h
   ·exact absurd h dC
   ·rename_i ef;exact ⟨rfl,ef⟩
theorem Vw {l:List bb} {r a:Int} (h:Hg l r a=none):∀ v∈l,¬(v.round=r/\v.af=a):=by
 unfold Hg at h;rw [ZH] at h;intro v hv;have:=h v hv;simpa using this
theorem O4 {l:List bb} (h:cW l) {v:bb} (hv:h_ v):cW (jX l v):=by
 refine ⟨?_,λx hx=>?_,?_⟩
 ·unfold jX;split
  ·rename_i h0;have:=(O3 h0).2;have:=h.len;unfold B1;simp;omega
  ·exact h.len
 ·rcases Vv hx with rfl|hx
  ·exact hv
  ·exact h.aA x hx
 ·unfold jX;split
  ·rename_i h0;have fu:=Vw (O3 h0).1;have hs:=h.sorted;unfold B1 jW;have gK:=hs;rw [jW,<-KG (cI l v.round v.af) l,Hi] at gK;have h1:∀ y∈l.take (cI l v.round v.af),y.before v.round v.af=true:=by
    intro y hy;obtain ⟨j,hj⟩:=Ds hy;rw [nX] at hj;split at hj
    ·rename_i bB;exact (nc hs hj).2 bB
    ·cases hj
   rw [Hi];refine ⟨gK.1,Sb.2 ⟨λy hy=>?_,gK.2.1⟩,λa ha y hy=>?_⟩
   ·obtain ⟨j,hj⟩:=Ds hy;rw [Dt] at hj;have h2:=nc (r:=v.round) (a:=v.af) hs hj;have h3:=fu y (fU hj);have h4:¬y.before v.round v.af=true:=λh=>by have:=h2.1 h;omega
    rw [cQ] at h4 ⊢;omega
   ·rcases jy.1 hy with rfl|hy
    ·exact h1 a ha
    ·exact gK.2.2 a ha y hy
  ·exact h.sorted
theorem MM {p:Prim} (h:ec p) {v:bb} (hv:h_ v):yr p { p with aA:=jX p.aA v } :=
 ⟨⟨h.fl,h.id,h.round,h.iq,h.said,⟨h.aK.none,h.aK.dD,h.aK.head,h.aK.af,h.aK.round,h.aK.aL,h.aK.less⟩,O4 h.aA hv,h.aq,h.same,h.late⟩,G8 _,G8 _,rfl,rfl,λ_ hx=>J4 hx,λ_ h=>h,id,by show p.aq.aa.length+p.late.length<=_;omega,J5 ..⟩
theorem MN {p:Prim} (h:ec p) {m:aW} (hm:aX p.nodes m) (hk:m.kind=4) (held:List Int):yr p (eC p m held):=by
 have hh:=(hm.ok.head hk).1;have kx:=gQ h.fl;have Eo:=hh.af;have hd:=hm.ok.dD oM;unfold eC;split
 ·exact mC h
 ·split
  ·exact mC h
  ·split
   ·exact MM h ⟨hh.round,⟨Eo.1,by show m.head.af<=16;omega⟩,hd⟩
   ·exact mC h
theorem B8 {p q:Prim} (h:ec p) (hr:p.aq.aa.length+p.late.length<60000) (hq:q={ p with aK:=q.aK,dD:=q.dD,aL:=q.aL,aA:=q.aA,said:=q.said }) (hv:cW q.aA) (kQ:∀ v∈p.aA,v∈q.aA) (CX:q.aA.length<=p.aA.length+1) (Xj:p.said<=q.said/\q.said<=p.round)
  (YT:p.gh->q.gh) (fu:eJ q=false->nf q) (zF:eJ q=true->bM p.nodes (dN q)):yr p (jV q):=by
 have e1:q.id=p.id:=by rw [hq]
 have e2:q.nodes=p.nodes:=by rw [hq]
 have e3:q.round=p.round:=by rw [hq]
 have e4:q.iq=p.iq:=by rw [hq]
 have e5:q.aq=p.aq:=by rw [hq]
 have e6:q.late=p.late:=by rw [hq]
 have hb:=h.said;unfold jV
 cases hd:eJ q with
 | false =>
   rw [aR dC];exact ⟨⟨by rw [e2];exact h.fl,by rw [e1,e2];exact h.id,by rw [e3];exact h.round,by rw [e4];exact h.iq,by rw [e3];omega,fu hd,hv,by rw [e5];exact h.aq,by rw [e5,e2];exact h.same,by rw [e2,e6];exact h.late⟩,by rw [e3];exact G8 _,Xj.1,e1,e2,kQ,λc hc=>by rw [e5];exact hc,YT,by rw [e5,e6];omega,CX⟩
 | true =>
   rw [bp rfl];have hc:ec (dQ q):=⟨by show jA q.nodes=true;rw [e2];exact h.fl,by show 1<=q.id/\q.id<=q.nodes;rw [e1,e2];exact h.id,by show 1<=q.round/\q.round<=_;rw [e3];exact h.round,by show 0<=q.iq/\q.iq<=_;rw [e4];exact h.iq,by show 0<=q.said/\q.said<=q.round;rw [e3];omega,⟨λ_=>⟨rfl,rfl,rfl,rfl,rfl⟩,λh=>absurd rfl h,λh=>absurd rfl h,λh=>absurd rfl h,λh=>absurd rfl h,λh=>absurd rfl h,λh=>absurd rfl h⟩,hv,by show Valid q.aq;rw [e5];exact h.aq,by show q.aq.nodes=q.nodes;rw [e5,e2];exact h.same,by show ng q.nodes q.late;rw [e2,e6];exact h.late⟩;have hg:=O2 hc (by show q.aq.aa.length+q.late.length<_;rw [e5,e6];exact hr) (c:=dN q) (by show bM q.nodes _;rw [e2];exact zF hd);have g1:q.round<=(mB (dQ q) (dN q)).round:=hg.round;have g2:q.said<=(mB (dQ q) (dN q)).said:=hg.said;have g3:(mB (dQ q) (dN q)).id=q.id:=hg.id;have g4:(mB (dQ q) (dN q)).nodes=q.nodes:=hg.nodes;have g5:∀ v∈q.aA,v∈(mB (dQ q) (dN q)).aA:=hg.aA;have g6:∀ c∈q.aq.aa,c∈(mB (dQ q) (dN q)).aq.aa:=hg.aa;have g7:(mB (dQ q) (dN q)).gh:=hg.gh ⟨rfl,rfl⟩;have g8:(mB (dQ q) (dN q)).aq.aa.length+(mB (dQ q) (dN q)).late.length<=q.aq.aa.length+q.late.length+1:=hg.room;have g9:(mB (dQ q) (dN q)).aA=q.aA:=by unfold mB;split;rfl;split;rfl;rfl
   exact ⟨hg.may,oM,oM,by rw [g3,e1],by rw [g4,e2],λv hv=>g5 v (kQ v hv),λc hc=>g6 c (by rw [e5];exact hc),λ_=>g7,by rw [e5,e6] at g8;exact g8,by rw [g9];exact CX⟩
theorem MO {p:Prim} (h:ec p) (hr:p.aq.aa.length+p.late.length<60000) {m:aW} (hm:aX p.nodes m):yr p (rZ p m):=by
 unfold rZ;split
 ·exact mC h
 ·rename_i fu;have h0:p.dD≠0:=λe=>fu (.inl e);refine B8 h hr rfl h.aA (λ_ h=>h) (Nat.le_succ _) ⟨G8 _,h.said.2⟩ id (λhd=>?_) (λhd=>?_)
  ·simp only [eJ,Bool.not_eq_false',zeQ,jh] at hd;refine ⟨λe=>absurd e h0,λ_=>h.aK.dD h0,λ_=>h.aK.head h0,λ_=>h.aK.af h0,λ_=>h.aK.round h0,λ_=>Ey (h.aK.aL h0) hm.src,λ_=>?_⟩;rcases hd with hd|hd
   ·exact absurd hd h0
   ·exact hd
  ·have:=(qn h hr m.src hm.src h0 hd).cert;rw [show ({ p with aL:=kL p.aL m.src }:Prim).aq.nodes=p.nodes from h.same] at this;exact this
theorem sf {p:Prim} (h:ec p) (hr:p.aq.aa.length+p.late.length<60000) {m:aW} (hm:aX p.nodes m) (held:List Int):yr p (iE p m held):=by
 unfold iE;split
 ·exact MN h hm (by assumption) held
 ·split
  ·exact MO h hr hm
  ·split
   ·exact O2 h hr (hm.ok.cert (by assumption))
   ·exact mC h
theorem Vx {p:Prim} (h:ec p) (hr:p.aq.aa.length+p.late.length<60000) {c:Cert} {d:Int} (hp:lv p c d) (hs:sd p c):yr p (GH p c d):=by
 have kx:=gQ h.fl;have Lu:=h.id;have ga:=h.round;have alg:p.said<p.round:=by
  have:=hs.ready;unfold jd at this;simp only [oB,jh] at this;exact this.1
 have hv:h_ ⟨c.round,p.id,d⟩:=⟨hp.head.round,⟨Lu.1,by show p.id<=16;omega⟩,hp.dD⟩;refine B8 (q:=dp p c d) h hr rfl (O4 h.aA hv) (λ_ hx=>J4 hx) (J5 ..) ⟨by show p.said<=p.round;omega,by show p.round<=p.round;omega⟩ (λ_=>⟨rfl,rfl⟩) (λhd=>?_) (λhd=>?_)
 ·simp only [eJ,Bool.not_eq_false',zeQ,jh] at hd;have hd0:(dp p c d).dD≠0:=by show d≠0;have:=hp.dD;omega
  refine ⟨λe=>absurd e hd0,λ_=>hp.dD,λ_=>?_,λ_=>hp.af,λ_=>hs.round,λ_=>⟨zeL ..,λx hx=>by have:=Hj.1 hx;subst this;exact Lu⟩,λ_=>?_⟩
  ·exact ⟨hp.head.fl,hp.head.af,hp.head.round,hp.head.aE,hp.head.ao,hp.head.one,hp.head.many⟩
  ·rcases hd with hd|hd
   ·exact absurd hd hd0
   ·exact hd
 ·have:=(dz h hr hp.head hp.dD hd).cert;rw [show (dp p c d).aq.nodes=p.nodes from h.same] at this;exact this
theorem wR:i64 0:=⟨dC,dC⟩
theorem B9 {p:Prim} (h:ec p) (g:p.gh):p.ok:=by
 have kx:=gQ h.fl;have ha:=h.aL.2;have hv:=h.aA.len;have hl:=h.late.len;refine ⟨?_,by rw [g.2];exact br _,fO 65536 ha,fO 65536 hv,h.aq.dok,fO 256 hl,λc hc=>Er h.fl (h.late.aa c hc)⟩;by_cases h0:p.dD=0
 ·obtain ⟨e1,e2,e3,e4,_⟩:=h.aK.none h0;refine ⟨by rw [e1];exact wR,by rw [e2];exact wR,⟨by rw [e3];exact fc,by rw [e3];simp⟩,⟨by rw [e4];exact fc,by rw [e4];simp⟩,by rw [g.1];exact wR,⟨by rw [g.2];exact fc,by rw [g.2];simp⟩⟩
 ·have hh:=h.aK.head h0;have h1:=hh.af;have h2:=hh.round;have h3:=hh.aE;have h4:=hh.ao;exact ⟨lL oM,lL oM,⟨fO 8 oM,λx hx=>lL (by have:=h3.2.2 x hx;omega)⟩,⟨fO 16 oM,λx hx=>lL (by have:=h4.2.2 x hx;omega)⟩,by rw [g.1];exact wR,⟨by rw [g.2];exact fc,by rw [g.2];simp⟩⟩
structure iD.okk (s:iD):Prop where
 oks:s.oks
 ints:∀ a∈s.il,i64 a.d/\i64 a.Hf
 gh:s.p.gh
 hg:∀ a∈s.il,a.m.head.sigs=[]
theorem QU:DM prog 106 [true,true,true]=true:=kR
end Go.Proofs.YtolkmjfkkkiboaaGreat
namespace Go.Proofs.YtolkmjfkkkiboaaGreat
open Go.Ab Go.RowKit Tryz
theorem yu (k:Nat) {ds:List DV} (h:tW tt (k+3) 24 ds):∃ c:Cert,ds=[.j c.af,.j c.round,.sl 1 (nums c.aE),.sl 1 (nums c.ao)]/\c.ok/\c.ae=0/\c.sigs=[]:=by
 obtain ⟨c,h1,h2⟩:=Es k h;exact ⟨⟨c.af,c.round,c.aE,c.ao,0,[]⟩,h1,⟨h2.af,h2.round,h2.aE,h2.ao,⟨by show (-9223372036854775808:Int)<=0;decide,by show (0:Int)<9223372036854775808;decide⟩,⟨br _,λn h=>(by cases h)⟩⟩,rfl,rfl⟩
theorem Vy {a:List DV} (h:tW tt 3 43 a):∃ l:List Tx,a=[.sl 4 (dr l)]/\aU l/\∀ t∈l,t.ok:=by
 replace h:∃ xs,a=[.sl 4 xs]/\xs.length * 48<=140737488355328/\∀ x∈xs,tW tt 2 180 x:=h;obtain ⟨x3,rfl,w3,e3⟩:=h;obtain ⟨l,rfl,hl⟩:=x9 (f:=Tx.cs) (ok:=Tx.ok) (xs:=x3) λx hx=>by
  have h:=e3 x hx;replace h:x8 (tW tt 1) [3,3,9,9] x:=h;obtain ⟨a1,b1,rfl,h1,a2,b2,rfl,h2,a3,b3,rfl,h3,a4,b4,rfl,h4,rfl⟩:=h;replace h1:∃ x,a1=[.j x]/\(Lit.j x).wf=true:=h1;replace h2:∃ x,a2=[.j x]/\(Lit.j x).wf=true:=h2;replace h3:∃ s,a3=[.str s]/\s.size<=140737488355328:=h3;replace h4:∃ s,a4=[.str s]/\s.size<=140737488355328:=h4;obtain ⟨x1,rfl,w1⟩:=h1;obtain ⟨x2,rfl,w2⟩:=h2;obtain ⟨x3,rfl,w3⟩:=h3;obtain ⟨x4,rfl,w4⟩:=h4;exact ⟨⟨x1,x2,x3,x4⟩,rfl,⟨w3,w4⟩⟩
 simp only [tg] at w3;exact ⟨l,rfl,by unfold aU;omega,hl⟩
theorem Vz {ds:List DV} (h:tW tt 5 49 ds):∃ m:aW,ds=m.cs/\m.ok/\(∀ t∈m.dX,t.ok)/\m.head.sigs=[]:=by
 replace h:x8 (tW tt 4) [3,3,3,3,45,24,47,22] ds:=h;obtain ⟨a1,b1,rfl,h1,a2,b2,rfl,h2,a3,b3,rfl,h3,a4,b4,rfl,h4,a5,b5,rfl,h5,a6,b6,rfl,h6,a7,b7,rfl,h7,a8,b8,rfl,h8,rfl⟩:=h;replace h1:∃ x,a1=[.j x]/\(Lit.j x).wf=true:=h1;replace h2:∃ x,a2=[.j x]/\(Lit.j x).wf=true:=h2;replace h3:∃ x,a3=[.j x]/\(Lit.j x).wf=true:=h3;replace h4:∃ x,a4=[.j x]/\(Lit.j x).wf=true:=h4;replace h5:x8 (tW tt 3) [3,3,43] a5:=h5;obtain ⟨c1,d1,rfl,k1,c2,d2,rfl,k2,c3,d3,rfl,k3,rfl⟩:=h5;replace k1:∃ x,c1=[.j x]/\(Lit.j x).wf=true:=k1;replace k2:∃ x,c2=[.j x]/\(Lit.j x).wf=true:=k2;obtain ⟨x1,rfl,w1⟩:=h1;obtain ⟨x2,rfl,w2⟩:=h2;obtain ⟨x3,rfl,w3⟩:=h3;obtain ⟨x4,rfl,w4⟩:=h4;obtain ⟨y1,rfl,v1⟩:=k1;obtain ⟨y2,rfl,v2⟩:=k2;obtain ⟨dX,rfl,htx,CV⟩:=Vy k3;obtain ⟨hd,rfl,hh,hd0,ui⟩:=yu 1 h6;obtain ⟨c,rfl,hc⟩:=Et 0 h7;obtain ⟨l8,rfl,f8,e8⟩:=pa h8;exact ⟨⟨x1,x2,x3,x4,y1,y2,dX,hd,c,l8⟩,rfl,⟨htx,hh,hc,f8⟩,CV,ui⟩
theorem VA {ds:List DV} (h:tW tt 6 51 ds):∃ a:Act,ds=a.cs/\a.ok/\(∀ t∈a.m.dX,t.ok)/\a.m.head.sigs=[]/\aU a.l/\i64 a.d/\i64 a.Hf:=by
 replace h:x8 (tW tt 5) [3,3,24,49,4,22] ds:=h;obtain ⟨a1,b1,rfl,h1,a2,b2,rfl,h2,a3,b3,rfl,h3,a4,b4,rfl,h4,a5,b5,rfl,h5,a6,b6,rfl,h6,rfl⟩:=h;replace h1:∃ x,a1=[.j x]/\(Lit.j x).wf=true:=h1;replace h2:∃ x,a2=[.j x]/\(Lit.j x).wf=true:=h2;replace h5:∃ b,a5=[.bool b]:=h5;obtain ⟨x1,rfl,w1⟩:=h1;obtain ⟨x2,rfl,w2⟩:=h2;obtain ⟨hd,rfl,hh,-,-⟩:=yu 2 h3;obtain ⟨m,rfl,hm,htx,YT⟩:=Vz h4;obtain ⟨b,rfl⟩:=h5;obtain ⟨l6,rfl,f6,e6⟩:=pa h6;exact ⟨⟨x1,x2,hd,m,b,l6⟩,rfl,⟨hh,hm⟩,htx,YT,f6,nb w2,nb w1⟩
theorem QV {a:List DV} (h:tW tt 7 31 a):∃ l:List Act,a=[.sl 26 (qB l)]/\aU l/\∀ a∈l,a.ok/\(∀ t∈a.m.dX,t.ok)/\a.m.head.sigs=[]/\aU a.l/\i64 a.d/\i64 a.Hf:=by
 replace h:∃ xs,a=[.sl 26 xs]/\xs.length * 368<=140737488355328/\∀ x∈xs,tW tt 6 51 x:=h;obtain ⟨x3,rfl,w3,e3⟩:=h;obtain ⟨l,rfl,hl⟩:=x9 (f:=Act.cs) (ok:=λa:Act=>a.ok/\(∀ t∈a.m.dX,t.ok)/\a.m.head.sigs=[]/\aU a.l/\i64 a.d/\i64 a.Hf) λx hx=>VA (e3 x hx);simp only [tg] at w3;exact ⟨l,rfl,by unfold aU;omega,hl⟩
theorem YU {ds:List DV} (h:tW tt 8 33 ds):∃ s:iD,XQ ds=s.av/\s.okk:=by
 replace h:x8 (tW tt 7) [30,31] ds:=h;obtain ⟨p,b0,rfl,hp,q,b1,rfl,hq,rfl⟩:=h;obtain ⟨il,rfl,fa,ea⟩:=QV hq;replace hp:x8 (tW tt 6) [3,3,3,3,3,24,3,22,25,28,26] p:=hp;obtain ⟨a1,b1,rfl,h1,a2,b2,rfl,h2,a3,b3,rfl,h3,a4,b4,rfl,h4,a5,b5,rfl,h5,a6,b6,rfl,h6,a7,b7,rfl,h7,a8,b8,rfl,h8,a9,b9,rfl,h9,c1,d1,rfl,k1,c2,d2,rfl,k2,rfl⟩:=hp;replace h1:∃ x,a1=[.j x]/\(Lit.j x).wf=true:=h1;replace h2:∃ x,a2=[.j x]/\(Lit.j x).wf=true:=h2;replace h3:∃ x,a3=[.j x]/\(Lit.j x).wf=true:=h3;replace h4:∃ x,a4=[.j x]/\(Lit.j x).wf=true:=h4;replace h5:∃ x,a5=[.j x]/\(Lit.j x).wf=true:=h5;replace h7:∃ x,a7=[.j x]/\(Lit.j x).wf=true:=h7;obtain ⟨x1,rfl,w1⟩:=h1;obtain ⟨x2,rfl,w2⟩:=h2;obtain ⟨x3,rfl,w3⟩:=h3;obtain ⟨x4,rfl,w4⟩:=h4;obtain ⟨x5,rfl,w5⟩:=h5;obtain ⟨hd,rfl,hh,hd0,ui⟩:=yu 3 h6;obtain ⟨x7,rfl,w7⟩:=h7;obtain ⟨l8,rfl,f8,e8⟩:=pa h8;obtain ⟨l9,rfl,f9⟩:=Mv h9;obtain ⟨d,rfl,hdg⟩:=Vb k1;obtain ⟨lt,rfl,Ho,elt⟩:=BZ 1 k2;exact ⟨⟨⟨x1,x2,x3,x4,x5,hd,x7,l8,l9,d,lt⟩,il⟩,rfl,⟨⟨⟨hh,f8,f9,hdg,⟨Ho,elt⟩,⟨fa,λa h=>(ea a h).1⟩⟩,λa h=>(ea a h).2.1,λa h=>(ea a h).2.2.2.1⟩,λa h=>(ea a h).2.2.2.2,⟨hd0,ui⟩,λa h=>(ea a h).2.2.1⟩⟩
end Go.Proofs.YtolkmjfkkkiboaaGreat
