/- PrimaryExact: contracts. -/
import Derived.Test.YtolkmjfkkkiboaaGreatPrimaryExactCodV
set_option linter.all false
set_option maxHeartbeats 32000000
set_option maxRecDepth 100000
namespace Go.Proofs.YtolkmjfkkkiboaaGreat
open Go.Ab Go.RowKit Go.MapKept Tryz
attribute [local irreducible] ay AW cw eA eo bL
structure Fits (N:Nat) (p:Prim):Prop where
 ok:p.ok
 aJ:p.aJ
 fit:p.iF
 Wt:p.aK.iF
 gh:p.gh
 len:p.aq.aa.length+p.late.length<=N
theorem yr.fits {N:Nat} {p q:Prim} (h:yr p q) (hp:Fits N p):Fits (N+1) q:=by
 have hg:=h.gh hp.gh;have hf:=w6 h.may;have bw:=B9 h.may hg;exact ⟨bw,h.may.aJ bw.sigs,hf,⟨hf.aE,hf.ao,by rw [hg.2];exact br _⟩,hg,by have:=h.room;have:=hp.len;omega⟩
def Prim.acl (p:Prim) (i:Nat):List AV:=[.k p.id,.k p.nodes,.k p.round,.k p.iq,.k p.said,.k p.aK.af,.k p.aK.round,.isl i (.sl 1 (nums p.aK.aE)),.isl i (.sl 1 (nums p.aK.ao)),.k p.dD,.isl i (.sl 1 (nums p.aL)),.isl i (.sl 3 (ax p.aA)),.k p.aq.nodes,.k p.aq.low,.isl i (.sl 6 (ah p.aq.aa)),.isl i (.sl 6 (ah p.late))]
structure SG where
 q:Prim
 o:List aW
 lo:Nat
 n:Nat
 ok:zp
structure SB where
 e:Int
 lo:Nat
 n:Nat
 ok:zp
structure Zx (N:Nat) (s:SG):Prop where
 fits:Fits (N+1) s.q
 ok:∀ m xs,s.ok.reads (.sl m xs)=true
 nice:∀ x∈s.o,x.nice
 len:s.o.length<=100000
structure KC (s:SB):Prop where
 err:s.e≠0
 ok:∀ m xs,s.ok.reads (.sl m xs)=true
def Zy (p:Prim) (s:SG):AF×List AB:=([(2,.ptr 0 0),(4,.ptr 1 0),(6,.ptr 2 0),(8,.ptr 3 0),(9,.k 0),(10,.ptr 4 0),(11,.isl 5 (.sl 18 (bZ s.o))),(12,.k 0)],[.cells (p.cs.map AV.d),.cells gM,.cells (p.cs.map AV.d),.cells (s.q.cs.map AV.d++[.arr 6]),.cells (s.q.acl 5),.aN s.lo s.n s.ok,.row 49 18 (bZ s.o) false])
def Np (p:Prim) (s:SB):AF×List AB:=([(2,.ptr 0 0),(4,.ptr 1 0),(6,.ptr 2 0),(9,.k s.e),(10,.ptr 3 0),(11,.isl 4 (.sl 18 [])),(12,.k s.e)],[.cells (p.cs.map AV.d),.cells gM,.cells (p.cs.map AV.d),.cells (zP.acl 4),.aN s.lo s.n s.ok])
def adD (p:Prim) (s:SG):AF×List AB:=([(2,.ptr 0 0),(4,.ptr 1 0),(6,.ptr 2 0),(8,.ptr 3 0),(9,.k 0),(10,.ptr 4 0),(11,.arr 5),(12,.k 0)],[.cells (p.cs.map AV.d),.cells gM,.cells (p.cs.map AV.d),.cells (s.q.cs.map AV.d++[.arr 6]),.cells (s.q.acl 7),.row 49 18 [] false,.row 49 18 [] false,.aN s.lo s.n s.ok])
def Zz (p:Prim) (s:SB):AF×List AB:=([(2,.ptr 0 0),(4,.ptr 1 0),(6,.ptr 2 0),(9,.k s.e),(10,.ptr 3 0),(11,.arr 4),(12,.k s.e)],[.cells (p.cs.map AV.d),.cells gM,.cells (p.cs.map AV.d),.cells (zP.acl 5),.row 49 18 [] false,.aN s.lo s.n s.ok])
theorem Pr {N:Nat} (p:Prim) (h:Fits N p) (lo n:Nat) (ok:zp) (hk:∀ m xs,ok.reads (.sl m xs)=true) :
  zA 45 [p.ai 0,p.av] [.aN lo n ok] (pQ (.d (.bool true)) [.aN lo n ok]) :=
 bS (cG _) ⟨_,_,rfl,O_ rfl hk p,_,_,rfl,Zb p,rfl⟩ (sn p h.ok ⟨by have:=h.fit.aq.1;unfold aU;omega,λc hc=>eD (h.fit.aq.2 c hc)⟩ ⟨by have:=h.fit.late.1;unfold aU;omega,λc hc=>eD (h.fit.late.2 c hc)⟩ (by have:=h.fit.aA;unfold aU;omega) (by have:=h.fit.aL;unfold aU;omega) ⟨by have:=h.fit.aE;unfold aU;omega,by have:=h.fit.ao;unfold aU;omega⟩)
theorem KD (lo n:Nat) (ok:zp) (hk:∀ m xs,ok.reads (.sl m xs)=true):zA 45 [zP.ai 0,.agg (ajD 0)] (.aN lo n ok :: aaL) (λav L=>av = .d (.bool true)/\L = .aN lo n ok :: aaL) :=
 bS (cG _) ⟨_,_,rfl,O_ rfl hk zP,_,_,rfl,.inr ⟨_,_,rfl,rfl,aw (fe _) (aw (fe _) (aw (fe _) (aw (fe _) (aw (fe _) (aw (fe _) (aw (fe _) (aw (sq rfl) (aw (sq rfl) (aw (fe _) (aw (sq rfl) (aw (sq rfl) (aw (fe _) (aw (fe _) (aw (sq rfl) (aw (sq rfl) nT)))))))))))))))⟩,rfl⟩ (sn zP agF ⟨br _,λ_ h=>by cases h⟩ ⟨br _,λ_ h=>by cases h⟩ (br _) (br _) ⟨br _,br _⟩)
theorem Ps (l:List aW) (hl:l.length<=100000) (h:∀ m∈l,m.nice) (lo n:Nat) (ok:zp) (hk:∀ m xs,ok.reads (.sl m xs)=true):zA 61 [.isl 0 (.sl 18 (bZ l)),.arr 1] [.aN lo n ok,.row 49 18 (bZ l) false]
  (pQ (.d (.bool true)) [.aN lo n ok,.row 49 18 (bZ l) false]) :=
 bS (cG _) ⟨_,_,rfl,.inl (so rfl _ (hk _ _)),_,_,rfl,.inl (.inr (.inl ⟨1,_,_,_,_,rfl,rfl,rfl⟩)),rfl⟩ (zj l (by unfold aU;omega) λm hm=>⟨(h m hm).cY,(h m hm).dX⟩)
structure Boxed (K:Prop):Prop where
 out:K
theorem ZA {K G:Prop} (main:Boxed K->G) (tail:K):G:=main ⟨tail⟩
theorem ZB {K1 K2 K3 K4 G:Prop} (main:Boxed K1->Boxed K2->Boxed K3->Boxed K4->G) (t1:K1) (t2:K2) (t3:K3) (t4:K4):G:=main ⟨t1⟩ ⟨t2⟩ ⟨t3⟩ ⟨t4⟩
theorem RD {N:Nat} {p:Prim} {low:Int} (h:Fits N p) (hr:p.aq.aa.length+p.late.length<60000) (hC:lz p low):Fits (N+1) (fP p low):=by
 obtain ⟨q1,q2,q3,q4⟩:=adC h.ok h.fit h.aJ hr hC;have MT:=xc hC h.aJ.late.2 hr;exact ⟨q1,E_ h.aJ hr MT,q2,h.Wt,h.gh,by have:=CA MT;have:=h.len;omega⟩
open Classical in
theorem KE (N:Nat) (p:Prim) (hF:Fits N p) (hN:N<=1000) (a:Act) (hdo:i64 a.Hf) (had:i64 a.d) (Mz:a.l.length<=1000) (hah:a.h.aE.length<=200000/\a.h.ao.length<=200000) (has:a.m.small) :
  zA 19 [p.av,.agg (a.cs.map AV.d)] [] (λav L=>(∃ q:Prim,av = .tup [q.av,.d (.bool true)]/\Fits (N+1) q)/\L=[]):=by
 have bw:=hF.ok;have ht:=hF.aJ;have hf:=hF.fit;have hg:=hF.gh;have hlen:=hF.len;have hlf:aU a.l:=by unfold aU;omega
 have h1:=dH p ht;have h2:=yq p bw;have h4:=dZ a.l (by unfold aJ;omega);have tx:aU p.aq.aa/\∀ c∈p.aq.aa,gr c:=⟨by have:=hf.aq.1;unfold aU;omega,λc hc=>eD (hf.aq.2 c hc)⟩;have qx:aU p.late/\∀ c∈p.late,gr c:=⟨by have:=hf.late.1;unfold aU;omega,λc hc=>eD (hf.late.2 c hc)⟩;have hv:aU p.aA:=by have:=hf.aA;unfold aU;omega
 have ha:aU p.aL:=by have:=hf.aL;unfold aU;omega
 have Hy:aU p.aK.aE/\aU p.aK.ao:=⟨by have:=hf.aE;unfold aU;omega,by have:=hf.ao;unfold aU;omega⟩;have h6:=sn p bw tx qx hv ha Hy;have h5:=QQ p bw oM a.l hlf;have h7:=cC a.l a.l hlf;rw [cz rfl] at h7;have hr:p.aq.aa.length+p.late.length<60000:=oM;have C0:Fits (N+1) p:=⟨bw,ht,hf,hF.Wt,hg,Nat.le_succ_of_le hlen⟩;have tk:=Zd p bw oM a has had;have hw3:=sP a.Hf 10 dC dC hdo;have hd3:a.Hf % 18446744073709551616 % 10=8∨a.Hf % 18446744073709551616 % 10=9∨(a.Hf % 18446744073709551616 % 10=4∨a.Hf % 18446744073709551616 % 10=5∨a.Hf % 18446744073709551616 % 10=6∨a.Hf % 18446744073709551616 % 10=7)∨(a.Hf % 18446744073709551616 % 10=1∨a.Hf % 18446744073709551616 % 10=2∨a.Hf % 18446744073709551616 % 10=3∨a.Hf % 18446744073709551616 % 10=0):=oM;apply ZB
 case main =>
  intro adE Wu ake adF;have h3:=hw3;have Oi:=hd3;obtain ⟨dd,RP⟩:∃ dd,a.Hf % 18446744073709551616 % 10=dd:=⟨_,rfl⟩;rw [RP] at h3 Oi;clear RP;obtain ⟨b,hb⟩:∃ b,decide (ec p)=b:=⟨_,rfl⟩;refine uF aF bf aG 8 func19 rfl ntmps19 rfl false rfl ?_
  conv=>whnf
  refine aQ h1 ?_;refine h2.mono ?_;rintro _ _ ⟨rfl,rfl⟩;rw [hb];refine rdv ?_;refine h3.mono ?_;rintro _ _ ⟨rfl,rfl⟩;rcases Oi with rfl|rfl|Oi|Oi
  ·refine rdv ?_;refine aZ (x6 (bH aF bf aG ?_))
   conv=>whnf
   refine ⟨rfl,?_⟩;refine v_ (aZ (bH aF bf aG ?_));refine rdv ?_;refine sM ?_
   conv=>whnf
   have IV:=VV p bw hF.Wt hf.aq.2;refine bH aF bf aG ?_
   conv=>whnf
   cases b with
   | false =>
     have k1:¬ec p:=Wz hb
     (refine eF ?_)
     refine IV.mono ?_;rintro _ _ ⟨⟨k,_⟩|⟨_,rfl⟩,lo,n,rfl⟩
     ·exact absurd k k1
     ·refine rdv ?_;refine fq (σ:=Unit) (λ_=>Np p ⟨1,lo,n,true⟩) (λ_=>True) [2,4,6,9,10,11,12] ?_ (λ_ _=>(Wu.out:∀ s:SB,KC s->AW _ _ _ _ _ (Np p s).1 (Np p s).2) ⟨1,lo,n,true⟩ ⟨(by decide:(1:Int)≠0),λ_ _=>rfl⟩)
      focus (conv=>whnf
             exact ⟨(),rfl,rfl,trivial⟩)
   | true =>
     have k1:ec p:=gQ hb;have CV:=Q7 p k1 ht
     (refine eF ?_)
     refine aQ CV ?_;refine IV.mono ?_;rintro _ _ ⟨⟨_,rfl⟩|⟨k,_⟩,lo,n,rfl⟩
     rotate_left
     ·exact absurd k1 k
     refine rdv ?_;refine fq (σ:=Unit) (λ_=>Zy p ⟨gv p,gw (gv p),lo,n,true⟩) (λ_=>True) [2,4,6,8,9,10,11,12] ?_ (λ_ _=>(adE.out:∀ s:SG,Zx N s->AW _ _ _ _ _ (Zy p s).1 (Zy p s).2) ⟨gv p,gw (gv p),lo,n,true⟩ ⟨⟨Wf bw,⟨ht.aK,ht.aL,ht.aA,ht.aq,ht.late⟩,Rw hf,hF.Wt,hg,Nat.le_succ_of_le hF.len⟩,λ_ _=>rfl,Cg (q:=gv p) hF.Wt hf.aq.2,by have h9:=Q_ (gv p);rw [show (gv p).nodes=p.nodes from rfl] at h9;have:=gQ k1.fl;show (gw (gv p)).length<=_;omega⟩)
     focus (conv=>whnf
            exact ⟨(),rfl,rfl,trivial⟩)
  ·refine rdv ?_;refine aZ (x6 (bH aF bf aG ?_))
   conv=>whnf
   refine ⟨rfl,?_⟩;refine v_ (aZ (bH aF bf aG ?_));refine rdv ?_;refine sM ?_
   conv=>whnf
   have IV:=Ws p bw ht hr a.d had;refine bH aF bf aG ?_
   conv=>whnf
   cases b with
   | false =>
     have k1:¬ec p:=Wz hb;have fu:¬lz p a.d:=λh=>k1 h.may;refine rdv ?_;refine IV.mono ?_;rintro _ _ ⟨⟨k,_⟩|⟨_,rfl⟩,lo,n,rfl⟩
     ·exact absurd k fu
     ·refine rdv ?_;refine fq (σ:=Unit) (λ_=>Zz p ⟨1,lo,n,true⟩) (λ_=>True) [2,4,6,9,10,11,12] ?_ (λ_ _=>(adF.out:∀ s:SB,KC s->AW _ _ _ _ _ (Zz p s).1 (Zz p s).2) ⟨1,lo,n,true⟩ ⟨(by decide:(1:Int)≠0),λ_ _=>rfl⟩)
      focus (conv=>whnf
             exact ⟨(),rfl,rfl,trivial⟩)
   | true =>
     have k1:ec p:=gQ hb;refine rdv ?_;repeat' (apply tw<;>intro _)
     ·have k2:a.d≥p.aq.low:=aM;have k3:a.d<=1099511627776:=aM;have hC:lz p a.d:=⟨k1,k2,k3⟩;have htr:=RB p a.d hC ht hr;have Wv:=RD hF hr hC;refine aQ htr ?_;refine IV.mono ?_;rintro _ _ ⟨⟨_,rfl⟩|⟨k,_⟩,lo,n,rfl⟩
      rotate_left
      ·exact absurd hC k
      refine rdv ?_;refine fq (σ:=Unit) (λ_=>adD p ⟨fP p a.d,[],lo,n,true⟩) (λ_=>True) [2,4,6,8,9,10,11,12] ?_ (λ_ _=>(ake.out:∀ s:SG,Zx N s->AW _ _ _ _ _ (adD p s).1 (adD p s).2) ⟨fP p a.d,[],lo,n,true⟩ ⟨Wv,λ_ _=>rfl,λ_ h=>(by cases h),br _⟩)
      focus (conv=>whnf
             exact ⟨(),rfl,rfl,trivial⟩)
     ·rename_i k2 k3;replace k3:¬a.d<=1099511627776:=k3;have fu:¬lz p a.d:=λh=>k3 h.hi;refine IV.mono ?_;rintro _ _ ⟨⟨k,_⟩|⟨_,rfl⟩,lo,n,rfl⟩
      ·exact absurd k fu
      ·refine rdv ?_;refine fq (σ:=Unit) (λ_=>Zz p ⟨1,lo,n,true⟩) (λ_=>True) [2,4,6,9,10,11,12] ?_ (λ_ _=>(adF.out:∀ s:SB,KC s->AW _ _ _ _ _ (Zz p s).1 (Zz p s).2) ⟨1,lo,n,true⟩ ⟨(by decide:(1:Int)≠0),λ_ _=>rfl⟩)
       focus (conv=>whnf
              exact ⟨(),rfl,rfl,trivial⟩)
     ·have k2:¬a.d≥p.aq.low:=aM;have fu:¬lz p a.d:=λh=>k2 h.lo;refine IV.mono ?_;rintro _ _ ⟨⟨k,_⟩|⟨_,rfl⟩,lo,n,rfl⟩
      ·exact absurd k fu
      ·refine rdv ?_;refine fq (σ:=Unit) (λ_=>Zz p ⟨1,lo,n,true⟩) (λ_=>True) [2,4,6,9,10,11,12] ?_ (λ_ _=>(adF.out:∀ s:SB,KC s->AW _ _ _ _ _ (Zz p s).1 (Zz p s).2) ⟨1,lo,n,true⟩ ⟨(by decide:(1:Int)≠0),λ_ _=>rfl⟩)
       focus (conv=>whnf
              exact ⟨(),rfl,rfl,trivial⟩)
  ·rcases Oi with rfl|rfl|rfl|rfl
   all_goals
    refine rdv ?_;refine aZ (x6 (bH aF bf aG ?_))
    conv=>whnf
    refine ⟨rfl,?_⟩;refine v_ (aZ (bH aF bf aG ?_));refine rdv ?_;refine sM ?_
    conv=>whnf
    refine aZ (bH aF bf aG ?_)
    conv=>whnf
    refine sM ?_
    conv=>whnf
    refine aZ (bH aF bf aG ?_)
    conv=>whnf
    refine sM ?_
    conv=>whnf
    refine aZ (bH aF bf aG ?_);refine rdv ?_;refine tk.mono ?_;rintro _ _ ⟨⟨m,rfl,ZC,hmk⟩,rfl⟩;obtain ⟨C,e,q,o,hT⟩:=Rs p bw ht hg hr m ZC a.l hlf;obtain ⟨i_⟩:Nonempty (zA 57 [m.av] [] (λav L=>av=m.ai 0/\∃ lo n,L=[.aN lo n true])):=⟨Kr m ZC⟩;have Pt:=hT.err;refine rdv ?_;refine aZ (bH aF bf aG ?_)
    conv=>whnf
    cases b with
    | false =>
      have k1:¬ec p:=Wz hb;have hC:¬C:=λh=>k1 (hT.may h);have e1:=hT.one k1;subst e1
      (refine eF ?_)
      refine aZ (bH aF bf aG ?_);refine rdv ?_;refine i_.mono ?_;rintro _ _ ⟨rfl,lo,n,rfl⟩;refine rdv ?_;refine aZ (bH aF bf aG ?_)
      conv=>whnf
      refine cP Gd ?_;refine aQ h4 ?_;refine (hT.prog lo n).mono ?_;rintro _ _ ⟨⟨zF,_⟩|⟨_,rfl⟩,zH,n2,rfl⟩
      ·exact absurd zF hC
      refine rdv ?_;refine aZ (bH aF bf aG ?_);refine rdv ?_;refine (GV m ZC.cY lo n).mono ?_;rintro _ _ ⟨rfl,rfl⟩
      conv=>whnf
      refine Gb aF bf aG (i:=15) (lo:=lo) (m:=n) (ok:=true) (mav:=m.acs 15) rfl rfl rfl rfl rfl rfl dC rfl dC rfl dC (by (conv=>whnf);exact ⟨rfl,rfl⟩) rfl rfl rfl rfl rfl rfl rfl dC dC rfl (by (conv=>whnf);rfl) (λc E w cur jl hv=>GW m ZC rfl c E w cur jl hv) ?_;refine fq (σ:=Unit) (λ_=>Np p ⟨1,zH,n2,true⟩) (λ_=>True) [2,4,6,9,10,11,12] ?_ (λ_ _=>(Wu.out:∀ s:SB,KC s->AW _ _ _ _ _ (Np p s).1 (Np p s).2) ⟨1,zH,n2,true⟩ ⟨(by decide:(1:Int)≠0),λ_ _=>rfl⟩)
      focus (conv=>whnf
             exact ⟨(),rfl,rfl,trivial⟩)
    | true =>
      have k1:ec p:=gQ hb
      (refine eF ?_)
      refine (hT.M7 k1).mono ?_;rintro _ _ (⟨hC,rfl,j,rfl⟩|⟨hC,rfl,rfl⟩)
      ·cases j
       all_goals
        refine rdv ?_;refine aZ (bH aF bf aG ?_);refine rdv ?_;refine i_.mono ?_;rintro _ _ ⟨rfl,lo,n,rfl⟩;refine rdv ?_;refine aZ (bH aF bf aG ?_)
        conv=>whnf
        refine cP Gd ?_;refine aQ h4 ?_;refine (hT.prog lo n).mono ?_;rintro _ _ ⟨⟨_,rfl⟩|⟨fu,_⟩,zH,n2,rfl⟩
        rotate_left
        ·exact absurd hC fu
        refine rdv ?_;refine aZ (bH aF bf aG ?_);refine rdv ?_;refine (GV m ZC.cY lo n).mono ?_;rintro _ _ ⟨rfl,rfl⟩
        conv=>whnf
        first
         | refine Gb aF bf aG (i:=17) (lo:=lo) (m:=n) (ok:=true) (mav:=m.acs 17) rfl rfl rfl rfl rfl rfl dC rfl dC rfl dC (by (conv=>whnf);exact ⟨rfl,rfl⟩) rfl rfl rfl rfl rfl rfl rfl dC dC rfl (by (conv=>whnf);rfl) (λc E w cur jl hv=>GW m ZC rfl c E w cur jl hv) ?_
         | refine Gb aF bf aG (i:=18) (lo:=lo) (m:=n) (ok:=true) (mav:=m.acs 18) rfl rfl rfl rfl rfl rfl dC rfl dC rfl dC (by (conv=>whnf);exact ⟨rfl,rfl⟩) rfl rfl rfl rfl rfl rfl rfl dC dC rfl (by (conv=>whnf);rfl) (λc E w cur jl hv=>GW m ZC rfl c E w cur jl hv) ?_
        refine fq (σ:=Unit) (λ_=>Zy p ⟨q,o,zH,n2,true⟩) (λ_=>True) [2,4,6,8,9,10,11,12] ?_ (λ_ _=>(adE.out:∀ s:SG,Zx N s->AW _ _ _ _ _ (Zy p s).1 (Zy p s).2) ⟨q,o,zH,n2,true⟩ ⟨(hT.next hC).fits hF,λ_ _=>rfl,hT.nice hC,hT.len hC⟩)
        focus (conv=>whnf
               exact ⟨(),rfl,rfl,trivial⟩)
      ·refine rdv ?_;refine aZ (bH aF bf aG ?_);refine rdv ?_;refine i_.mono ?_;rintro _ _ ⟨rfl,lo,n,rfl⟩;refine rdv ?_;refine aZ (bH aF bf aG ?_)
       conv=>whnf
       refine cP Gd ?_;refine aQ h4 ?_;refine (hT.prog lo n).mono ?_;rintro _ _ ⟨⟨zF,_⟩|⟨_,rfl⟩,zH,n2,rfl⟩
       ·exact absurd zF hC
       refine rdv ?_;refine aZ (bH aF bf aG ?_);refine rdv ?_;refine (GV m ZC.cY lo n).mono ?_;rintro _ _ ⟨rfl,rfl⟩
       conv=>whnf
       refine Gb aF bf aG (i:=17) (lo:=lo) (m:=n) (ok:=true) (mav:=m.acs 17) rfl rfl rfl rfl rfl rfl dC rfl dC rfl dC (by (conv=>whnf);exact ⟨rfl,rfl⟩) rfl rfl rfl rfl rfl rfl rfl dC dC rfl (by (conv=>whnf);rfl) (λc E w cur jl hv=>GW m ZC rfl c E w cur jl hv) ?_;refine fq (σ:=Unit) (λ_=>Np p ⟨e,zH,n2,true⟩) (λ_=>True) [2,4,6,9,10,11,12] ?_ (λ_ _=>(Wu.out:∀ s:SB,KC s->AW _ _ _ _ _ (Np p s).1 (Np p s).2) ⟨e,zH,n2,true⟩ ⟨Pt,λ_ _=>rfl⟩)
       focus (conv=>whnf
              exact ⟨(),rfl,rfl,trivial⟩)
  ·rcases Oi with rfl|rfl|rfl|rfl
   all_goals
    apply ZA
    case main =>
     intro key;refine rdv ?_;refine aZ (x6 (bH aF bf aG ?_))
     conv=>whnf
     refine ⟨rfl,?_⟩;refine v_ (aZ (bH aF bf aG ?_));refine rdv ?_;refine sM ?_
     conv=>whnf
     refine aZ (bH aF bf aG ?_)
     conv=>whnf
     cases b with
     | false =>
       have k1:¬ec p:=Wz hb;refine aZ (bH aF bf aG ?_);refine rdv ?_;refine aZ (bH aF bf aG ?_);refine rdv ?_;refine aQ h4 ?_;refine aZ (bH aF bf aG ?_);refine rdv ?_;refine h5.mono ?_;rintro _ _ ⟨⟨k,_⟩|⟨k,_⟩|⟨_,rfl⟩,rfl⟩
       ·exact absurd k.1 k1
       ·exact absurd k.1 k1
       refine rdv ?_;refine aZ (bH aF bf aG ?_);refine rdv ?_;refine aQ (ia 1) ?_;refine aQ yw ?_;refine aQ h6 ?_;refine aQ h7 ?_;refine aZ (bH aF bf aG ?_);refine rdv ?_;refine aQ uS ?_;refine aZ (bH aF bf aG ?_)
       conv=>whnf
       first
        | (((with_reducible refine nK aF bf aG cB Ac ?_ ?_);(focus kernel_rfl);(conv=>whnf))
           repeat' (first|(refine jz ?_)|(refine tU h6 ?_)|(refine tV h6 ?_)|(refine uB h6 ?_)|fail)
           exact ⟨.inl rfl,⟨p,rfl,C0⟩,rfl⟩)
        | (refine aZ (bH aF bf aG ?_)
           refine rdv ?_;refine fq (σ:=Unit) (λ_=>stZ p a false) (λ_=>True) [2,3,4,6,7,10,14] ?_ (λ_ _=>lj [(5,2,1),(5,3,1)] rfl ((key.out:∀ s:Bool×Cert,Ky p s->AW _ _ _ _ _ (Dr p a s.1 s.2).1 (Dr p a s.1 s.2).2) (false,kb) ⟨hb,br _,br _,rfl⟩))
           focus (conv=>whnf
                  exact ⟨(),rfl,rfl,trivial⟩))
        | (refine aZ (bH aF bf aG ?_)
           refine rdv ?_;refine fq (σ:=Unit) (λ_=>Dr p a false (QR a.h)) (λ_=>True) [2,3,4,6,7,10,14] ?_ (λ_ _=>(key.out:∀ s:Bool×Cert,Ky p s->AW _ _ _ _ _ (Dr p a s.1 s.2).1 (Dr p a s.1 s.2).2) (false,QR a.h) ⟨hb,hah.1,hah.2,rfl⟩)
           focus (conv=>whnf
                  exact ⟨(),rfl,rfl,trivial⟩))
     | true =>
       have k1:ec p:=gQ hb;have h8:=VN p k1 oM ht.aq.2 a.l hlf;refine aZ (bH aF bf aG ?_);refine rdv ?_;refine h8.mono ?_;rintro _ _ ⟨⟨k2,rfl⟩|⟨k2,k3,rfl⟩|⟨k2,k3,rfl⟩,rfl⟩
       ·refine rdv ?_;refine aZ (bH aF bf aG ?_);refine rdv ?_;refine aQ h4 ?_;refine aZ (bH aF bf aG ?_);refine rdv ?_;refine h5.mono ?_;rintro _ _ ⟨⟨k,_⟩|⟨k,_⟩|⟨_,rfl⟩,rfl⟩
        ·rw [k2] at k;exact absurd k.2 dC
        ·rw [k2] at k;exact absurd k.2 dC
        refine rdv ?_;refine aZ (bH aF bf aG ?_);refine rdv ?_;refine aQ (ia 1) ?_;refine aQ yw ?_;refine aQ h6 ?_;refine aQ h7 ?_;refine aZ (bH aF bf aG ?_);refine rdv ?_;refine aQ uS ?_;refine aZ (bH aF bf aG ?_)
        conv=>whnf
        first
         | (((with_reducible refine nK aF bf aG cB Ac ?_ ?_);(focus kernel_rfl);(conv=>whnf))
            repeat' (first|(refine jz ?_)|(refine tU h6 ?_)|(refine tV h6 ?_)|(refine uB h6 ?_)|fail)
            exact ⟨.inl rfl,⟨p,rfl,C0⟩,rfl⟩)
         | (refine aZ (bH aF bf aG ?_)
            refine rdv ?_;refine fq (σ:=Unit) (λ_=>stZ p a true) (λ_=>True) [2,3,4,6,7,10,14] ?_ (λ_ _=>lj [(5,2,1),(5,3,1)] rfl ((key.out:∀ s:Bool×Cert,Ky p s->AW _ _ _ _ _ (Dr p a s.1 s.2).1 (Dr p a s.1 s.2).2) (true,kb) ⟨hb,br _,br _,rfl⟩))
            focus (conv=>whnf
                   exact ⟨(),rfl,rfl,trivial⟩))
         | (refine aZ (bH aF bf aG ?_)
            refine rdv ?_;refine fq (σ:=Unit) (λ_=>Dr p a true (QR a.h)) (λ_=>True) [2,3,4,6,7,10,14] ?_ (λ_ _=>(key.out:∀ s:Bool×Cert,Ky p s->AW _ _ _ _ _ (Dr p a s.1 s.2).1 (Dr p a s.1 s.2).2) (true,QR a.h) ⟨hb,hah.1,hah.2,rfl⟩)
            focus (conv=>whnf
                   exact ⟨(),rfl,rfl,trivial⟩))
       ·refine rdv ?_;refine aZ (bH aF bf aG ?_);refine rdv ?_;refine aQ h4 ?_;refine aZ (bH aF bf aG ?_);refine rdv ?_;refine h5.mono ?_;rintro _ _ ⟨⟨_,k,_⟩|⟨_,_,rfl⟩|⟨k,_⟩,rfl⟩
        ·rw [k3] at k;exact absurd k dC
        ·refine rdv ?_;refine aZ (bH aF bf aG ?_);refine rdv ?_;refine aQ (ia 10) ?_;refine aQ yw ?_;refine aQ h6 ?_;refine aQ h7 ?_;refine aZ (bH aF bf aG ?_);refine rdv ?_;refine aQ uS ?_;refine aZ (bH aF bf aG ?_)
         conv=>whnf
         first
          | (((with_reducible refine nK aF bf aG cB Ac ?_ ?_);(focus kernel_rfl);(conv=>whnf))
             repeat' (first|(refine jz ?_)|(refine tU h6 ?_)|(refine tV h6 ?_)|(refine uB h6 ?_)|fail)
             exact ⟨.inl rfl,⟨p,rfl,C0⟩,rfl⟩)
          | (refine aZ (bH aF bf aG ?_)
             refine rdv ?_;refine fq (σ:=Unit) (λ_=>stZ p a true) (λ_=>True) [2,3,4,6,7,10,14] ?_ (λ_ _=>lj [(5,2,1),(5,3,1)] rfl ((key.out:∀ s:Bool×Cert,Ky p s->AW _ _ _ _ _ (Dr p a s.1 s.2).1 (Dr p a s.1 s.2).2) (true,kb) ⟨hb,br _,br _,rfl⟩))
             focus (conv=>whnf
                    exact ⟨(),rfl,rfl,trivial⟩))
          | (refine aZ (bH aF bf aG ?_)
             refine rdv ?_;refine fq (σ:=Unit) (λ_=>Dr p a true (QR a.h)) (λ_=>True) [2,3,4,6,7,10,14] ?_ (λ_ _=>(key.out:∀ s:Bool×Cert,Ky p s->AW _ _ _ _ _ (Dr p a s.1 s.2).1 (Dr p a s.1 s.2).2) (true,QR a.h) ⟨hb,hah.1,hah.2,rfl⟩)
             focus (conv=>whnf
                    exact ⟨(),rfl,rfl,trivial⟩))
        ·exact absurd ⟨k1,k2⟩ k
       ·have h9:=VM p bw oM a.l hlf k1 k2 k3;have e1:(dE (dm a.l)).length<=8:=by rw [dE,List.length_mergeSort];exact yk _
        have e2:(dE (fY p)).length<=100000:=by
         rw [dE,List.length_mergeSort,fY,tg,mW];have:=mv (λc:Cert=>decide (c.round=p.round - 1)) p.aq.aa;omega
        have Ke:=Q8 (wE p a.l) ⟨fO 8 e1,fO 100000 e2⟩;have WO:=EL p.id p.round (dE (dm a.l)) (dE (fY p)) oM oM;refine rdv ?_;refine aZ (bH aF bf aG ?_);refine rdv ?_;refine aQ h4 ?_;refine aZ (bH aF bf aG ?_);refine rdv ?_;refine aQ h9 ?_;refine aZ (bH aF bf aG ?_);refine rdv ?_;refine aQ (ia 0) ?_;refine aQ Ke ?_;refine aQ h6 ?_;refine aQ h7 ?_;refine aZ (bH aF bf aG ?_);refine rdv ?_;refine aQ WO ?_;refine aZ (bH aF bf aG ?_)
        conv=>whnf
        first
         | (((with_reducible refine nK aF bf aG cB Ac ?_ ?_);(focus kernel_rfl);(conv=>whnf))
            repeat' (first|(refine jz ?_)|(refine tU h6 ?_)|(refine tV h6 ?_)|(refine uB h6 ?_)|fail)
            exact ⟨.inl rfl,⟨p,rfl,C0⟩,rfl⟩)
         | (refine aZ (bH aF bf aG ?_)
            refine rdv ?_;refine fq (σ:=Unit) (λ_=>Dr p a true (wE p a.l)) (λ_=>True) [2,3,4,6,7,10,14] ?_ (λ_ _=>(key.out:∀ s:Bool×Cert,Ky p s->AW _ _ _ _ _ (Dr p a s.1 s.2).1 (Dr p a s.1 s.2).2) (true,wE p a.l) ⟨hb,by show (dE (dm a.l)).length<=_;omega,by show (dE (fY p)).length<=_;omega,rfl⟩)
            focus (conv=>whnf
                   exact ⟨(),rfl,rfl,trivial⟩))
         | (refine aZ (bH aF bf aG ?_)
            refine rdv ?_;refine fq (σ:=Unit) (λ_=>Dr p a true (QR a.h)) (λ_=>True) [2,3,4,6,7,10,14] ?_ (λ_ _=>(key.out:∀ s:Bool×Cert,Ky p s->AW _ _ _ _ _ (Dr p a s.1 s.2).1 (Dr p a s.1 s.2).2) (true,QR a.h) ⟨hb,hah.1,hah.2,rfl⟩)
            focus (conv=>whnf
                   exact ⟨(),rfl,rfl,trivial⟩))
    case tail =>
     first
      | (exact trivial
        )
      | (rintro ⟨B,h⟩ ⟨hB,jl,fT,YT⟩
         dsimp only at hB jl fT YT ⊢
         have Ni:h.aJ:=⟨by unfold aJ;omega,by unfold aJ;omega,by rw [YT];exact br _⟩;have hhf:gr h:=⟨by unfold aU;omega,by unfold aU;omega,by rw [YT];exact br _⟩;have adG:=gy h Ni;have adH:=kV h hhf;have hpi:=G1 p bw hr hf.aE h hhf Ni a.d;refine bH aF bf aG ?_
         conv=>whnf
         cases B with
         | false =>
           have k1:¬ec p:=Wz hB;have e:nB p h a.d=1:=Cw λhh=>k1 hh.may;rw [e] at hpi
           (refine eF ?_)
           refine aQ adG ?_;refine hpi.mono ?_;rintro _ _ ⟨⟨e0,_⟩|⟨_,rfl⟩,lo,n,eS,Bl,rfl⟩
           ·exact absurd e0 dC
           refine rdv ?_
           (refine Or.inr ?_;(conv=>whnf))
           refine aQ (Pm lo n eS Bl) ?_;refine aQ adH ?_;refine aQ (G2 [] lo n eS Bl) ?_;refine fq (σ:=Unit) (λ_=>Np p ⟨1,lo,n,(.hole eS Bl false)⟩) (λ_=>True) [2,4,6,9,10,11,12] ?_ (λ_ _=>(Wu.out:∀ s:SB,KC s->AW _ _ _ _ _ (Np p s).1 (Np p s).2) ⟨1,lo,n,(.hole eS Bl false)⟩ ⟨(by decide:(1:Int)≠0),λ_ _=>rfl⟩)
           focus (conv=>whnf
                  exact ⟨(),rfl,rfl,trivial⟩)
         | true =>
           have k1:ec p:=gQ hB;have hpg:=Dp p k1 bw ht hr h hhf Ni a.d
           (refine eF ?_)
           refine hpg.mono ?_;rintro _ _ (⟨e0,pC,sC,rfl,j,rfl⟩|⟨Pt,rfl,rfl⟩)
           ·have hq:=Vx k1 hr pC sC;have OW:=We k1 h a.d;have nA:=EY k1 hr pC
            cases j
            all_goals
             refine rdv ?_;refine aQ adG ?_;refine hpi.mono ?_;rintro _ _ ⟨⟨_,_,_,rfl⟩|⟨e1,_⟩,lo,n,eS,Bl,rfl⟩
             rotate_left
             ·exact absurd e0 e1
             refine rdv ?_;refine aQ (Zw p.aK.aE Hy.1 lo n eS Bl) ?_;refine aQ adH ?_;refine aQ (G2 p.aK.aE lo n eS Bl) ?_;refine fq (σ:=Unit) (λ_=>Zy p ⟨GH p h a.d,zE p h a.d,lo,n,(.hole eS Bl false)⟩) (λ_=>True) [2,4,6,8,9,10,11,12] ?_ (λ_ _=>(adE.out:∀ s:SG,Zx N s->AW _ _ _ _ _ (Zy p s).1 (Zy p s).2) ⟨GH p h a.d,zE p h a.d,lo,n,(.hole eS Bl false)⟩ ⟨hq.fits hF,λ_ _=>rfl,nA,by show (zE p h a.d).length<=_;omega⟩)
             focus (conv=>whnf
                    exact ⟨(),rfl,rfl,trivial⟩)
           ·obtain ⟨e,he⟩:∃ e,nB p h a.d=e:=⟨_,rfl⟩;rw [he] at Pt hpi ⊢;refine rdv ?_;refine aQ adG ?_;refine hpi.mono ?_;rintro _ _ ⟨⟨e1,_⟩|⟨_,rfl⟩,lo,n,eS,Bl,rfl⟩
            ·exact absurd e1 Pt
            refine rdv ?_;repeat' (apply tw<;>intro _)
            all_goals first|exact absurd (by assumption) Pt|skip
            (refine Or.inr ?_;(conv=>whnf))
            refine aQ (Pm lo n eS Bl) ?_;refine aQ adH ?_;refine aQ (G2 [] lo n eS Bl) ?_;refine fq (σ:=Unit) (λ_=>Np p ⟨e,lo,n,(.hole eS Bl false)⟩) (λ_=>True) [2,4,6,9,10,11,12] ?_ (λ_ _=>(Wu.out:∀ s:SB,KC s->AW _ _ _ _ _ (Np p s).1 (Np p s).2) ⟨e,lo,n,(.hole eS Bl false)⟩ ⟨Pt,λ_ _=>rfl⟩)
            focus (conv=>whnf
                   exact ⟨(),rfl,rfl,trivial⟩))
 case t1 =>
  rintro ⟨q,o,lo,n,ok⟩ ⟨Wv,hk,fu,OW⟩
  dsimp only at Wv hk fu OW
  have hsP:=s7 q Wv.fit lo n ok;have hsM:=EA o oM (λm hm=>(fu m hm).fit) lo n false;have heP:=Pr q Wv lo n ok hk;have heM:=Ps o OW fu lo n ok hk;refine bH aF bf aG ?_;refine rdv ?_;refine cP Ad ?_;refine aQ (ia 0) ?_;refine aQ heP ?_
  (refine Or.inr ?_;(conv=>whnf))
  refine aQ heM ?_;refine aQ h6 ?_;refine aQ hsP ?_;refine aQ hsM ?_;refine uH Om ?_
  repeat' (first|(refine jz ?_)|(refine tU h6 ?_)|(refine tV h6 ?_)|(refine uB h6 ?_)|fail)
  exact ⟨.inl rfl,⟨q,rfl,Wv⟩,rfl⟩
 case t2 =>
  rintro ⟨e,lo,n,ok⟩ ⟨Pt,hk⟩
  dsimp only at Pt hk
  have hsP:=s7 zP VW lo n ok;have hsM:=EA [] (br _) (λ_ h=>by cases h) lo n false;have heP:=KD lo n ok hk;have heM:=Ps [] (br _) (λ_ h=>by cases h) lo n ok hk;refine bH aF bf aG ?_;refine rdv ?_;repeat' (apply tw<;>intro _)
  all_goals first|exact absurd (by assumption) Pt|skip
  refine cP Ad ?_;refine aQ (ia e) ?_;repeat' (apply tw<;>intro _)
  all_goals first|exact absurd rfl (by assumption)|skip
  refine aQ heP ?_
  (refine Or.inr ?_;(conv=>whnf))
  refine aQ heM ?_;refine aQ h6 ?_;refine aQ hsP ?_;refine aQ hsM ?_;repeat' (apply tw<;>intro _)
  all_goals first|exact absurd (by assumption) Pt|skip
  refine uH Ol ?_
  repeat' (first|(refine jz ?_)|(refine tU h6 ?_)|(refine tV h6 ?_)|(refine uB h6 ?_)|fail)
  exact ⟨.inl rfl,⟨p,rfl,C0⟩,rfl⟩
 case t3 =>
  rintro ⟨q,o,lo,n,ok⟩ ⟨Wv,hk,fu,OW⟩
  dsimp only at Wv hk fu OW
  have hsP:=s7 q Wv.fit lo n ok;have heP:=Pr q Wv lo n ok hk;refine bH aF bf aG ?_;refine rdv ?_;refine cP Ad ?_;refine aQ (ia 0) ?_;refine aQ heP ?_
  (refine Or.inr ?_;(conv=>whnf))
  refine aQ Pq ?_;refine aQ h6 ?_;refine aQ hsP ?_
  (refine Or.inr ?_;(conv=>whnf))
  refine aQ Fb ?_;refine uH Om ?_
  repeat' (first|(refine jz ?_)|(refine tU h6 ?_)|(refine tV h6 ?_)|(refine uB h6 ?_)|fail)
  exact ⟨.inl rfl,⟨q,rfl,Wv⟩,rfl⟩
 case t4 =>
  rintro ⟨e,lo,n,ok⟩ ⟨Pt,hk⟩
  dsimp only at Pt hk
  have hsP:=s7 zP VW lo n ok;have heP:=KD lo n ok hk;refine bH aF bf aG ?_;refine rdv ?_;repeat' (apply tw<;>intro _)
  all_goals first|exact absurd (by assumption) Pt|skip
  refine cP Ad ?_;refine aQ (ia e) ?_;repeat' (apply tw<;>intro _)
  all_goals first|exact absurd rfl (by assumption)|skip
  refine aQ heP ?_
  (refine Or.inr ?_;(conv=>whnf))
  refine aQ Pq ?_;refine aQ h6 ?_;refine aQ hsP ?_
  (refine Or.inr ?_;(conv=>whnf))
  refine aQ Fb ?_;repeat' (apply tw<;>intro _)
  all_goals first|exact absurd (by assumption) Pt|skip
  refine uH Ol ?_
  repeat' (first|(refine jz ?_)|(refine tU h6 ?_)|(refine tV h6 ?_)|(refine uB h6 ?_)|fail)
  exact ⟨.inl rfl,⟨p,rfl,C0⟩,rfl⟩
end Go.Proofs.YtolkmjfkkkiboaaGreat
