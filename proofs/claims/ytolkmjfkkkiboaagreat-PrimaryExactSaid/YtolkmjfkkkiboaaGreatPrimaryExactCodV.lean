/- PrimaryExact: contracts. -/
import Derived.Test.YtolkmjfkkkiboaaGreatPrimaryExactCodU
set_option linter.all false
set_option maxHeartbeats 8000000
set_option maxRecDepth 100000
namespace Go.Proofs.YtolkmjfkkkiboaaGreat
open Go.Ab Go.RowKit Go.MapKept Tryz
attribute [local irreducible] ay AW cw eA eo bL
theorem Zu (n:Int) (b:Bool):Z8 (.tup [.k n,.d (.bool b)]):=by
 intro R R' v h;simpa [VR,cD,VD] using h
theorem GZ (l:List Int) (hl:aU l) (hs:bq l) (x:Int) {L:List AB}:zA 204 [.d (.slo 1 (nums l)),.k x] L (λav L'=>av = .tup [.k (jY l x),.d (.bool (decide (x∈l)))]/\L'=L) :=
 vP (X:=λav=>av = .tup [.k (jY l x),.d (.bool (decide (x∈l)))]) (λav e=>by rw [e];exact Zu _ _) ⟨_,_,rfl,.inl (iP (dV l)),_,_,rfl,.inl (bG _),rfl⟩ (wH l hl hs x)
theorem Nf (c:Cert):zA 201 [c.Dl] [] (pQ (.d (rh c.round c.af)) []):=by
 refine gG func201 ntmps201 ?_;refine (gW c.round c.af).mono ?_;rintro _ _ ⟨rfl,rfl⟩
 conv=>whnf
 exact ⟨rfl,rfl⟩
def agO (p:Prim) (out:List aW) (m:aW) (bs:List Int) (j:Bool):List AB:=if j then [.cells (p.cs.map AV.d++[.arr 4]),.dead,.cells (m.O5.map AV.d),.row 3 1 (nums bs) false,.row 49 18 (bZ out) false] else [.cells (p.cs.map AV.d++[.arr 1]),.row 49 18 (bZ out) false,.cells (m.O5.map AV.d),.row 3 1 (nums bs) false]
def adr (p:Prim) (out:List aW) (m:aW) (held lk bs:List Int) (j:Bool) (k:Nat):AF×List AB:=([(0,.ptr 0 0),(2,.d (.slo 1 (nums held))),(4,.ptr 2 0),(6,.d (.sl 1 (nums lk))),(7,.arr 3),(57,.d (.slo 1 (nums m.head.aE))),(58,.k m.head.aE.length),(59,.k k)],agO p out m bs j)
theorem Ro (p:Prim) (hv:Valid p.aq) (hvo:cW p.aA) (hl:p.late.length<=256) (hs:ct p.late) (out:List aW) (ho:out.length<=100000) (m:aW) (n:Int) (hh:eB n m.head) (hf:gr m.head) (held:List Int) (hhl:aU held) (hhr:bq held) :
  zA 166 [.ptr 0 0,m.nk,.d (.slo 1 (nums held))] (p.st out) (λav L=>av = .tup []/\∃ j,L=(eC p m held).sj j (out++fK p m held)):=by
 have kx:=gQ hh.fl;have ga:=hh.round;have Eo:=hh.af;have jl:=hh.aE.1;have fT:=hh.ao.1;have pA:(bm p.aq m.head).length<=1000000:=by
  unfold bm;split
  ·exact br _
  ·exact fS (mv ..) oM
 have nP:=Cq p.aq hv.fit m.head (by unfold aJ;omega) ⟨oM,oM⟩ ga.1 hv.low;refine dB func166 ntmps166 ?_;refine mU aF bf aG (σ:=(Prim×List aW)×Bool) (λs=>([(0,.ptr 0 0),(4,.ptr 2 0)],Ze s.1.1 s.1.2 m s.2)) (λk s=>k=0/\s.1.2.length<=3000000/\s.1.1=eC p m held/\s.1.2++[(r7 m).told s.1.1 m.src]=out++fK p m held) (λ_ _=>0) ?_ ?_
 ·rintro k rest hk ⟨⟨q,o⟩,j⟩ ⟨rfl,h1,h2,h3⟩;have e:=Hl (show some _=some rest from hk);subst e;clear hk;replace h1:o.length<=3000000:=h1;replace h2:q=eC p m held:=h2;replace h3:o++[(r7 m).told q m.src]=out++fK p m held:=h3;have lJ:=yf q o oM m.src (r7 m) fJ fJ;rw [h3] at lJ;rw [<-h2];clear h2
  cases j
  all_goals
   refine rdv ?_;refine (bz lJ (.cons (.refl _) (.cons (.refl _) (.cons (.agg ?_) .nil)))).mono ?_
   ·repeat (first|exact .nil|refine .cons (.refl _) ?_|refine .cons (.nils _ dC) ?_)
   ·rintro _ _ ⟨rfl,rfl⟩;refine rdv ?_;exact ⟨rfl,true,rfl⟩
 ·intro pass;refine rdv ?_;refine cP Yh ?_;repeat' (apply tw<;>intro _)
  ·rename_i h0;refine ⟨rfl,false,?_⟩;rw [eC,bp h0,fK,bp h0,gR];rfl
  ·rename_i h0;refine cP Yi ?_;refine aQ (Nf m.head) ?_;refine aQ (QE p.aA hvo m.head.round m.head.af ⟨oM,oM⟩ ⟨oM,oM⟩) ?_;repeat' (apply tw<;>intro _)
   ·rename_i h1 h2;refine cV [0,4] ?_
    conv=>whnf
    refine ⟨((p,out),false),rfl,rfl,⟨rfl,by show out.length<=_;omega,?_,?_⟩⟩
    ·rw [eC,aR h0,bp h1]
    ·rw [fK,aR h0,bp h1,bp h2]
   ·rename_i h1 h2;refine ⟨rfl,false,?_⟩;rw [eC,aR h0,bp h1,fK,aR h0,bp h1,aR h2,gR];rfl
   ·rename_i h1;have ads:=m9 p out (by unfold aU;omega) hs (bm p.aq m.head) pA;have tQ:=nO p out oM m.src 8 (bU p.late (bm p.aq m.head)) (by unfold bU;exact fS (mv ..) pA);obtain ⟨Cr,Ct⟩:∃ o,out++jq p m.src 8 (bU p.late (bm p.aq m.head))=o:=⟨_,rfl⟩;rw [Ct] at tQ;have aj6:Cr.length<=1100000:=by rw [<-Ct,iQ,jq,tg,d_];have:(bU p.late (bm p.aq m.head)).length<=1000000:=by { unfold bU;exact fS (mv ..) pA };unfold qV;omega
    refine cP Yj ?_;refine aQ nP ?_;refine cP Yk ?_;refine aQ ads ?_;refine tQ.mono ?_;rintro _ _ ⟨rfl,j,rfl⟩;have jg:=nums_length m.head.aE
    cases j
    all_goals
     refine rdv ?_
     first
      | (refine dw aF bf aG (σ:=List Int) (ρ:=Nat) (λbs k=>adr p Cr m held (bm p.aq m.head) bs false k) (λbs k=>k<=m.head.aE.length/\bs=kd held (m.head.aE.take k)) (λ_ k=>m.head.aE.length - k) [0,2,4,6,7,57,58,59] ?_ ?_
         focus (conv=>whnf
                exact ⟨[],0,by rw [jg];rfl,rfl,br _,by simp [kd]⟩))
      | (refine dw aF bf aG (σ:=List Int) (ρ:=Nat) (λbs k=>adr p Cr m held (bm p.aq m.head) bs true k) (λbs k=>k<=m.head.aE.length/\bs=kd held (m.head.aE.take k)) (λ_ k=>m.head.aE.length - k) [0,2,4,6,7,57,58,59] ?_ ?_
         focus (conv=>whnf
                exact ⟨[],0,by rw [jg];rfl,rfl,br _,by simp [kd]⟩))
     rintro bs k ⟨hk,KO⟩;have KM:(nums bs).length<=m.head.aE.length:=by rw [nums_length,KO];exact fS (mv ..) (CB ..)
     refine rdv ?_;repeat' (apply tw<;>intro _)
     ·have yd:(k:Int)<m.head.aE.length:=aM;refine eG m.head.aE k λx hx=>?_;have dq:=B3 held m.head.aE hx;refine ⟨oM,[.j x],bD hx,?_⟩;refine rdv ?_;refine (GZ held hhl hhr x).mono ?_;rintro _ _ ⟨rfl,rfl⟩;by_cases hm:x∈held
      ·rw [cz hm];rw [bp hm,gR,<-KO] at dq;refine rdv ?_;exact ⟨bs,k+1,rfl,rfl,⟨oM,dq.symm⟩,oM⟩
      ·rw [aP hm];rw [aR hm,<-KO] at dq;refine rdv ?_;refine ⟨by show ((nums bs).length+1) * 8<=_;omega,?_⟩;refine rdv ?_;refine ⟨bs++[x],k+1,rfl,?_,⟨oM,dq.symm⟩,oM⟩;unfold adr agO;rw [<-db];rfl
     ·have yd:¬(k:Int)<m.head.aE.length:=aM;rw [gx oM] at KO;have ON:kd held m.head.aE=bs:=KO.symm;rw [nums_length] at KM;have yx:=nO p Cr oM m.src 7 bs oM;obtain ⟨zI,Cu⟩:∃ o,Cr++jq p m.src 7 bs=o:=⟨_,rfl⟩;rw [Cu] at yx;have OW:zI.length<=2200000:=by rw [<-Cu,iQ,jq,tg,d_];unfold qV;omega
      have ZL:=nums_length bs;have hln:=nums_length (bm p.aq m.head);have hO:out++fK p m held=zI++(if yl p m held=true/\bX p.aA (gl m)=0 then [(r7 m).told p m.src] else []):=by
       rw [fK,aR h0,aR h1,ON,<-Cu,<-Ct];simp only [uf]
      conv=>whnf
      (refine Or.inl ?_;(conv=>whnf))
      refine yx.mono ?_;rintro _ _ ⟨rfl,j,rfl⟩
      cases j
      all_goals
       refine rdv ?_;repeat' (apply tw<;>intro _)
       ·have hq:((nums (bm p.aq m.head)).length:Int)+((nums bs).length:Int)>0:=aM;have Qp:¬yl p m held=true:=by
         unfold yl;rw [ON];simp only [oB,jh];rintro ⟨e1,e2⟩;rw [e1,e2] at hq;revert hq;decide
        have hP:eC p m held=p:=by rw [eC,aR h0,aR h1,aR Qp]
        rw [hO,aR (λh=>Qp h.1),gR,hP]
        first
         | exact ⟨rfl,false,rfl⟩
         | exact ⟨rfl,true,rfl⟩
       ·have hq:¬((nums (bm p.aq m.head)).length:Int)+((nums bs).length:Int)>0:=aM;have Qp:yl p m held=true:=by
         unfold yl;rw [ON];simp only [oB,jh];exact ⟨oy oM,oy oM⟩
        have hP:eC p m held={ p with aA:=jX p.aA (gl m) }:=by rw [eC,aR h0,aR h1,bp Qp]
        have zC:=B2 p.aA hvo (gl m) ⟨⟨by show _<=m.head.round;omega,by show m.head.round<_;omega⟩,⟨by show _<=m.head.af;omega,by show m.head.af<_;omega⟩⟩;refine cP Us ?_;refine aQ zC ?_;repeat' (apply tw<;>intro _)
        ·have hg:bX p.aA (gl m)≠0:=aM;have hP2:eC p m held=p:=by rw [hP,jX,aR hg]
         rw [hO,aR (λh=>hg h.2),gR,hP2]
         first
          | exact ⟨rfl,false,rfl⟩
          | exact ⟨rfl,true,rfl⟩
        ·have hg:bX p.aA (gl m)=0:=aM;rw [bp ⟨Qp,hg⟩] at hO
         first
          | (refine fq (σ:=Unit) (λ_=>([(0,.ptr 0 0),(4,.ptr 2 0)],Ze { p with aA:=jX p.aA (gl m) } zI m false)) (λ_=>True) [0,4] ?_ ?_
             ·conv=>whnf
              exact ⟨(),rfl,rfl,trivial⟩
             ·intro _ _;exact pass 0 _ rfl (({ p with aA:=jX p.aA (gl m) },zI),false) ⟨rfl,by show zI.length<=_;omega,hP.symm,hO.symm⟩)
          | (refine fq (σ:=Unit) (λ_=>([(0,.ptr 0 0),(4,.ptr 2 0)],Ze { p with aA:=jX p.aA (gl m) } zI m true)) (λ_=>True) [0,4] ?_ ?_
             ·conv=>whnf
              exact ⟨(),rfl,rfl,trivial⟩
             ·intro _ _;exact pass 0 _ rfl (({ p with aA:=jX p.aA (gl m) },zI),true) ⟨rfl,by show zI.length<=_;omega,hP.symm,hO.symm⟩)
theorem V9 (p:Prim) (h:ec p) (hr:p.aq.aa.length+p.late.length<60000) (m:aW) (hf:m.cY) (hm:aX p.nodes m) (k4:m.kind=4) (held:List Int) (hl:aU held) (hs:bq held) :
  zA 117 [p.av,m.nk,.d (.slo 1 (nums held))] [] (pQ (.tup [(iE p m held).av,.d (.sl 18 (bZ (fw p m held)))]) []):=by
 have gi:=Ro p h.aq h.aA h.late.len h.late.Dh [] (by simp) m p.nodes (hm.ok.head k4).1 hf.head held hl hs;rw [iE,bp k4,fw,bp k4];refine gG func117 ntmps117 ?_;repeat' (apply tw<;>intro _)
 all_goals first|exact absurd k4 (by assumption)|skip
 refine gi.mono ?_;rintro _ _ ⟨rfl,j,rfl⟩;rw [tC]
 cases j
 all_goals
  refine rdv ?_;refine cP wa ?_;exact ⟨rfl,rfl⟩
open Classical in
theorem Rp (p:Prim) (bw:p.ok) (hr:p.aq.aa.length+p.late.length<60000) (m:aW) (hf:m.cY) (hk:m.kind=4) (held:List Int) (hl:aU held) :
  zA 58 [p.nk,m.nk,.d (.slo 1 (nums held))] [] (λav L=>((dn p m held/\pe m/\av=sb (iE p m held) (fw p m held))∨(dn p m held/\¬pe m/\av=nj 10)∨(¬dn p m held/\av=nj 1))/\L=[]):=by
 have h1:=ic p bw;have h2:zA 114 [m.nk,.k p.nodes] [] (pQ (.d (.bool (decide (aX p.nodes m)))) []):=bS (cG _) ⟨_,_,rfl,Al m,_,_,rfl,.inl (bG _),rfl⟩ (nR m hf p.nodes);have h3:zA 115 [.d (.slo 1 (nums held))] [] (pQ (.d (.bool (decide (dh held 1 65536)))) []):=bS (cG _) ⟨_,_,rfl,.inl (iP (dV held)),rfl⟩ (gY held hl);have h4:=wP m.kind;refine gG func58 ntmps58 ?_;refine h1.mono ?_;rintro _ _ ⟨rfl,rfl⟩;by_cases k1:ec p
 ·rw [cz k1];refine rdv ?_;refine h2.mono ?_;rintro _ _ ⟨rfl,rfl⟩;by_cases k2:aX p.nodes m
  ·rw [cz k2];refine rdv ?_;repeat' (apply tw<;>intro _)
   ·rename_i k3;exact ⟨.inr (.inr ⟨λh=>k3 h.dst,rfl⟩),rfl⟩
   ·rename_i k3;refine h3.mono ?_;rintro _ _ ⟨rfl,rfl⟩;by_cases k4:dh held 1 65536
    ·rw [cz k4];have hC:dn p m held:=⟨k1,k2,k3,k4⟩;refine rdv ?_;refine h4.mono ?_;rintro _ _ ⟨rfl,rfl⟩;by_cases k5:m.kind∈[(4:Int),5,6,8]
     ·rw [cz k5];have rL:=ly p (k1.aJ bw.sigs);have V2:=V9 p k1 hr m hf k2 hk held hl k4.1;refine rdv ?_;refine cP LS ?_;refine aQ rL ?_;refine aQ V2 ?_;exact ⟨.inl ⟨hC,k5,rfl⟩,rfl⟩
     ·rw [aP k5];refine rdv ?_;exact ⟨.inr (.inl ⟨hC,k5,rfl⟩),rfl⟩
    ·rw [aP k4];refine rdv ?_;exact ⟨.inr (.inr ⟨λh=>k4 h.held,rfl⟩),rfl⟩
  ·rw [aP k2];refine rdv ?_;exact ⟨.inr (.inr ⟨λh=>k2 h.msg,rfl⟩),rfl⟩
 ·rw [aP k1];refine rdv ?_;exact ⟨.inr (.inr ⟨λh=>k1 h.may,rfl⟩),rfl⟩
theorem ET (p:Prim) (to kind:Int) {l:List Int} (hl:l.length<=1000000):∀ x∈jq p to kind l,x.nice:=by
 intro x hx;obtain ⟨d,hd,rfl⟩:=px.1 hx;have Pe:=nN hl d hd;exact ⟨⟨br _,eD j5,eD j5,by show d.length<=_;omega⟩,rfl,⟨br _,j5,j5,by show d.length<=_;omega⟩⟩
theorem Cv (p:Prim) (m:aW):((r7 m).told p m.src).nice:=⟨⟨br _,eD j5,eD j5,br _⟩,rfl,⟨br _,j5,j5,br _⟩⟩
theorem EU (p:Prim) (to kind:Int) (l:List Int):(jq p to kind l).length=qV l.length:=by rw [jq,tg,d_]
theorem EV {p:Prim} {n:Int} {c:Cert} (hn:jA n=true) (h:eB n c):(bU p.late (bm p.aq c)).length<=50000:=by
 have:=h.ao.1;have kx:=gQ hn;have h1:(bm p.aq c).length<=c.ao.length:=by
  unfold bm;split
  ·exact br _
  ·exact mv ..
 have h2:(bU p.late (bm p.aq c)).length<=(bm p.aq c).length:=by unfold bU;exact mv ..
 omega
theorem EW {n:Int} {c:Cert} (held:List Int) (h:eB n c):(kd held c.aE).length<=50000:=by
 have:=h.aE.1;have h2:(kd held c.aE).length<=c.aE.length:=by unfold kd;exact mv ..
 omega
theorem zo {p:Prim} {m:aW} {n:Int} (hn:jA n=true) (h:eB n m.head) (held:List Int):∀ x∈fK p m held,x.nice:=by
 have h1:=EV (p:=p) hn h;have h2:=EW held h;unfold fK;split
 ·intro x hx;cases hx
 ·split
  ·split
   ·intro x hx;rw [Hj] at hx;subst hx;exact Cv p m
   ·intro x hx;cases hx
  ·intro x hx;rcases gA.1 hx with hx|hx
   ·rcases gA.1 hx with hx|hx
    ·exact ET p _ _ oM x hx
    ·exact ET p _ _ oM x hx
   ·split at hx
    ·rw [Hj] at hx;subst hx;exact Cv p m
    ·cases hx
theorem Ng {p:Prim} {m:aW} {n:Int} (hn:jA n=true) (h:eB n m.head) (held:List Int):(fK p m held).length<=100000:=by
 have h1:=EV (p:=p) hn h;have h2:=EW held h;unfold fK;split
 ·exact br _
 ·split
  ·split
   ·exact Hh rfl
   ·exact br _
  ·rw [iQ,iQ,EU,EU];have h3:(if yl p m held=true/\bX p.aA (gl m)=0 then [(r7 m).told p m.src] else []).length<=1:=by
    split
    ·exact eQ _
    ·exact br _
   unfold qV;omega
theorem adt (p:Prim) (bw:p.ok) (ht:p.aJ) (hg:p.gh) (hr:p.aq.aa.length+p.late.length<60000) (m:aW) (hm:m.small) (hk:m.kind=4) (held:List Int) (hl:aU held):ES p m held (dn p m held) (iE p m held) (fw p m held) where
 M7:=λk1=>Nd p k1 bw ht hr m hm.cY hk held hl
 prog:=wY (Rp p bw hr m hm.cY hk held hl) (xa (by unfold pe;rw [hk];simp)) (λhC x hx=>by
  rw [fw,bp hk] at hx;exact zo hC.may.fl (hC.msg.ok.head hk).1 held x hx)
 may:=λh=>h.may
 qok:=λhC=>by
  have Dm:=sf hC.may hr hC.msg held;exact ⟨B9 Dm.may (Dm.gh hg),w6 Dm.may⟩
 nice:=λhC x hx=>by
  rw [fw,bp hk] at hx;exact zo hC.may.fl (hC.msg.ok.head hk).1 held x hx
 len:=λhC=>by
  rw [fw,bp hk];exact Ng hC.may.fl (hC.msg.ok.head hk).1 held
open Classical in
theorem V_ {n:Int} {m:aW} (hf:m.cY):zA 109 [m.av,.k n] [] (pQ (.d (.bool (decide (aX n m)))) []):=by
 have h:(m.kind=1∨m.kind=3)∨m.kind=2∨m.kind=4∨m.kind=5∨m.kind=6∨m.kind=7∨m.kind=8∨(m.kind<1∨8<m.kind):=oM;rcases h with h|h|h|h|h|h|h|h
 ·exact Zr hf h
 ·exact ada hf h
 ·exact V0 hf h
 ·exact VX hf h
 ·exact VY hf h
 ·exact adb hf h
 ·exact VZ hf h
 ·exact adj h
open Classical in
noncomputable def uV (p:Prim) (m:aW) (held:List Int):Int:=if dn p m held then 10 else 1
theorem EX {p:Prim} {m:aW} {held:List Int} (h:dn p m held):uV p m held=10:=bp h
theorem po {p:Prim} {m:aW} {held:List Int} (h:¬dn p m held):uV p m held=1:=aR h
open Classical in
theorem Rq (p:Prim) (bw:p.ok) (m:aW) (hf:m.cY) (hk:m.kind∉[(4:Int),5,6,8]) (held:List Int) (hl:aU held) :
  zA 58 [p.nk,m.nk,.d (.slo 1 (nums held))] [] (λav L=>av=nj (uV p m held)/\L=[]):=by
 have h1:=ic p bw;have h2:zA 114 [m.nk,.k p.nodes] [] (pQ (.d (.bool (decide (aX p.nodes m)))) []):=bS (cG _) ⟨_,_,rfl,Al m,_,_,rfl,.inl (bG _),rfl⟩ (nR m hf p.nodes);have h3:zA 115 [.d (.slo 1 (nums held))] [] (pQ (.d (.bool (decide (dh held 1 65536)))) []):=bS (cG _) ⟨_,_,rfl,.inl (iP (dV held)),rfl⟩ (gY held hl);have h4:=wP m.kind;refine y0 func58 ntmps58 ?_;refine h1.mono ?_;rintro _ _ ⟨rfl,rfl⟩;by_cases k1:ec p
 ·rw [cz k1];refine cm ?_;refine h2.mono ?_;rintro _ _ ⟨rfl,rfl⟩;by_cases k2:aX p.nodes m
  ·rw [cz k2];refine cm ?_;repeat' (apply tw<;>intro _)
   ·rename_i k3;rw [po (λh=>k3 h.dst)];exact ⟨rfl,rfl⟩
   ·rename_i k3;refine h3.mono ?_;rintro _ _ ⟨rfl,rfl⟩;by_cases k4:dh held 1 65536
    ·rw [cz k4];have hC:dn p m held:=⟨k1,k2,k3,k4⟩;refine cm ?_;refine h4.mono ?_;rintro _ _ ⟨rfl,rfl⟩;by_cases k5:m.kind∈[(4:Int),5,6,8]
     ·exact absurd k5 hk
     ·rw [aP k5];refine cm ?_;rw [EX hC];exact ⟨rfl,rfl⟩
    ·rw [aP k4];refine cm ?_;rw [po (λh=>k4 h.held)];exact ⟨rfl,rfl⟩
  ·rw [aP k2];refine cm ?_;rw [po (λh=>k2 h.msg)];exact ⟨rfl,rfl⟩
 ·rw [aP k1];refine cm ?_;rw [po (λh=>k1 h.may)];exact ⟨rfl,rfl⟩
open Classical in
theorem Nh (p:Prim) (k1:ec p) (ht:p.aJ) (m:aW) (hf:m.cY) (hk:m.kind∉[(4:Int),5,6,8]) (held:List Int) (hl:aU held) :
  zA 56 [p.av,m.av,.d (.sl 1 (nums held))] [] (λav L=>(False/\Co p [] av L)∨(¬False/\GQ p (uV p m held) av L)):=by
 have BU:=dH p ht;have h1:=V_ hf (n:=p.nodes);have h2:=hU held hl;have h3:=g_ held hl;simp only [jy,List.not_mem_nil,or_false,CO] at hk;obtain ⟨q4,q5,q6,q8⟩:=hk;have hE:¬dn p m held->GQ p (uV p m held)=GQ p 1:=λh=>by rw [po h]
 refine axz func56 ntmps56 ?_;refine qR BU ?_;refine h1.mono ?_;rintro _ _ ⟨rfl,rfl⟩;by_cases k2:aX p.nodes m
 rotate_left
 ·rw [aP k2];refine cm ?_;rw [hE (λh=>k2 h.msg)];exact .inr ⟨λh=>h,rfl,rfl⟩
 rw [cz k2];refine cm ?_;repeat' (apply tw<;>intro _)
 ·rename_i k3;rw [hE (λh=>k3 h.dst)];exact .inr ⟨λh=>h,rfl,rfl⟩
 have k3:m.dst=p.id:=aM;refine h2.mono ?_;rintro _ _ ⟨rfl,rfl⟩;by_cases k4:∀ x∈held,1<=x/\x<=65536
 rotate_left
 ·rw [aP k4];refine cm ?_;rw [hE (λh=>k4 h.held.2)];exact .inr ⟨λh=>h,rfl,rfl⟩
 rw [cz k4];refine cm ?_;refine h3.mono ?_;rintro _ _ ⟨rfl,rfl⟩;by_cases k5:bq held
 rotate_left
 ·rw [aP k5];refine cm ?_;rw [hE (λh=>k5 h.held.1)];exact .inr ⟨λh=>h,rfl,rfl⟩
 rw [cz k5];have hC:dn p m held:=⟨k1,k2,k3,⟨k5,k4⟩⟩;refine cm ?_;repeat' (apply tw<;>intro _)
 all_goals first|exact absurd (show m.kind=4 by assumption) q4|exact absurd (show m.kind=5 by assumption) q5|exact absurd (show m.kind=6 by assumption) q6|exact absurd (show m.kind=8 by assumption) q8|skip
 rw [EX hC];exact .inr ⟨λh=>h,rfl,rfl⟩
theorem Rr {p:Prim} {m:aW} {held:List Int} {e:Int} (h:zA 58 [p.nk,m.nk,.d (.slo 1 (nums held))] [] (λav L=>av=nj e/\L=[])) (lo n:Nat) :
  zA 58 [p.av,m.ai 0,.d (.sl 1 (nums held))] [.aN lo n true] (λav L=>((False/\av=GU p [] 0)∨(¬False/\av=GU zP [] e))/\∃ zH n2,L=[.aN lo n true,.aN zH n2 true]):=by
 refine oY (ll (X:=λav=>av=nj e) (post:=λav=>av = .tup [.agg gM,.isl 1 (.sl 18 []),.k e]) (.cons (nm _ p) (.cons (Kq rfl m) (.cons (.inl (lx (dK held))) .nil))) h ?_) ?_
 ·rintro _ rfl;exact ⟨_,.inr ⟨_,_,rfl,rfl,.cons (Ch _) (.cons (.inl (.sl trivial)) (.cons (.inl (bE _)) .nil))⟩,rfl⟩
 ·rintro _ _ ⟨rfl,zH,n2,rfl⟩;refine ⟨_,.inr ⟨_,_,rfl,rfl,.cons (.inr ⟨_,_,rfl,rfl,?_⟩) (.cons (.inl (cZ _)) (.cons (.inl (cZ _)) .nil))⟩,.inr ⟨λh=>h,rfl⟩,zH,n2,rfl⟩;have hw:∀ {k:Nat},0<k->T7 [AB.aN lo n true,AB.aN zH n2 true] (.d .nils) (.isl 1 (.sl k [])):=λ{k} hk => .inr ⟨1,zH,n2,k,rfl,⟨_,rfl,rfl⟩,hk,rfl⟩;exact .cons (cZ _) (.cons (cZ _) (.cons (cZ _) (.cons (cZ _) (.cons (cZ _) (.cons (cZ _) (.cons (cZ _) (.cons (hw dC) (.cons (hw dC) (.cons (cZ _) (.cons (hw dC) (.cons (hw dC) (.cons (cZ _) (.cons (cZ _) (.cons (hw dC) (.cons (hw dC) .nil)))))))))))))))
structure aaO (p:Prim) (m:aW) (held:List Int) (C:Prop) (e:Int) (q:Prim) (o:List aW):Prop where
 M7:ec p->zA 56 [p.av,m.av,.d (.sl 1 (nums held))] [] (λav L=>(C/\Co q o av L)∨(¬C/\GQ p e av L))
 prog:∀ lo n,zA 58 [p.av,m.ai 0,.d (.sl 1 (nums held))] [.aN lo n true] (λav L=>((C/\av=GU q o 0)∨(¬C/\av=GU zP [] e))/\∃ zH n2,L=[.aN lo n true,.aN zH n2 true])
 may:C->ec p
 one:¬ec p->e=1
 err:e≠0
 next:C->yr p q
 nice:C->∀ x∈o,x.nice
 len:C->o.length<=100000
theorem ES.g {p:Prim} {m:aW} {held:List Int} {C:Prop} {q:Prim} {o:List aW} (h:ES p m held C q o) (hn:C->yr p q):aaO p m held C 1 q o:=⟨h.M7,h.prog,h.may,λ_=>rfl,dC,hn,h.nice,h.len⟩
theorem Rs (p:Prim) (bw:p.ok) (ht:p.aJ) (hg:p.gh) (hr:p.aq.aa.length+p.late.length<60000) (m:aW) (hm:m.small) (held:List Int) (hl:aU held):∃ C e q o,aaO p m held C e q o:=by
 have hn:dn p m held->yr p (iE p m held):=λhC=>sf hC.may hr hC.msg held;by_cases hk:m.kind∈[(4:Int),5,6,8]
 ·simp only [jy,List.not_mem_nil,or_false] at hk;rcases hk with hk|hk|hk|hk
  ·exact ⟨_,_,_,_,(adt p bw ht hg hr m hm hk held hl).g hn⟩
  ·exact ⟨_,_,_,_,(adk p bw ht hg hr m hm hk held hl).g hn⟩
  ·exact ⟨_,_,_,_,(adm p bw ht hg hr m hm hk held hl).g hn⟩
  ·exact ⟨_,_,_,_,(adl p bw ht hg hr m hm hk held hl).g hn⟩
 ·refine ⟨False,uV p m held,p,[],λk1=>Nh p k1 ht m hm.cY hk held hl,Rr (Rq p bw m hm.cY hk held hl),λh=>h.elim,λh=>po λhC=>h hC.may,?_,λh=>h.elim,λh=>h.elim,λh=>h.elim⟩;unfold uV;split<;>decide
theorem Rt (l:List bb) (v:bb):bX l v=0∨bX l v=4∨bX l v=5∨bX l v=8:=by
 unfold bX;split
 ·split
  ·exact .inr (.inl rfl)
  ·exact .inr (.inr (.inl rfl))
 ·split
  ·exact .inr (.inr (.inr rfl))
  ·exact .inl rfl
open Classical in
noncomputable def nB (p:Prim) (h:Cert) (d:Int):Int:=if lv p h d then (if sd p h then (if bX p.aA ⟨h.round,p.id,d⟩=5∨bX p.aA ⟨h.round,p.id,d⟩=8 then bX p.aA ⟨h.round,p.id,d⟩ else 0) else 10) else 1
theorem Cw {p:Prim} {h:Cert} {d:Int} (k:¬lv p h d):nB p h d=1:=aR k
theorem An {p:Prim} {h:Cert} {d:Int} (k:lv p h d) (k2:¬sd p h):nB p h d=10:=by rw [nB,bp k,aR k2]
theorem Wa {p:Prim} {h:Cert} {d:Int} (k:lv p h d) (k2:sd p h) (k3:bX p.aA ⟨h.round,p.id,d⟩=5∨bX p.aA ⟨h.round,p.id,d⟩=8):nB p h d=bX p.aA ⟨h.round,p.id,d⟩:=by rw [nB,bp k,bp k2,bp k3]
theorem Wb {p:Prim} {h:Cert} {d:Int} (k:lv p h d) (k2:sd p h) (k3:bX p.aA ⟨h.round,p.id,d⟩≠5) (k4:bX p.aA ⟨h.round,p.id,d⟩≠8):nB p h d=0:=by rw [nB,bp k,bp k2,aR (λh=>h.elim k3 k4)]
def aj8 (p:Prim) (e:Int) (av:AV) (L:List AB):Prop:=av = .tup [.ptr 0 0,.arr 1,.k e]/\L=[.cells (p.cs.map AV.d++[.arr 2]),.row 3 1 [] false,.row 49 18 (bZ []) false]
def aaP (p:Prim) (h:Cert) (d:Int) (av:AV) (L:List AB):Prop :=
 (nB p h d=0/\lv p h d/\sd p h/\av = .tup [.ptr 0 0,.d (.sl 1 (nums p.aK.aE)),.k 0]/\∃ j,L=(GH p h d).sj j (zE p h d))∨(nB p h d≠0/\aj8 p (nB p h d) av L)
open Classical in
theorem Dp (p:Prim) (k1:ec p) (bw:p.ok) (ht:p.aJ) (hr:p.aq.aa.length+p.late.length<60000) (h:Cert) (hf:gr h) (Ni:h.aJ) (d:Int) :
  zA 48 [p.av,h.pD,.k d] [] (aaP p h d):=by
 have kx:=gQ k1.fl;have Lu:=k1.id;have BU:=dH p ht;have h1:=gZ d;have h2:=qf h hf p.nodes;have h3:=EH p oM ht.aq.2 k1.fl k1.round;have h4:=wV p oM k1.round;rw [Kf k1.aq.dD] at h4;unfold aaP;refine Qa func48 ntmps48 ?_;refine aQ BU ?_;refine h1.mono ?_;rintro _ _ ⟨rfl,rfl⟩;by_cases k2:1<=d/\d<=65536
 rotate_left
 ·rw [aP k2];refine rdv ?_;rw [Cw λhh=>k2 hh.dD];exact .inr ⟨dC,rfl,rfl⟩
 rw [cz k2];refine rdv ?_;refine h2.mono ?_;rintro _ _ ⟨rfl,rfl⟩;by_cases k3:eB p.nodes h
 rotate_left
 ·rw [aP k3];refine rdv ?_;rw [Cw λhh=>k3 hh.head];exact .inr ⟨dC,rfl,rfl⟩
 rw [cz k3];refine rdv ?_;repeat' (apply tw<;>intro _)
 ·rename_i k4;rw [Cw λhh=>k4 hh.af];exact .inr ⟨dC,rfl,rfl⟩
 have k4:h.af=p.id:=aM;have hC:lv p h d:=⟨k1,k2,k3,k4⟩;have ga:=k3.round;have fT:=k3.ao.1;have h5:=cC h.ao (dE (fY p)) (fO 16 oM);have h6:=Kv p.aA k1.aA ⟨h.round,p.id,d⟩ ⟨ga,⟨Lu.1,by have:=Lu.2;have:=kx.2;show p.id<=16;omega⟩,k2⟩;have adu:=Rt p.aA ⟨h.round,p.id,d⟩;obtain ⟨e,he⟩:∃ e,bX p.aA ⟨h.round,p.id,d⟩=e:=⟨_,rfl⟩;rw [he] at h6 adu;have h7:=dZ p.aK.aE ht.aK.aE;have h8:=gy h Ni;have h9:=wX (dp p h d) ⟨by show 0<=p.nodes;omega,by show p.nodes<=16;omega⟩ [] (br _) (fm (dp p h d)) ⟨br _,⟨by have:=k3.aE.1;show h.aE.length<=3000;omega,by show h.ao.length<=3000;omega⟩,⟨br _,br _,br _⟩,br _,br _⟩;rw [tC] at h9;have Ml:=ej (dp p h d) (fm (dp p h d)) [] (dp p h d).nodes.toNat;have hpn:(dp p h d).nodes=p.nodes:=rfl;have Ke:=su (dp p h d) (cM (dp p h d) (fm (dp p h d)) [] (dp p h d).nodes.toNat) (by rw [hpn] at Ml ⊢;omega) k1.fl (fO 1 (eQ _)) ⟨zeL _ _,λx hx=>by have e:=Hj.1 (show x∈[p.id] from hx);subst e;exact Lu⟩ ht.late.2 (λk=>kW (show jA p.aq.nodes=true by rw [k1.same];exact k1.fl) (dz k1 hr k3 k2 k).cert) (λk=>⟨(dz k1 hr k3 k2 k).cert,(dz k1 hr k3 k2 k).aJ,(dz k1 hr k3 k2 k).cY,(dz k1 hr k3 k2 k).room,(dz k1 hr k3 k2 k).Dh⟩);refine cP aci ?_;refine h3.mono ?_;rintro _ _ ⟨rfl,rfl⟩
 cases k5:jd p with
 | false =>
   refine rdv ?_;rw [An hC λhh=>(by have:=hh.ready;rw [k5] at this;cases this)];exact .inr ⟨dC,rfl,rfl⟩
 | true =>
   refine rdv ?_;repeat' (apply tw<;>intro _)
   ·rename_i k6;rw [An hC λhh=>k6 hh.round];exact .inr ⟨dC,rfl,rfl⟩
   ·have k6:h.round=p.round:=aM;refine aQ h4 ?_;refine h5.mono ?_;rintro _ _ ⟨rfl,rfl⟩;by_cases k7:h.ao=dE (fY p)
    rotate_left
    ·rw [aP k7];refine rdv ?_;rw [An hC λhh=>k7 hh.ao];exact .inr ⟨dC,rfl,rfl⟩
    rw [cz k7];have hS:sd p h:=⟨k5,k6,k7⟩;refine rdv ?_;refine aQ h6 ?_;repeat' (apply tw<;>intro _)
    all_goals first
     | (rename_i k8 k9
        replace k8:e≠0:=k8;replace k9:e≠4:=k9;have g:nB p h d=e:=(Wa hC hS (by rw [he];omega)).trans he;rw [g];exact .inr ⟨oM,rfl,rfl⟩)
     | skip
    all_goals
     have g04:e=0∨e=4:=by first|exact .inr (by assumption)|exact .inl (by assumption)
     have g5:e≠5:=oM;have g8:e≠8:=oM;have g0:=Wb hC hS (by rw [he];exact g5) (by rw [he];exact g8);rw [g0];refine aQ h7 ?_;refine aQ h8 ?_;refine mV [(0,10)] rfl ?_
     conv=>whnf
     refine (bz h9 (.cons (.refl _) (.cons (.agg ?_) .nil))).mono ?_
     ·repeat (first|exact .nil|refine .cons (.refl _) ?_|refine .cons (.nils _ dC) ?_)
     rintro _ _ ⟨rfl,j,rfl⟩
     cases j
     all_goals
      refine rdv ?_;refine Ke.mono ?_;rintro _ _ ⟨rfl,j,rfl⟩
      cases j
      all_goals
       refine rdv ?_
       first
        | exact .inl ⟨rfl,hC,hS,rfl,false,rfl⟩
        | exact .inl ⟨rfl,hC,hS,rfl,true,rfl⟩
def aW.cho (m:aW):List DV:=[.j m.kind,.j m.src,.j m.dst,.j m.ae,.j m.ba,.j m.bn,.sl 4 (dr m.dX),.j m.head.af,.j m.head.round,.slo 1 (nums m.head.aE),.slo 1 (nums m.head.ao),.j m.cert.af,.j m.cert.round,.sl 1 (nums m.cert.aE),.sl 1 (nums m.cert.ao),.j m.cert.ae,.sl 1 (nums m.cert.sigs),.sl 1 (nums m.aT)]
def aW.aho (m:aW):AV := .agg (m.cho.map AV.d)
theorem Ru {L:List AB} (h:Cert):yV L h.Dl h.pD := .inr ⟨_,_,rfl,rfl,aw (bG _) (aw (bG _) (aw (iP (dV _)) (aw (iP (dV _)) nT)))⟩
theorem Pk (p:Prim) (out:List aW) (ho:out.length<=1000000000) (to:Int) (m:aW) (h1:m.head.aJ) (h2:m.cert.aJ):zA 179 [.ptr 0 0,.k to,m.aho] (p.st out) (pQ (.tup []) (p.st1 (out++[m.told p to]))):=by
 have zy:=jT out;refine gG func179 ntmps179 ?_;refine cP OD ?_;refine aQ (Aj m.head h1) ?_;refine aQ (m7 m.cert h2) ?_;refine cP OE ?_;refine ⟨by simp;omega,?_⟩;refine rdv ?_;refine ⟨rfl,?_⟩;rw [Prim.st1,show bZ (out++[m.told p to])=bZ out++[(m.told p to).cs] by simp [bZ]];rfl
def agP (p:Prim) (out:List aW) (m:aW) (j:Bool):List AB:=if j then [.cells (p.cs.map AV.d++[.arr 3]),.dead,.cells (m.cho.map AV.d),.row 49 18 (bZ out) false] else [.cells (p.cs.map AV.d++[.arr 1]),.row 49 18 (bZ out) false,.cells (m.cho.map AV.d)]
def Cx (p:Prim) (out:List aW) (m:aW) (not:List Int) (s:Bool×Nat):AF×List AB:=([(0,.ptr 0 0),(2,.d (.sl 1 (nums not))),(4,.ptr 2 0),(6,.k ((s.2:Int)+1))],agP p (out++cM p m not s.2) m s.1)
theorem Wc (p:Prim) (hn:0<=p.nodes/\p.nodes<=16) (out:List aW) (ho:out.length<=100000000) (m:aW) (h1:m.head.aJ) (h2:m.cert.aJ) (not:List Int) (yh:aU not):zA 145 [.ptr 0 0,m.aho,.d (.sl 1 (nums not))] (p.st out) (λav L=>av = .tup []/\∃ j,L=p.sj j (out++cM p m not p.nodes.toNat)):=by
 have Jm:=nums_length not;refine dB func145 ntmps145 ?_;refine mU aF bf aG (σ:=Bool×Nat) (Cx p out m not) (λk s=>k=0/\s.2<=p.nodes.toNat) (λ_ s=>p.nodes.toNat - s.2) ?_ ?_
 ·rintro k rest hk ⟨j,q⟩ ⟨rfl,hq⟩;have e:=Hl (show some _=some rest from hk);subst e;clear hk;replace hq:q<=p.nodes.toNat:=hq;have Ml:=ej p m not q;have j9:=m_ p m not q
  cases j with
  | false =>
    refine rdv ?_;repeat' (apply tw<;>intro _)
    ·have h:p.nodes<(q:Int)+1:=aM;obtain rfl:q=p.nodes.toNat:=oM;exact ⟨rfl,false,rfl⟩
    ·have ef:(q:Int)+1≠p.id:=aM;have hle:¬p.nodes<(q:Int)+1:=aM;refine (gX not yh ((q:Int)+1)).mono ?_;rintro _ _ ⟨rfl,rfl⟩;by_cases hm:(q:Int)+1∈not
     ·rw [cz hm];rw [aR (λh=>h.2 hm),gR] at j9;refine rdv ?_;refine cV [0,2,4,6] ?_
      conv=>whnf
      exact ⟨(false,q+1),rfl,by simp only [Cx];rw [j9];rfl,⟨rfl,by show q+1<=_;omega⟩,by show _ - (q+1)<_ - q;omega⟩
     ·rw [aP hm];rw [bp ⟨ef,hm⟩] at j9;have lJ:=Pk p (out++cM p m not q) (by rw [iQ];omega) ((q:Int)+1) m h1 h2;rw [uf,<-j9] at lJ;refine rdv ?_;refine aQ lJ ?_;refine cV [0,2,4,6] ?_
      conv=>whnf
      exact ⟨(true,q+1),rfl,rfl,⟨rfl,by show q+1<=_;omega⟩,by show _ - (q+1)<_ - q;omega⟩
    ·have ef:(q:Int)+1=p.id:=aM;have hle:¬p.nodes<(q:Int)+1:=aM;rw [aR (λh=>h.1 ef),gR] at j9;refine cV [0,2,4,6] ?_
     conv=>whnf
     exact ⟨(false,q+1),rfl,by simp only [Cx];rw [j9];rfl,⟨rfl,by show q+1<=_;omega⟩,by show _ - (q+1)<_ - q;omega⟩
  | true =>
    refine rdv ?_;repeat' (apply tw<;>intro _)
    ·have h:p.nodes<(q:Int)+1:=aM;obtain rfl:q=p.nodes.toNat:=oM;exact ⟨rfl,true,rfl⟩
    ·have ef:(q:Int)+1≠p.id:=aM;have hle:¬p.nodes<(q:Int)+1:=aM;refine (gX not yh ((q:Int)+1)).mono ?_;rintro _ _ ⟨rfl,rfl⟩;by_cases hm:(q:Int)+1∈not
     ·rw [cz hm];rw [aR (λh=>h.2 hm),gR] at j9;refine rdv ?_;refine cV [0,2,4,6] ?_
      conv=>whnf
      exact ⟨(true,q+1),rfl,by simp only [Cx];rw [j9];rfl,⟨rfl,by show q+1<=_;omega⟩,by show _ - (q+1)<_ - q;omega⟩
     ·rw [aP hm];rw [bp ⟨ef,hm⟩] at j9;have lJ:=Pk p (out++cM p m not q) (by rw [iQ];omega) ((q:Int)+1) m h1 h2;rw [uf,<-j9] at lJ;refine rdv ?_;refine aQ lJ ?_;refine cV [0,2,4,6] ?_
      conv=>whnf
      exact ⟨(true,q+1),rfl,rfl,⟨rfl,by show q+1<=_;omega⟩,by show _ - (q+1)<_ - q;omega⟩
    ·have ef:(q:Int)+1=p.id:=aM;have hle:¬p.nodes<(q:Int)+1:=aM;rw [aR (λh=>h.1 ef),gR] at j9;refine cV [0,2,4,6] ?_
     conv=>whnf
     exact ⟨(true,q+1),rfl,by simp only [Cx];rw [j9];rfl,⟨rfl,by show q+1<=_;omega⟩,by show _ - (q+1)<_ - q;omega⟩
 ·intro pass
  conv=>whnf
  refine fq (σ:=Unit) (λ_=>Cx p out m not (false,0)) (λ_=>True) [0,2,4,6] ?_ ?_
  ·conv=>whnf
   exact ⟨(),rfl,by rw [Cx,show cM p m not (false,0).2=[] from rfl,gR];rfl,trivial⟩
  ·intro _ _;exact pass 0 _ rfl (false,0) ⟨rfl,br _⟩
def Wd (e:Int):AV := .tup [.agg gM,.arr 0,.arr 1,.k e]
def aaQ (q:Prim):AV := .tup [q.av,.arr 0,.arr 1,.k 0]
def Cy (b:List Int) (o:List aW):List AB:=[.row 3 1 (nums b) false,.row 49 18 (bZ o) false]
def agQ (p:Prim) (h:Cert) (d:Int) (av:AV) (L:List AB):Prop :=
 (sd p h/\bX p.aA ⟨h.round,p.id,d⟩≠5/\bX p.aA ⟨h.round,p.id,d⟩≠8/\av=aaQ (GH p h d)/\L=Cy p.aK.aE (zE p h d))∨(sd p h/\(bX p.aA ⟨h.round,p.id,d⟩=5∨bX p.aA ⟨h.round,p.id,d⟩=8)/\av=Wd (bX p.aA ⟨h.round,p.id,d⟩)/\L=Cy [] [])∨(¬sd p h/\av=Wd 10/\L=Cy [] [])
def agR (p:Prim) (h:Cert) (d:Int) (av:AV) (L:List AB):Prop :=
 (lv p h d/\sd p h/\bX p.aA ⟨h.round,p.id,d⟩≠5/\bX p.aA ⟨h.round,p.id,d⟩≠8/\av=aaQ (GH p h d)/\L=Cy p.aK.aE (zE p h d)) ∨
 (lv p h d/\sd p h/\(bX p.aA ⟨h.round,p.id,d⟩=5∨bX p.aA ⟨h.round,p.id,d⟩=8)/\av=Wd (bX p.aA ⟨h.round,p.id,d⟩)/\L=Cy [] []) ∨
 (lv p h d/\¬sd p h/\av=Wd 10/\L=Cy [] [])∨(¬lv p h d/\av=Wd 1/\L=Cy [] [])
theorem Rv (p:Prim) (hm:ec p) (hs:p.aK.sigs.length<=1099511627776) (hr:p.aq.aa.length+p.late.length<60000) (h:Cert) (hh:eB p.nodes h) (Ni:h.aJ) (d:Int) (hd:1<=d/\d<=65536) :
  zA 93 [p.av,h.Dl,.k d] [] (agQ p h d):=by
 have kx:=gQ hm.fl;have Lu:=hm.id;have ga:=hh.round;have h1:=rY p hm.aq.fit hm.fl hm.round;have h2:=wF p hm.aq.fit hm.round (by have:=hm.aq.len;omega) [] fc;have fT:=hh.ao.1;have h3:zA 141 [.d (.slo 1 (nums h.ao)),.d (.sl 1 (nums (dE (fY p))))] [] (pQ (.d (.bool (decide (h.ao=dE (fY p))))) []):=bS (cG _) ⟨_,_,rfl,.inl (iP (dV h.ao)),_,_,rfl,.inl (.inl ⟨_,rfl,rfl⟩),rfl⟩ (Jv h.ao (dE (fY p)) (fO 16 oM));have h4:=B2 p.aA hm.aA ⟨h.round,p.id,d⟩ ⟨⟨by show 0<=h.round;omega,by show h.round<_;omega⟩,⟨by show 0<=p.id;omega,by show p.id<_;omega⟩⟩;have ht:=hm.aJ hs;have h5:=Aj h Ni;have h6:=Wc (dp p h d) ⟨by show 0<=p.nodes;omega,by show p.nodes<=16;omega⟩ [] dC (fm (dp p h d)) (show (QR h).aJ from ⟨Ni.aE,Ni.ao,fM⟩) fJ [] fc;rw [tC] at h6;have Ml:=ej (dp p h d) (fm (dp p h d)) [] (dp p h d).nodes.toNat;have hpn:(dp p h d).nodes=p.nodes:=rfl;have h7:=mi (dp p h d) (cM (dp p h d) (fm (dp p h d)) [] (dp p h d).nodes.toNat) (by rw [hpn] at Ml ⊢;omega) hm.fl (λk=>⟨(dz hm hr hh hd k).cert,(dz hm hr hh hd k).aJ,(dz hm hr hh hd k).cY,(dz hm hr hh hd k).room,(dz hm hr hh hd k).Dh⟩);unfold agQ;refine CI func93 ntmps93 ?_;refine cP Ul ?_;refine h1.mono ?_;rintro _ _ ⟨rfl,rfl⟩
 cases k1:jd p with
 | false =>
   refine rdv ?_;exact .inr (.inr ⟨λhh=>(by have:=hh.ready;rw [k1] at this;cases this),rfl,rfl⟩)
 | true =>
   refine rdv ?_;repeat' (apply tw<;>intro _)
   ·rename_i k2;exact .inr (.inr ⟨λhh=>k2 hh.round,rfl,rfl⟩)
   ·rename_i k2;refine aQ h2 ?_;refine h3.mono ?_;rintro _ _ ⟨rfl,rfl⟩;by_cases k3:h.ao=dE (fY p)
    ·rw [cz k3];have hC:sd p h:=⟨k1,k2,k3⟩;refine rdv ?_;refine aQ h4 ?_;repeat' (apply tw<;>intro _)
     ·have k4:bX p.aA ⟨h.round,p.id,d⟩=5:=aM;exact .inr (.inl ⟨hC,.inl k4,rfl,rfl⟩)
     ·rename_i k4 k5;replace k5:bX p.aA ⟨h.round,p.id,d⟩=8:=k5;exact .inr (.inl ⟨hC,.inr k5,rfl,rfl⟩)
     ·have k4:bX p.aA ⟨h.round,p.id,d⟩≠5:=aM;have k5:bX p.aA ⟨h.round,p.id,d⟩≠8:=aM;refine aQ (o5 p.aK.aE ht.aK.aE) ?_
      (with_reducible refine nK aF bf aG cB Vm ?_ ?_)
      focus kernel_rfl
      refine rdv ?_;refine aQ h5 ?_;refine (bz h6 (.cons (.refl _) (.cons (.agg ?_) (.cons (.refl _) .nil)))).mono ?_
      ·repeat (first|exact .nil|refine .cons (.refl _) ?_|refine .cons (.nils _ dC) ?_)
      rintro _ _ ⟨rfl,j,rfl⟩
      cases j
      all_goals
       refine rdv ?_;refine h7.mono ?_;rintro _ _ ⟨rfl,j,rfl⟩
       cases j
       all_goals
        refine rdv ?_;refine cP Ov ?_;exact .inl ⟨hC,k4,k5,rfl,rfl⟩
    ·rw [aP k3];refine rdv ?_;exact .inr (.inr ⟨λhh=>k3 hh.ao,rfl,rfl⟩)
open Classical in
theorem Dq (p:Prim) (bw:p.ok) (hr:p.aq.aa.length+p.late.length<60000) (h:Cert) (hf:gr h) (Ni:h.aJ) (d:Int) :
  zA 49 [p.nk,h.Dl,.k d] [] (agR p h d):=by
 have h1:=ic p bw;have h2:zA 92 [h.Dl,.k p.nodes] [] (pQ (.d (.bool (decide (eB p.nodes h)))) []):=bS (cG _) ⟨_,_,rfl,Ru h,_,_,rfl,.inl (bG _),rfl⟩ (wg h hf p.nodes);have h3:=fG d;unfold agR;refine Qa func49 ntmps49 ?_;refine h1.mono ?_;rintro _ _ ⟨rfl,rfl⟩;by_cases k1:ec p
 ·rw [cz k1];refine rdv ?_;refine h3.mono ?_;rintro _ _ ⟨rfl,rfl⟩;by_cases k2:1<=d/\d<=65536
  ·rw [cz k2];refine rdv ?_;refine h2.mono ?_;rintro _ _ ⟨rfl,rfl⟩;by_cases k3:eB p.nodes h
   ·rw [cz k3];refine rdv ?_;repeat' (apply tw<;>intro _)
    ·rename_i k4;exact .inr (.inr (.inr ⟨λhh=>k4 hh.af,rfl,rfl⟩))
    ·rename_i k4;have hC:lv p h d:=⟨k1,k2,k3,k4⟩;have rL:=ly p (k1.aJ bw.sigs);have lJ:=Rv p k1 bw.sigs hr h k3 Ni d k2;refine cP Ug ?_;refine aQ rL ?_;refine lJ.mono ?_;rintro _ _ (⟨e1,e2,e3,rfl,rfl⟩|⟨e1,e2,rfl,rfl⟩|⟨e1,rfl,rfl⟩)
     ·refine rdv ?_;exact .inl ⟨hC,e1,e2,e3,rfl,rfl⟩
     ·refine rdv ?_;exact .inr (.inl ⟨hC,e1,e2,rfl,rfl⟩)
     ·refine rdv ?_;exact .inr (.inr (.inl ⟨hC,e1,rfl,rfl⟩))
   ·rw [aP k3];refine rdv ?_;exact .inr (.inr (.inr ⟨λhh=>k3 hh.head,rfl,rfl⟩))
  ·rw [aP k2];refine rdv ?_;exact .inr (.inr (.inr ⟨λhh=>k2 hh.dD,rfl,rfl⟩))
 ·rw [aP k1];refine rdv ?_;exact .inr (.inr (.inr ⟨λhh=>k1 hh.may,rfl,rfl⟩))
theorem G0 {P:Program} {f:FuncId} {cS:List AV} {cg:List AB} {post nF:AV->List AB->Prop} (h:ay P f cS cg post)
  (hp:∀ av L,post av L->∃ a b x d,av = .tup [a,b,x,d]/\Ef x L λy L'=>C4 cg.length (.tup [a,b,y,d]) L' nF):ay P f cS cg nF:=by
 unfold ay at h ⊢;intro c vs hc hL hs hv;refine (h c vs hc hL hs hv).mono ?_;rintro e w' ⟨v,av,L',E',rfl,k2,k3,k4⟩;obtain ⟨a,b,x,d,rfl,hd⟩:=hp _ _ k2;simp only [VR,cD] at k4;obtain ⟨us,rfl,u1,r1,e1,v1,u2,r2,rfl,v2,u3,r3,rfl,v3,u4,r4,rfl,v4,rfl⟩:=k4;obtain ⟨y,L2,h1,h2,h3,h4⟩:=BI hc k3 hd v3;obtain ⟨E3,av3,L3,m1,m2,m3⟩:=zW h1 (by rw [hL]) h2 (v := .tuple us) (by
  simp only [VR,cD];exact ⟨us,rfl,u1,_,e1,VR.mono h3 _ _ v1,u2,_,rfl,VR.mono h3 _ _ v2,u3,_,rfl,h4,u4,_,rfl,VR.mono h3 _ _ v4,rfl⟩)
 exact ⟨_,av3,L3,E3,rfl,m1,m2,m3⟩
def agS (p:Prim) (h:Cert) (d:Int) (av:AV) (L:List AB):Prop :=
 (nB p h d=0/\lv p h d/\sd p h/\av = .tup [(GH p h d).av,.arr 0,.d (.sl 18 (bZ (zE p h d))),.k 0]/\L=[.row 3 1 (nums p.aK.aE) false]) ∨
 (nB p h d≠0/\av = .tup [.agg gM,.arr 0,.d (.sl 18 []),.k (nB p h d)]/\L=[.row 3 1 [] false])
theorem Kw (p:Prim) (bw:p.ok) (hr:p.aq.aa.length+p.late.length<60000) (h:Cert) (hf:gr h) (Ni:h.aJ) (d:Int):zA 49 [p.nk,h.Dl,.k d] [] (agS p h d):=by
 refine G0 (Dq p bw hr h hf Ni d) ?_;rintro _ _ (⟨k1,k2,k3,k4,rfl,rfl⟩|⟨k1,k2,k3,rfl,rfl⟩|⟨k1,k2,rfl,rfl⟩|⟨k1,rfl,rfl⟩)
 ·refine ⟨_,_,_,_,rfl,?_⟩
  conv=>whnf
  exact .inl ⟨Wb k1 k2 k3 k4,k1,k2,rfl,rfl⟩
 ·have e:=Wa k1 k2 k3;refine ⟨_,_,_,_,rfl,?_⟩;rw [<-e];rw [<-e] at k3
  conv=>whnf
  exact .inr ⟨oM,rfl,rfl⟩
 ·have e:=An k1 k2;refine ⟨_,_,_,_,rfl,?_⟩;rw [<-e]
  conv=>whnf
  exact .inr ⟨oM,rfl,rfl⟩
 ·have e:=Cw k1;refine ⟨_,_,_,_,rfl,?_⟩;rw [<-e]
  conv=>whnf
  exact .inr ⟨oM,rfl,rfl⟩
theorem Zv {p:Prim} {h:Cert} (hh:eB p.nodes h) (hn:jA p.nodes=true):(QR h).iF:=by
 have kx:=gQ hn;have h1:=hh.aE.1;have h2:=hh.ao.1;exact ⟨by show h.aE.length<=_;omega,by show h.ao.length<=_;omega,br _⟩
theorem EY {p:Prim} (hm:ec p) (hr:p.aq.aa.length+p.late.length<60000) {h:Cert} {d:Int} (k1:lv p h d):∀ x∈zE p h d,x.nice:=by
 intro x hx;rcases gA.1 hx with hx|hx
 ·exact nq (zk (Zv k1.head hm.fl)) x hx
 ·split at hx
  ·rename_i qQ;have hc:=(dz hm hr k1.head k1.dD qQ).aJ;have bw:=(dz hm hr k1.head k1.dD qQ).cert;have kx:=gQ hm.fl;have h1:=bw.head.aE.1;have h2:=bw.head.ao.1;refine nq (mn ⟨oM,by rw [show (dp p h d).aq.nodes=p.nodes from hm.same] at h2;omega,?_⟩) x hx;show ([p.id]:List Int).length<=_;exact Hh rfl
  ·cases hx
theorem We {p:Prim} (hm:ec p) (h:Cert) (d:Int):(zE p h d).length<=100:=by
 have kx:=gQ hm.fl;have h1:=ej (dp p h d) (fm (dp p h d)) [] p.nodes.toNat;have h2:=ej (dQ (dp p h d)) (cn (dN (dp p h d))) [] p.nodes.toNat;unfold zE;rw [iQ];split
 ·omega
 ·simp only [Du];omega
def adv (q:Prim) (l:List Int) (o:List aW) (e:Int):AV := .tup [q.ai 0,.isl 0 (.slo 1 (ints l)),.isl 0 (.sl 18 (bZ o)),.k e]
theorem G1 (p:Prim) (bw:p.ok) (hr:p.aq.aa.length+p.late.length<60000) (hb:p.aK.aE.length<=4294967296) (h:Cert) (hf:gr h) (Ni:h.aJ) (d:Int) :
  zA 49 [p.av,h.pD,.k d] [] (λav L=>((nB p h d=0/\lv p h d/\sd p h/\av=adv (GH p h d) p.aK.aE (zE p h d) 0)∨(nB p h d≠0/\av=adv zP [] [] (nB p h d)))/\∃ lo n b k,L=[.aN lo n (.hole b k true)]):=by
 refine oY (zB rfl (X:=agS p h d) (post:=λav=>(nB p h d=0/\lv p h d/\sd p h/\av=adv (GH p h d) p.aK.aE (zE p h d) 0)∨(nB p h d≠0/\av = .tup [.agg gM,.isl 0 (.slo 1 (ints [])),.isl 0 (.sl 18 []),.k (nB p h d)]))
  (.cons (nm [] p) (.cons (.inr ⟨_,_,rfl,rfl,.cons (cE _) (.cons (cE _) (.cons (lx (dK _)) (.cons (lx (dK _)) .nil)))⟩) (.cons (.inl (cE _)) .nil))) (Kw p bw hr h hf Ni d) ?_) ?_
 ·rintro _ _ (⟨k0,k1,k2,rfl,rfl⟩|⟨k0,rfl,rfl⟩)
  ·refine ⟨_,_,p.aK.aE,rfl,hb,.inr ⟨_,rfl,?_⟩,.inl ⟨k0,k1,k2,rfl⟩⟩;exact .cons (.isl (td _ _)) (.cons .row (.cons (.isl (.inl (.sl (Ak (EY k1.may hr k1))))) (.cons (.isl (.inl (bE _))) .nil)))
  ·refine ⟨_,_,[],rfl,br _,.inr ⟨_,rfl,?_⟩,.inr ⟨k0,rfl⟩⟩;exact .cons (.isl (Ch _)) (.cons .row (.cons (.isl (.inl (.sl trivial))) (.cons (.isl (.inl (bE _))) .nil)))
 ·rintro _ _ ⟨⟨k0,k1,k2,rfl⟩|⟨k0,rfl⟩,lo,n,b,k,rfl⟩
  ·exact ⟨_,.inl (.inl (cZ _)),.inl ⟨k0,k1,k2,rfl⟩,lo,n,b,k,rfl⟩
  ·refine ⟨_,.inr ⟨_,_,rfl,rfl,.cons (.inr ⟨_,_,rfl,rfl,?_⟩) (.cons (.inl (cZ _)) (.cons (.inl (cZ _)) (.cons (.inl (cZ _)) .nil)))⟩,.inr ⟨k0,rfl⟩,lo,n,b,k,rfl⟩;have hw:∀ {m:Nat},0<m->T7 [AB.aN lo n (.hole b k true)] (.d .nils) (.isl 0 (.sl m [])):=λ{m} hm => .inr ⟨0,lo,n,m,rfl,⟨_,rfl,rfl⟩,hm,rfl⟩;exact .cons (cZ _) (.cons (cZ _) (.cons (cZ _) (.cons (cZ _) (.cons (cZ _) (.cons (cZ _) (.cons (cZ _) (.cons (hw dC) (.cons (hw dC) (.cons (cZ _) (.cons (hw dC) (.cons (hw dC) (.cons (cZ _) (.cons (cZ _) (.cons (hw dC) (.cons (hw dC) .nil)))))))))))))))
theorem Wf {p:Prim} (h:p.ok):(gv p).ok:=⟨h.aK,h.sigs,h.aL,h.aA,h.aq,h.late⟩
theorem Rw {p:Prim} (h:p.iF):(gv p).iF:=⟨h.aE,h.ao,h.aL,h.aA,h.aq,h.late⟩
def aj_ (c:Cert):List AV:=[.k c.af,.k c.round,.d (.sl 1 (nums c.aE)),.d (.sl 1 (nums c.ao))]
def stL (p:Prim) (a:Act) (b:Bool) (h:List AV):AF×List AB:=([(2,.ptr 0 0),(3,.ptr 1 0),(4,.ptr 2 0),(6,.ptr 3 0),(7,.d (.bool b)),(10,.ptr 4 0),(14,.ptr 5 0)],[.cells (p.cs.map AV.d),.cells (a.cs.map AV.d),.cells gM,.cells (p.cs.map AV.d),.cells gM,.cells h])
def Dr (p:Prim) (a:Act) (b:Bool) (h:Cert):AF×List AB:=stL p a b (aj_ h)
def stZ (p:Prim) (a:Act) (b:Bool):AF×List AB:=stL p a b [.k 0,.k 0,.d .nils,.d .nils]
open Classical in
structure Ky (p:Prim) (s:Bool×Cert):Prop where
 may:decide (ec p)=s.1
 aE:s.2.aE.length<=200000
 ao:s.2.ao.length<=200000
 sigs:s.2.sigs=[]
theorem Pl {L:List AB} {lo n b k:Nat} (h:L[0]? = some (.aN lo n (.hole b k true))) (l:List Int):rQ L (.isl 0 (.slo 1 (ints l))) (.d (.sl 1 (nums l))) := .inr (.inr (.inr (.inr (.inr ⟨0,_,_,lo,n,_,rfl,h,rfl,rfl,dV l⟩))))
theorem Kz (l:List Int) (hl:aU l):zA 46 [.d (.sl 1 (nums l)),.d (.sl 1 (nums l))] [] (pQ (.d (.bool true)) []):=by
 have h:=cC l l hl;rw [cz rfl] at h;exact h
theorem Zw (l:List Int) (hl:aU l) (lo n b k:Nat):zA 46 [.isl 0 (.slo 1 (ints l)),.d (.sl 1 (nums l))] [.aN lo n (.hole b k true)] (pQ (.d (.bool true)) [.aN lo n (.hole b k true)]) :=
 bS (cG _) ⟨_,_,rfl,.inl (Pl rfl l),_,_,rfl,.inl (.inl ⟨_,rfl,rfl⟩),rfl⟩ (Kz l hl)
theorem Pm (lo n b k:Nat):zA 46 [.isl 0 (.slo 1 (ints [])),.arr 1] [.aN lo n (.hole b k true),.row 3 1 [] false] (pQ (.d (.bool true)) [.aN lo n (.hole b k true),.row 3 1 [] false]) :=
 bS (cG _) ⟨_,_,rfl,.inl (Pl rfl []),_,_,rfl,.inl (.inr (.inl ⟨1,_,_,_,_,rfl,rfl,rfl⟩)),rfl⟩ (Kz [] (br _))
theorem G2 (l:List Int) (lo n b k:Nat):zA 50 [.isl 0 (.slo 1 (ints l))] [.aN lo n (.hole b k true)] (pQ (.tup []) [.aN lo n (.hole b k false)]) :=
 IZ λw v hn hv=>je b k 2 w v hv hn
def cy (low:Int) (l:List Cert):List Cert:=l.filter λc=>decide (c.round>low)
theorem ju {low:Int} {l:List Cert} {j:Nat} {c:Cert} (hc:l[j]? = some c):cy low (l.take (j+1))=if c.round>low then cy low (l.take j)++[c] else cy low (l.take j):=by
 unfold cy;rw [iu,hc,CC];show _++List.filter _ [c]=_;by_cases h1:c.round>low
 ·rw [bp h1,Ff,bp (by simpa using h1)];rfl
 ·rw [aR h1,Ff,aR (by simpa using h1),List.filter_nil,gR]
theorem Cz {low:Int} {l:List Cert} (h:∀ c∈l,c.round>low):cy low l=l:=zd0.2 λc hc=>by simpa using h c hc
theorem pq (low:Int) (l:List Cert):(cy low l).length<=l.length:=mv ..
def pv (low:Int) (l:List Cert) (j:Nat):List Cert:=cy low (l.take j)++l.drop (cy low (l.take j)).length
theorem KA (c:Cert) (low:Int):zA 105 [c.av,.ptr 0 0] [.cells [.k low]] (pQ (.d (.bool (decide (c.round<=low)))) [.cells [.k low]]):=by
 refine y0 func105 ntmps105 ?_;exact ⟨rfl,rfl⟩
theorem Rx (l:List Cert) (hl:aU l) (low:Int):zA 157 [.arr 0,.fn 105 [.ptr 1 0]] [.row 47 6 (ah l) false,.cells [.k low]]
  (λav L=>((av = .k (-1)/\∀ c∈l,c.round>low)∨∃ k:Nat,av = .k k/\(∃ c,l[k]? = some c/\c.round<=low)/\∀ c∈l.take k,c.round>low)/\L=[.row 47 6 (ah l) false,.cells [.k low]]):=by
 have eM:=ak l;unfold aU at hl;refine dB func157 ntmps157 ?_;refine aH aF bf aG (σ:=Nat) (λj=>([(0,.arr 0),(1,.fn 105 [.ptr 1 0]),(7,.k l.length),(8,.k j)],[.row 47 6 (ah l) false,.cells [.k low]])) (λj=>j<=l.length/\∀ c∈l.take j,c.round>low) (λj=>l.length - j) [0,1,7,8] ?_ ?_
 ·conv=>whnf
  exact ⟨0,by rw [eM];rfl,rfl,br _,by simp⟩
 ·rintro j ⟨h1,h2⟩;refine cm ?_;repeat' (apply tw<;>intro _)
  ·have h:(j:Int)<l.length:=aM;refine eG l j λc hc=>?_;refine ⟨oM,oM,?_⟩
   conv=>whnf
   refine ⟨c.cs,aB hc,?_⟩;refine cm ?_;refine (KA c low).mono ?_;rintro _ _ ⟨rfl,rfl⟩;by_cases hr:c.round<=low
   ·rw [cz hr];refine cm ?_;exact ⟨.inr ⟨j,rfl,⟨c,hc,hr⟩,h2⟩,rfl⟩
   ·rw [aP hr];refine cm ?_;refine ⟨j+1,rfl,rfl,⟨oM,λx hx=>?_⟩,oM⟩;rw [iu,hc] at hx;rcases gA.1 hx with hx|hx
    ·exact h2 x hx
    ·simp at hx;subst hx;omega
  ·have h:¬(j:Int)<l.length:=aM;rw [gx oM] at h2;exact ⟨.inl ⟨rfl,h2⟩,rfl⟩
def Pn:List DV:=[.j 0,.j 0,.nils,.nils,.j 0,.nils]
theorem Wg (rd:Addr->Value->Prop):cR rd Pn [.j 0,.j 0,.slice none 0 0,.slice none 0 0,.j 0,.slice none 0 0]:=by
 unfold cR Pn;simp only [Cs,VD];exact ⟨_,_,rfl,rfl,rfl,_,_,rfl,rfl,rfl,_,_,rfl,rfl,rfl,_,_,rfl,rfl,rfl,_,_,rfl,rfl,rfl,_,_,rfl,rfl,rfl,rfl⟩
theorem G3 {low:Int} {l:List Cert} {j:Nat} (hj:j<=l.length):(cy low (l.take j)).length<=j:=fS (pq ..) (ze7 ..)
theorem Wh {low:Int} {l:List Cert} {j:Nat} (hj:j<=l.length):(pv low l j).length=l.length:=by
 have:=G3 (low:=low) hj;unfold pv;rw [iQ,tf];omega
theorem Wi {low:Int} {l:List Cert} {j:Nat} {c:Cert} (hc:l[j]? = some c):(pv low l j)[j]? = some c:=by
 have hj:=(dW.1 hc).1;have:=G3 (low:=low) (WX hj);unfold pv;rw [Ww oM,Dt,<-hc];congr 1;omega
theorem Wj {low:Int} {l:List Cert} {j:Nat} {c:Cert} (hc:l[j]? = some c) (hr:c.round>low):(pv low l j).set (cy low (l.take j)).length c=pv low l (j+1):=by
 have hj:=(dW.1 hc).1;have:=G3 (low:=low) (WX hj);unfold pv;rw [ju hc,bp hr,List.set_append_right _ _ (eQ _),zfB,zd9 oM,WQ,iQ,RF,uf];rfl
theorem EZ {low:Int} {l:List Cert} {j:Nat} {c:Cert} (hc:l[j]? = some c) (hr:¬c.round>low):pv low l j=pv low l (j+1):=by
 unfold pv;rw [ju hc,aR hr]
theorem Wk {low:Int} {l:List Cert} {k:Nat} (h:∀ c∈l.take k,c.round>low) (hk:k<=l.length):cy low (l.take k)=l.take k/\pv low l k=l:=by
 have h1:=Cz h;refine ⟨h1,?_⟩;unfold pv;rw [h1,mw,vd hk,KG]
def deS (low:Int) (l:List Cert) (j:Nat):AF×List AB:=([(0,.arr 0),(1,.fn 105 [.ptr 1 0]),(5,.d (.j (cy low (l.take j)).length)),(6,.k j)],[.row 47 6 (ah (pv low l j)) false,.cells [.k low]])
theorem Nj (l:List Cert) (hl:l.length<=1000000) (low:Int):zA 104 [.arr 0,.fn 105 [.ptr 1 0]] [.row 47 6 (ah l) false,.cells [.k low]]
  (λav L=>(av = .arr 0/\cy low l=l/\L=[.row 47 6 (ah l) false,.cells [.k low]])∨∃ xs,av = .d (.sl 6 (ah (cy low l)))/\L=[.row 47 6 xs true,.cells [.k low]]):=by
 refine uF aF bf aG 4 func104 rfl ntmps104 rfl true rfl ?_;refine cm ?_
 (refine Or.inr ?_;(conv=>whnf))
 refine (Rx l (by unfold aU;omega) low).mono ?_;rintro _ _ ⟨⟨rfl,bK⟩|⟨k,rfl,⟨c,hc,hr⟩,bK⟩,rfl⟩
 ·refine cm ?_;exact .inl ⟨rfl,Cz bK,rfl⟩
 ·have hk:=(dW.1 hc).1;refine cm ?_;obtain ⟨d1,d2⟩:=Wk bK (WX hk);have dk:(cy low (l.take k)).length=k:=by rw [d1,mw];omega
  refine aH aF bf aG (σ:=Nat) (deS low l) (λj=>j<=l.length) (λj=>l.length - j) [0,1,5,6] ?_ ?_
  ·conv=>whnf
   refine ⟨k+1,?_,?_,oM⟩
   ·simp only [deS];rw [ju hc,aR oM,dk];rfl
   ·simp only [deS];rw [<-EZ hc oM,d2]
  ·intro j hj;have zx:=Wh (low:=low) hj;have bR:=ak (pv low l j);have ij:=G3 (low:=low) hj;refine cm ?_;repeat' (apply tw<;>intro _)
   ·have h:(j:Int)<((ah (pv low l j)).length:Int):=aM;refine eG l j λy hy=>?_;have hgy:=Wi (low:=low) hy;refine ⟨oM,oM,?_⟩
    conv=>whnf
    refine ⟨y.cs,aB hgy,?_⟩;refine cm ?_;refine (KA y low).mono ?_;rintro _ _ ⟨rfl,rfl⟩;by_cases hyr:y.round<=low
    ·rw [cz hyr];refine cm ?_;refine ⟨j+1,?_,?_,(oM:j+1<=l.length),(oM:l.length - (j+1)<l.length - j)⟩
     ·simp only [deS];rw [ju hy,aR oM];rfl
     ·simp only [deS];rw [<-EZ hy oM]
    ·rw [aP hyr];refine cm ?_;refine ⟨oM,oM,?_⟩
     conv=>whnf
     refine nu (⟨_,ff oM⟩:∃ z,(pv low l j)[(cy low (l.take j)).length]? = some z) λz hz=>?_;refine ⟨z.cs,aB hz,?_⟩;refine cm ?_;have vo:=Wj (low:=low) hy oM;have dq:=ju (low:=low) hy;rw [bp oM] at dq;have n_:(cy low (l.take (j+1))).length=(cy low (l.take j)).length+1:=by rw [dq,iQ,RF]
     refine ⟨j+1,?_,?_,(oM:j+1<=l.length),(oM:l.length - (j+1)<l.length - j)⟩
     ·simp only [deS];rw [n_];rfl
     ·simp only [deS];rw [<-vo];simp [ah,Cert.cs]
   ·have h:¬(j:Int)<((ah (pv low l j)).length:Int):=aM;obtain rfl:j=l.length:=oM;rw [lD] at ij;refine x6 (IU aF bf aG (i:=0) (k:=(cy low l).length) rfl rfl (by rw [bR,zx];exact pq ..) rfl rfl rfl rfl (λx hx=>by cases hx;decide) (λx hx=>by cases hx;decide) rfl dC rfl (by (conv=>whnf);exact ⟨rfl,rfl⟩) (by (conv=>whnf);exact ⟨by rw [lD],rfl⟩) rfl rfl rfl rfl rfl rfl rfl rfl Pn rfl (λrd=>by have h:=Wg rd;simpa [cR,Cs,Pn,VD,Value.cells] using h) ⟨rfl,?_⟩);refine bH aF bf aG ?_
    conv=>whnf
    have e1:pv low l l.length=cy low l++l.drop (cy low l).length:=by unfold pv;rw [lD]
    have e2:(ah (pv low l l.length)).take (cy low l).length=ah (cy low l):=by
     rw [e1];simp [ah]
    (refine Or.inl ?_;(conv=>whnf))
    refine ⟨oM,oM,?_,?_⟩
    ·rw [e2,iQ,R9,ak,ak,zx,lD];omega
    ·conv=>whnf
     refine ⟨.inl rfl,.inr ⟨_,?_,rfl⟩⟩;rw [e2,lD,show ((cy low l).length:Int).toNat=(ah (cy low l)).length by rw [ak];rfl,List.take_left' rfl];rfl
def eP (low:Int) (l:List bb):List bb:=l.filter λc=>decide (c.round>low)
theorem kN {low:Int} {l:List bb} {j:Nat} {c:bb} (hc:l[j]? = some c):eP low (l.take (j+1))=if c.round>low then eP low (l.take j)++[c] else eP low (l.take j):=by
 unfold eP;rw [iu,hc,CC];show _++List.filter _ [c]=_;by_cases h1:c.round>low
 ·rw [bp h1,Ff,bp (by simpa using h1)];rfl
 ·rw [aR h1,Ff,aR (by simpa using h1),List.filter_nil,gR]
theorem E5 {low:Int} {l:List bb} (h:∀ c∈l,c.round>low):eP low l=l:=zd0.2 λc hc=>by simpa using h c hc
theorem te (low:Int) (l:List bb):(eP low l).length<=l.length:=mv ..
def pw (low:Int) (l:List bb) (j:Nat):List bb:=eP low (l.take j)++l.drop (eP low (l.take j)).length
theorem Po (c:bb) (low:Int):zA 156 [.agg (c.cs.map AV.d),.ptr 0 0] [.cells [.k low]] (pQ (.d (.bool (decide (c.round<=low)))) [.cells [.k low]]):=by
 refine y0 func156 ntmps156 ?_;exact ⟨rfl,rfl⟩
theorem Ry (l:List bb) (hl:aU l) (low:Int):zA 192 [.arr 0,.fn 156 [.ptr 1 0]] [.row 106 3 (ax l) false,.cells [.k low]]
  (λav L=>((av = .k (-1)/\∀ c∈l,c.round>low)∨∃ k:Nat,av = .k k/\(∃ c,l[k]? = some c/\c.round<=low)/\∀ c∈l.take k,c.round>low)/\L=[.row 106 3 (ax l) false,.cells [.k low]]):=by
 have eM:=aV l;unfold aU at hl;refine dB func192 ntmps192 ?_;refine aH aF bf aG (σ:=Nat) (λj=>([(0,.arr 0),(1,.fn 156 [.ptr 1 0]),(7,.k l.length),(8,.k j)],[.row 106 3 (ax l) false,.cells [.k low]])) (λj=>j<=l.length/\∀ c∈l.take j,c.round>low) (λj=>l.length - j) [0,1,7,8] ?_ ?_
 ·conv=>whnf
  exact ⟨0,by rw [eM];rfl,rfl,br _,by simp⟩
 ·rintro j ⟨h1,h2⟩;refine cm ?_;repeat' (apply tw<;>intro _)
  ·have h:(j:Int)<l.length:=aM;refine eG l j λc hc=>?_;refine ⟨oM,oM,?_⟩
   conv=>whnf
   refine ⟨c.cs,bJ hc,?_⟩;refine cm ?_;refine (Po c low).mono ?_;rintro _ _ ⟨rfl,rfl⟩;by_cases hr:c.round<=low
   ·rw [cz hr];refine cm ?_;exact ⟨.inr ⟨j,rfl,⟨c,hc,hr⟩,h2⟩,rfl⟩
   ·rw [aP hr];refine cm ?_;refine ⟨j+1,rfl,rfl,⟨oM,λx hx=>?_⟩,oM⟩;rw [iu,hc] at hx;rcases gA.1 hx with hx|hx
    ·exact h2 x hx
    ·simp at hx;subst hx;omega
  ·have h:¬(j:Int)<l.length:=aM;rw [gx oM] at h2;exact ⟨.inl ⟨rfl,h2⟩,rfl⟩
def Pp:List DV:=[.j 0,.j 0,.j 0]
theorem Wl (rd:Addr->Value->Prop):cR rd Pp [.j 0,.j 0,.j 0]:=by
 unfold cR Pp;simp only [Cs,VD];exact ⟨_,_,rfl,rfl,rfl,_,_,rfl,rfl,rfl,_,_,rfl,rfl,rfl,rfl⟩
theorem Ao {low:Int} {l:List bb} {j:Nat} (hj:j<=l.length):(eP low (l.take j)).length<=j:=fS (te ..) (ze7 ..)
theorem Wm {low:Int} {l:List bb} {j:Nat} (hj:j<=l.length):(pw low l j).length=l.length:=by
 have:=Ao (low:=low) hj;unfold pw;rw [iQ,tf];omega
theorem Wn {low:Int} {l:List bb} {j:Nat} {c:bb} (hc:l[j]? = some c):(pw low l j)[j]? = some c:=by
 have hj:=(dW.1 hc).1;have:=Ao (low:=low) (WX hj);unfold pw;rw [Ww oM,Dt,<-hc];congr 1;omega
theorem Wo {low:Int} {l:List bb} {j:Nat} {c:bb} (hc:l[j]? = some c) (hr:c.round>low):(pw low l j).set (eP low (l.take j)).length c=pw low l (j+1):=by
 have hj:=(dW.1 hc).1;have:=Ao (low:=low) (WX hj);unfold pw;rw [kN hc,bp hr,List.set_append_right _ _ (eQ _),zfB,zd9 oM,WQ,iQ,RF,uf];rfl
theorem E6 {low:Int} {l:List bb} {j:Nat} {c:bb} (hc:l[j]? = some c) (hr:¬c.round>low):pw low l j=pw low l (j+1):=by
 unfold pw;rw [kN hc,aR hr]
theorem Wp {low:Int} {l:List bb} {k:Nat} (h:∀ c∈l.take k,c.round>low) (hk:k<=l.length):eP low (l.take k)=l.take k/\pw low l k=l:=by
 have h1:=E5 h;refine ⟨h1,?_⟩;unfold pw;rw [h1,mw,vd hk,KG]
def deV (low:Int) (l:List bb) (j:Nat):AF×List AB:=([(0,.arr 0),(1,.fn 156 [.ptr 1 0]),(5,.d (.j (eP low (l.take j)).length)),(6,.k j)],[.row 106 3 (ax (pw low l j)) false,.cells [.k low]])
theorem Nk (l:List bb) (hl:l.length<=1000000) (low:Int):zA 155 [.arr 0,.fn 156 [.ptr 1 0]] [.row 106 3 (ax l) false,.cells [.k low]]
  (λav L=>(av = .arr 0/\eP low l=l/\L=[.row 106 3 (ax l) false,.cells [.k low]])∨∃ xs,av = .d (.sl 3 (ax (eP low l)))/\L=[.row 106 3 xs true,.cells [.k low]]):=by
 refine uF aF bf aG 4 func155 rfl ntmps155 rfl true rfl ?_;refine cm ?_
 (refine Or.inr ?_;(conv=>whnf))
 refine (Ry l (by unfold aU;omega) low).mono ?_;rintro _ _ ⟨⟨rfl,bK⟩|⟨k,rfl,⟨c,hc,hr⟩,bK⟩,rfl⟩
 ·refine cm ?_;exact .inl ⟨rfl,E5 bK,rfl⟩
 ·have hk:=(dW.1 hc).1;refine cm ?_;obtain ⟨d1,d2⟩:=Wp bK (WX hk);have dk:(eP low (l.take k)).length=k:=by rw [d1,mw];omega
  refine aH aF bf aG (σ:=Nat) (deV low l) (λj=>j<=l.length) (λj=>l.length - j) [0,1,5,6] ?_ ?_
  ·conv=>whnf
   refine ⟨k+1,?_,?_,oM⟩
   ·simp only [deV];rw [kN hc,aR oM,dk];rfl
   ·simp only [deV];rw [<-E6 hc oM,d2]
  ·intro j hj;have zx:=Wm (low:=low) hj;have bR:=aV (pw low l j);have ij:=Ao (low:=low) hj;refine cm ?_;repeat' (apply tw<;>intro _)
   ·have h:(j:Int)<((ax (pw low l j)).length:Int):=aM;refine eG l j λy hy=>?_;have hgy:=Wn (low:=low) hy;refine ⟨oM,oM,?_⟩
    conv=>whnf
    refine ⟨y.cs,bJ hgy,?_⟩;refine cm ?_;refine (Po y low).mono ?_;rintro _ _ ⟨rfl,rfl⟩;by_cases hyr:y.round<=low
    ·rw [cz hyr];refine cm ?_;refine ⟨j+1,?_,?_,(oM:j+1<=l.length),(oM:l.length - (j+1)<l.length - j)⟩
     ·simp only [deV];rw [kN hy,aR oM];rfl
     ·simp only [deV];rw [<-E6 hy oM]
    ·rw [aP hyr];refine cm ?_;refine ⟨oM,oM,?_⟩
     conv=>whnf
     refine nu (⟨_,ff oM⟩:∃ z,(pw low l j)[(eP low (l.take j)).length]? = some z) λz hz=>?_;refine ⟨z.cs,bJ hz,?_⟩;refine cm ?_;have vo:=Wo (low:=low) hy oM;have dq:=kN (low:=low) hy;rw [bp oM] at dq;have n_:(eP low (l.take (j+1))).length=(eP low (l.take j)).length+1:=by rw [dq,iQ,RF]
     refine ⟨j+1,?_,?_,(oM:j+1<=l.length),(oM:l.length - (j+1)<l.length - j)⟩
     ·simp only [deV];rw [n_];rfl
     ·simp only [deV];rw [<-vo];simp [ax,bb.cs]
   ·have h:¬(j:Int)<((ax (pw low l j)).length:Int):=aM;obtain rfl:j=l.length:=oM;rw [lD] at ij;refine x6 (IU aF bf aG (i:=0) (k:=(eP low l).length) rfl rfl (by rw [bR,zx];exact te ..) rfl rfl rfl rfl (λx hx=>by cases hx;decide) (λx hx=>by cases hx;decide) rfl dC rfl (by (conv=>whnf);exact ⟨rfl,rfl⟩) (by (conv=>whnf);exact ⟨by rw [lD],rfl⟩) rfl rfl rfl rfl rfl rfl rfl rfl Pp rfl (λrd=>by have h:=Wl rd;simpa [cR,Cs,Pp,VD,Value.cells] using h) ⟨rfl,?_⟩);refine bH aF bf aG ?_
    conv=>whnf
    have e1:pw low l l.length=eP low l++l.drop (eP low l).length:=by unfold pw;rw [lD]
    have e2:(ax (pw low l l.length)).take (eP low l).length=ax (eP low l):=by
     rw [e1];simp [ax]
    (refine Or.inl ?_;(conv=>whnf))
    refine ⟨oM,oM,?_,?_⟩
    ·rw [e2,iQ,R9,aV,aV,zx,lD];omega
    ·conv=>whnf
     refine ⟨.inl rfl,.inr ⟨_,?_,rfl⟩⟩;rw [e2,lD,show ((eP low l).length:Int).toNat=(ax (eP low l)).length by rw [aV];rfl,List.take_left' rfl];rfl
def qH (d:Dag) (low:Int):Dag:=⟨d.nodes,low,cy low d.aa⟩
theorem xb {d:Dag} {low:Int} (c:Cert):c∈(qH d low).aa↔c∈d.aa/\c.round>low:=by
 show c∈d.aa.filter _↔_;rw [G7,jh]
theorem Nl {d:Dag} {low:Int} (hv:Valid d) (lo:d.low<=low/\low<=1099511627776):Valid (qH d low):=by
 have hl:=hv.low;have hs:(qH d low).aa.Sublist d.aa:=zd1;refine ⟨hv.nodes,⟨by have:=lo.1;show 0<=low;omega,lo.2⟩,fS hs.length_le hv.len,λc hc=>hv.aa c (hs.subset hc),λc hc=>(xb c).1 hc |>.2,hv.sorted.sublist hs,hv.dD.sublist (hs.map _),?_⟩;intro c hc hr x hx;obtain ⟨h1,h2⟩:=(xb c).1 hc;have hr:c.round>low+1:=hr;obtain ⟨c',k1,k2,k3⟩:=hv.here c h1 (by have:=lo.1;omega) x hx;exact ⟨c',(xb c').2 ⟨k1,oM⟩,k2,k3⟩
theorem Wq {l:List Cert} (hs:dJ l) (ha:Qd l) (low:Int):l.drop (pos l low 17)=cy low l:=by
 have h1:cy low (l.take (pos l low 17))=[]:=by
  unfold cy;rw [Nr];intro c hc;obtain ⟨j,hj,rfl⟩:=G4.1 hc;have hb:=(mg (r:=low) (a:=17) hs (ff (oM:j<l.length))).2 oM;have:=bh.1 hb;simp only [decide_eq_true_eq];omega
 have h2:cy low (l.drop (pos l low 17))=l.drop (pos l low 17):=by
  refine Cz λc hc=>?_;obtain ⟨j,hj⟩:=Ds hc;rw [Dt] at hj;have hb:=mg (r:=low) (a:=17) hs hj;have Eo:=ha c (fU hj);have:¬c.before low 17=true:=λh=>by have:=hb.1 h;omega
  rw [bh] at this;omega
 have h3:cy low l=cy low (l.take (pos l low 17))++cy low (l.drop (pos l low 17)):=by
  unfold cy;rw [<-CC,KG]
 rw [h3,h1,h2,tC]
theorem Rz (d:Dag) (hd:d.fit) (low:Int) (hr:gL low):zA 102 [d.av,.k low] [] (λav L=>av=(qH d low).av/\L=[]):=by
 have bR:=ak d.aa;have hpo:=Wq hd.sorted hd.Qd low;have h3:=uI d.aa low 17;have h4:=hd.aU;unfold aU at h4;refine dB func102 ntmps102 ?_;refine aQ (Ed d.aa low hd.aU hd.sorted hd.fit hr) ?_;have e:ah (cy low d.aa)=((ah d.aa).take (ah d.aa).length).drop (pos d.aa low 17):=by rw [<-hpo,lD];simp [ah,List.map_drop]
 refine cP XZ ?_
 repeat' (first|(refine jz ?_)|((with_reducible apply aC);(focus (intro K hK;(conv=>whnf);exact ⟨oM,oM,oM,hK⟩));(conv=>whnf))|((with_reducible apply eT);(focus ((conv=>whnf);intro K hK;(conv=>whnf);exact ⟨oM,oM,oM,hK⟩));(conv=>whnf))|fail)
 refine ⟨?_,rfl⟩;show AV.agg [_,_,AV.d (.sl 6 (List.drop (pos d.aa low 17) (List.take (ah d.aa).length (ah d.aa))))]=_;rw [<-e];rfl
theorem Nm (l:List bb) (hl:l.length<=1000000) (low:Int):zA 103 [.d (.sl 3 (ax l)),.k low] [] (pQ (.d (.sl 3 (ax (eP low l)))) []):=by
 refine gG func103 ntmps103 ?_;refine aQ (qi l oM) ?_
 (refine Or.inr ?_;(conv=>whnf))
 refine (Nk l hl low).mono ?_;rintro _ _ (⟨rfl,tG,rfl⟩|⟨xs,rfl,rfl⟩)
 ·conv=>whnf
  rw [tG];exact ⟨rfl,rfl⟩
 ·conv=>whnf
  exact ⟨rfl,rfl⟩
theorem KB (p:Prim) (h:p.aJ):zA 94 [p.nk] [] (pQ (.agg ((p.cs.take 15).map AV.d++[.arr 0])) [.row 47 6 (ah p.late) false]):=by
 refine CI func94 ntmps94 ?_;refine cP LU ?_;refine aQ (Aj p.aK h.aK) ?_;refine aQ (Ca p.aL h.aL) ?_;refine aQ (Cb p.aA h.aA) ?_;refine cP LV ?_;refine aQ (Cc p.aq h.aq.1 h.aq.2) ?_;refine aQ (ua p.late h.late.1 h.late.2) ?_;exact ⟨rfl,rfl⟩
def qY (p:Prim) (low:Int):Prim:={ p with aq:=qH p.aq low,aA:=eP low p.aA,late:=cy low p.late }
def fP (p:Prim) (low:Int):Prim:=(qY p low).jc (cT (qH p.aq low) (cy low p.late))
structure lz (p:Prim) (low:Int):Prop where
 may:ec p
 lo:p.aq.low<=low
 hi:low<=1099511627776
theorem xc {p:Prim} {low:Int} (h:lz p low) (hs:∀ c∈p.late,c.aJ) (hr:p.aq.aa.length+p.late.length<60000):lr (qY p low).aq (qY p low).late:=by
 refine ⟨Nl h.may.aq ⟨h.lo,h.hi⟩,?_,λc hc=>?_⟩
 ·have h1:=pq low p.aq.aa;have h2:=pq low p.late;show (cy low p.aq.aa).length+(cy low p.late).length<=60000;omega
 ·have hm:c∈p.late:=(G7.1 hc).1;exact ⟨by have:=h.may.late.aa c hm;rw [<-h.may.same] at this;exact this,hs c hm⟩
theorem E7 (p:Prim) (low:Int):(∀ c∈(fP p low).aq.aa,c∈p.aq.aa∨c∈p.late)/\∀ c∈(fP p low).late,c∈p.late:=by
 have h:=Ci ((cy low p.late).length+1) (qH p.aq low) (cy low p.late);refine ⟨λc hc=>?_,λc hc=>(G7.1 (h.2 c hc)).1⟩;rcases h.1 c hc with h|h
 ·exact .inl ((xb c).1 h).1
 ·exact .inr (G7.1 h).1
theorem CA {p:Prim} {low:Int} (h:lr (qY p low).aq (qY p low).late):(fP p low).aq.aa.length+(fP p low).late.length<=p.aq.aa.length+p.late.length:=by
 have h1:=(qp h).len;have h2:=pq low p.aq.aa;have h3:=pq low p.late;have h4:(qY p low).aq.aa.length+(qY p low).late.length<=p.aq.aa.length+p.late.length:=by
  show (cy low p.aq.aa).length+(cy low p.late).length<=_;omega
 exact fS h1 h4
theorem E_ {p:Prim} {low:Int} (ht:p.aJ) (hr:p.aq.aa.length+p.late.length<60000) (h:lr (qY p low).aq (qY p low).late):(fP p low).aJ:=by
 have h1:=CA h;obtain ⟨f1,f2⟩:=E7 p low;refine ⟨ht.aK,ht.aL,fS (te ..) ht.aA,⟨by unfold Go.Proofs.YtolkmjfkkkiboaaGreat.aJ;omega,λc hc=>?_⟩,⟨by unfold Go.Proofs.YtolkmjfkkkiboaaGreat.aJ;omega,λc hc=>ht.late.2 c (f2 c hc)⟩⟩;rcases f1 c hc with h|h
 ·exact ht.aq.2 c h
 ·exact ht.late.2 c h
open Classical in
theorem Wr (p:Prim) (bw:p.ok) (ht:p.aJ) (hr:p.aq.aa.length+p.late.length<60000) (low:Int) (hl:i64 low) :
  zA 54 [p.nk,.k low] [] (λav L=>((lz p low/\av = .tup [(fP p low).av,.k 0])∨(¬lz p low/\av = .tup [.agg gM,.k 1]))/\L=[]):=by
 have hm:=ic p bw;refine gG func54 ntmps54 ?_;refine hm.mono ?_;rintro _ _ ⟨rfl,rfl⟩;by_cases k1:ec p
 ·rw [cz k1];have rL:=KB p ht;refine rdv ?_;repeat' (apply tw<;>intro _)
  ·have k2:low<p.aq.low:=aM;exact ⟨.inr ⟨λh=>by have:=h.lo;omega,rfl⟩,rfl⟩
  ·rename_i k2 k3;replace k3:low>1099511627776:=k3;exact ⟨.inr ⟨λh=>by have:=h.hi;omega,rfl⟩,rfl⟩
  ·have k2:¬low<p.aq.low:=aM;have k3:¬low>1099511627776:=aM;have hC:lz p low:=⟨k1,oM,oM⟩;have hlo:=k1.aq.low;have hlen:=k1.aq.len;have hdc:=Rz p.aq k1.aq.fit low ⟨oM,oM⟩;have hvc:=Nm p.aA (by have:=k1.aA.len;omega) low;have hde:=Nj p.late oM low;have MT:=xc hC ht.late.2 hr;have CJ:=BO (qY p low) [] MT;obtain ⟨q,hq⟩:∃ q,fP p low=q:=⟨_,rfl⟩;have hoq:=BW q (by rw [<-hq];exact E_ ht hr MT);rw [show (qY p low).jc (cT (qY p low).aq (qY p low).late)=q from hq] at CJ;rw [hq];refine aQ rL ?_;refine uH acj ?_
   repeat' (first|(refine jz ?_)|(refine tU hdc ?_)|(refine tV hdc ?_)|(refine uB hdc ?_)|(refine tU hvc ?_)|(refine tV hvc ?_)|(refine uB hvc ?_)|fail)
   (refine Or.inr ?_;(conv=>whnf))
   refine hde.mono ?_;rintro _ _ (⟨rfl,tG,rfl⟩|⟨xs,rfl,rfl⟩)
   ·refine rdv ?_;refine mV [(0,15)] rfl ?_
    conv=>whnf
    rw [qY,tG] at CJ;refine aQ CJ ?_;refine aQ hoq ?_;exact ⟨.inl ⟨hC,rfl⟩,rfl⟩
   ·refine rdv ?_;refine aQ CJ ?_;refine aQ hoq ?_;exact ⟨.inl ⟨hC,rfl⟩,rfl⟩
 ·rw [aP k1];refine rdv ?_;exact ⟨.inr ⟨λh=>k1 h.may,rfl⟩,rfl⟩
def ady (d:Dag) (low:Int):List Cert×Nat->AF×List AB
 | ([],j)=>([(1,.k low),(2,.ptr 0 0),(4,.ptr 1 0),(5,.ptr 2 0),(6,.k j)],[.cells d.cells,.cells [.k 0,.k 0,.d .nils],.cells [.k d.nodes,.k low,.d .nils]])
 | (c :: l,j)=>([(1,.k low),(2,.ptr 0 0),(4,.ptr 1 0),(5,.ptr 2 0),(6,.k j)],[.cells d.cells,.cells [.k 0,.k 0,.d .nils],.cells [.k d.nodes,.k low,.arr 3],.row 47 6 (ah (c :: l)) false])
def adz (d:Dag) (low:Int) (l:List Cert) (av:AV) (L:List AB):Prop:=(l=[]/\av = .agg [.k d.nodes,.k low,.d .nils]/\L=[])∨(l≠[]/\av = .agg [.k d.nodes,.k low,.arr 0]/\L=[.row 47 6 (ah l) false])
theorem RA (d:Dag) (h:Valid d) (low:Int):zA 99 [d.av,.k low] [] (adz d low (cy low d.aa)):=by
 have bR:=ak d.aa;have hlen:=h.len;refine CI func99 ntmps99 ?_;refine aH aF bf aG (σ:=List Cert×Nat) (ady d low) (λs=>s.2<=d.aa.length/\s.1=cy low (d.aa.take s.2)) (λs=>d.aa.length - s.2) [1,2,4,5,6] ?_ ?_
 ·conv=>whnf
  exact ⟨([],0),rfl,rfl,br _,rfl⟩
 ·rintro ⟨l,j⟩ ⟨hj,hl⟩;replace hj:j<=d.aa.length:=hj;replace hl:l=cy low (d.aa.take j):=hl;have eM:l.length<=d.aa.length:=by rw [hl];exact fS (mv ..) (CB ..)
  have Jm:=ak l
  cases l with
  | nil =>
    refine rdv ?_;repeat' (apply tw<;>intro _)
    ·rename_i dM;refine eG d.aa j λc hc=>?_;have Ag:=ju (low:=low) hc;have lK:=dF c (h.aJ.2 c (fU hc));refine ⟨oM,c.cs,aB hc,?_⟩;refine rdv ?_;repeat' (apply tw<;>intro _)
     ·rename_i hr;rw [bp hr,<-hl] at Ag;refine cP Un ?_
      ((with_reducible apply aC);(focus (intro K hK;(conv=>whnf);exact ⟨oM,c.cs,aB hc,hK⟩));(conv=>whnf))
      (refine eF ?_)
      refine aQ lK ?_
      ·refine ⟨by simp [Jm] at eM ⊢<;>omega,?_⟩;refine rdv ?_;refine ⟨(_,j+1),rfl,?_,⟨by show j+1<=_;omega,Ag.symm⟩,by show _ - (j+1)<_ - j;omega⟩;simp [ady,Dag.cells,ah,Cert.cs]
     ·rename_i hr;rw [aR hr,<-hl] at Ag;exact ⟨(_,j+1),rfl,rfl,⟨by show j+1<=_;omega,Ag.symm⟩,by show _ - (j+1)<_ - j;omega⟩
    ·rename_i dM;have:j=d.aa.length:=oM;subst this;rw [lD] at hl;rw [<-hl]
     first|exact .inl ⟨rfl,rfl,rfl⟩|exact .inr ⟨by simp,rfl,rfl⟩
  | cons c1 l =>
    refine rdv ?_;repeat' (apply tw<;>intro _)
    ·rename_i dM;refine eG d.aa j λc hc=>?_;have Ag:=ju (low:=low) hc;have lK:=dF c (h.aJ.2 c (fU hc));refine ⟨oM,c.cs,aB hc,?_⟩;refine rdv ?_;repeat' (apply tw<;>intro _)
     ·rename_i hr;rw [bp hr,<-hl] at Ag;refine cP Un ?_
      ((with_reducible apply aC);(focus (intro K hK;(conv=>whnf);exact ⟨oM,c.cs,aB hc,hK⟩));(conv=>whnf))
      (refine eF ?_)
      refine aQ lK ?_
      ·refine ⟨by simp [Jm] at eM ⊢<;>omega,?_⟩;refine rdv ?_;refine ⟨(_,j+1),rfl,?_,⟨by show j+1<=_;omega,Ag.symm⟩,by show _ - (j+1)<_ - j;omega⟩;simp [ady,Dag.cells,ah,Cert.cs]
     ·rename_i hr;rw [aR hr,<-hl] at Ag;exact ⟨(_,j+1),rfl,rfl,⟨by show j+1<=_;omega,Ag.symm⟩,by show _ - (j+1)<_ - j;omega⟩
    ·rename_i dM;have:j=d.aa.length:=oM;subst this;rw [lD] at hl;rw [<-hl]
     first|exact .inl ⟨rfl,rfl,rfl⟩|exact .inr ⟨by simp,rfl,rfl⟩
theorem Nn (d:Dag) (h:Valid d) (low:Int):zA 99 [d.av,.k low] [] (λav L=>av=(qH d low).av/\L=[]):=by
 have h1:zA 99 [d.av,.k low] [] (pQ (.agg [.k d.nodes,.k low,.d (cDn (qH d low).aa)]) []):=by
  refine bT (RA d h low) ?_;rintro _ _ (⟨hl,rfl,rfl⟩|⟨hl,rfl,rfl⟩)
  ·rw [show (qH d low).aa=[] from hl]
   conv=>whnf
   exact ⟨rfl,rfl⟩
  ·show OL _ _ _;obtain ⟨c,l,e⟩:=List.exists_cons_of_ne_nil hl;rw [show (qH d low).aa=c :: l from e,e]
   conv=>whnf
   exact ⟨rfl,rfl⟩
 refine vM h1 ?_;rintro _ _ ⟨rfl,rfl⟩;exact ⟨_,⟨rfl,rfl⟩,U1 _⟩
theorem No (l:List bb) (hl:l.length<=1000000) (low:Int):zA 100 [.d (.sl 3 (ax l)),.k low] [] (pQ (.d (.sl 3 (ax (eP low l)))) []):=by
 have bR:=aV l;refine gG func100 ntmps100 ?_;refine aH aF bf aG (σ:=Nat) (λj=>([(0,.d (.sl 3 (ax l))),(1,.k low),(5,.arr 0),(6,.k j)],[.row 106 3 (ax (eP low (l.take j))) false])) (λj=>j<=l.length) (λj=>l.length - j) [0,1,5,6] ?_ ?_
 ·conv=>whnf
  exact ⟨0,rfl,rfl,br _⟩
 ·intro j hj;have KM:(ax (eP low (l.take j))).length<=l.length:=by rw [aV];exact fS (mv ..) (CB ..)
  refine rdv ?_;repeat' (apply tw<;>intro _)
  ·have dM:(j:Int)<((ax l).length:Int):=aM;refine eG l j λx hx=>?_;have dq:=kN (low:=low) hx;refine ⟨oM,x.cs,bJ hx,?_⟩;refine rdv ?_;repeat' (apply tw<;>intro _)
   ·have hr:x.round>low:=aM;rw [bp hr] at dq;refine ⟨oM,x.cs,bJ hx,?_⟩;refine rdv ?_;refine ⟨by simp;omega,?_⟩;refine rdv ?_;refine ⟨j+1,rfl,?_,oM,oM⟩;rw [dq];simp [ax,bb.cs]
   ·have hr:¬x.round>low:=aM;rw [aR hr] at dq;exact ⟨j+1,rfl,by rw [dq],oM,oM⟩
  ·have dM:¬(j:Int)<((ax l).length:Int):=aM;have:l.take j=l:=gx oM;rw [this];exact ⟨rfl,rfl⟩
def adA (p:Prim) (low:Int) (j:Nat):AF×List AB:=([(1,.k low),(2,.ptr 0 0),(5,.ptr 1 0),(6,.arr 2),(7,.k j)],[.cells (p.cs.map AV.d),.cells (({ p with aq:=qH p.aq low,aA:=eP low p.aA }:Prim).cs.map AV.d++[.arr 3]),.row 47 6 (ah (cy low (p.late.take j))) false,.row 49 18 (bZ []) false])
theorem RB (p:Prim) (low:Int) (hC:lz p low) (ht:p.aJ) (hr:p.aq.aa.length+p.late.length<60000):zA 53 [p.av,.k low] [] (pQ (.ptr 0 0) ((fP p low).st [])):=by
 have BU:=dH p ht;have h1:=Nn p.aq hC.may.aq low;have h2:=No p.aA (by have:=hC.may.aA.len;omega) low;have MT:=xc hC ht.late.2 hr;have Gg:=EP (qY p low) [] MT;rw [show (qY p low).jc (cT (qY p low).aq (qY p low).late)=fP p low from rfl] at Gg;have bR:=ak p.late;refine Qa func53 ntmps53 ?_;refine aQ BU ?_;refine aQ h1 ?_;refine aQ h2 ?_;refine aH aF bf aG (σ:=Nat) (adA p low) (λj=>j<=p.late.length) (λj=>p.late.length - j) [1,2,5,6,7] ?_ ?_
 ·conv=>whnf
  exact ⟨0,rfl,rfl,br _⟩
 ·intro j hj;have KM:(ah (cy low (p.late.take j))).length<=p.late.length:=by rw [ak];exact fS (mv ..) (CB ..)
  refine rdv ?_;repeat' (apply tw<;>intro _)
  ·have dM:(j:Int)<((ah p.late).length:Int):=aM;refine eG p.late j λx hx=>?_;have dq:=ju (low:=low) hx;have lK:=dF x (ht.late.2 x (fU hx));refine ⟨oM,x.cs,aB hx,?_⟩;refine rdv ?_;repeat' (apply tw<;>intro _)
   ·have hr:x.round>low:=aM;rw [bp hr] at dq;refine ⟨oM,x.cs,aB hx,?_⟩;refine rdv ?_;refine aQ lK ?_;refine ⟨by simp;omega,?_⟩;refine rdv ?_;refine ⟨j+1,rfl,?_,(oM:j+1<=p.late.length),(oM:p.late.length - (j+1)<p.late.length - j)⟩;simp only [adA];rw [dq];rw [show ah (cy low (p.late.take j)++[x])=ah (cy low (p.late.take j))++[x.cs] by simp [ah]];rfl
   ·have hr:¬x.round>low:=aM;rw [aR hr] at dq;exact ⟨j+1,rfl,by simp only [adA];rw [dq];rfl,(oM:j+1<=p.late.length),(oM:p.late.length - (j+1)<p.late.length - j)⟩
  ·have dM:¬(j:Int)<((ah p.late).length:Int):=aM;have hta:p.late.take j=p.late:=gx oM;rw [hta];refine mV [(0,15)] rfl ?_
   conv=>whnf
   refine aQ Gg ?_;exact ⟨rfl,rfl⟩
def adB (q:Prim) (e:Int):AV := .tup [q.ai 0,.k e]
theorem adC {p:Prim} {low:Int} (bw:p.ok) (hf:p.iF) (ht:p.aJ) (hr:p.aq.aa.length+p.late.length<60000) (h:lz p low):(fP p low).ok/\(fP p low).iF/\(aU (fP p low).aq.aa/\∀ c∈(fP p low).aq.aa,gr c)/\(aU (fP p low).late/\∀ c∈(fP p low).late,gr c):=by
 have MT:=xc h ht.late.2 hr;have h1:=CA MT;have hk:=qp MT;obtain ⟨f1,f2⟩:=E7 p low;have hv:(fP p low).aA.length<=p.aA.length:=te ..;have CX:=hf.aA;have hvk:=bw.aA;have e1:(fP p low).aq.aa.length<=60000:=oM;have e2:(fP p low).late.length<=60000:=oM;have g1:∀ {Q:Cert->Prop},(∀ c∈p.aq.aa,Q c)->(∀ c∈p.late,Q c)->∀ c∈(fP p low).aq.aa,Q c:=λa b c hc=>(f1 c hc).elim (a c) (b c);refine ⟨⟨bw.aK,bw.sigs,bw.aL,by unfold aU at *;omega,⟨?_,?_,by unfold aU;omega,g1 bw.aq.aa.2 bw.late.2⟩,by unfold aU;omega,λc hc=>bw.late.2 c (f2 c hc)⟩,⟨hf.aE,hf.ao,hf.aL,oM,⟨oM,g1 hf.aq.2 hf.late.2⟩,oM,λc hc=>hf.late.2 c (f2 c hc)⟩,
  ⟨by unfold aU;omega,λc hc=>eD (g1 hf.aq.2 hf.late.2 c hc)⟩,⟨by unfold aU;omega,λc hc=>eD (hf.late.2 c (f2 c hc))⟩⟩
 ·have:(fP p low).aq.nodes=p.aq.nodes:=hk.nodes;rw [this];exact bw.aq.nodes
 ·have:(fP p low).aq.low=low:=hk.low;have h2:=h.hi;have h3:=h.lo;have h4:=h.may.aq.low;rw [this];exact ⟨oM,oM⟩
open Classical in
theorem Ws (p:Prim) (bw:p.ok) (ht:p.aJ) (hr:p.aq.aa.length+p.late.length<60000) (low:Int) (hl:i64 low):zA 54 [p.av,.k low] [] (λav L=>((lz p low/\av=adB (fP p low) 0)∨(¬lz p low/\av=adB zP 1))/\∃ lo n,L=[.aN lo n true]):=by
 refine oY (ll (X:=λav=>(lz p low/\av = .tup [(fP p low).av,.k 0])∨(¬lz p low/\av = .tup [.agg gM,.k 1])) (post:=λav=>(lz p low/\av=adB (fP p low) 0)∨(¬lz p low/\av = .tup [.agg gM,.k 1])) (.cons (nm [] p) (.cons (.inl (cE _)) .nil)) (Wr p bw ht hr low hl) ?_) ?_
 ·rintro _ (⟨k,rfl⟩|⟨k,rfl⟩)
  ·exact ⟨_,.inr ⟨_,_,rfl,rfl,.cons (td _ _) (.cons (.inl (bE _)) .nil)⟩,.inl ⟨k,rfl⟩⟩
  ·exact ⟨_,.inr ⟨_,_,rfl,rfl,.cons (Ch _) (.cons (.inl (bE _)) .nil)⟩,.inr ⟨k,rfl⟩⟩
 ·rintro _ _ ⟨⟨k,rfl⟩|⟨k,rfl⟩,lo,n,rfl⟩
  ·exact ⟨_,.inl (.inl (cZ _)),.inl ⟨k,rfl⟩,lo,n,rfl⟩
  ·refine ⟨_,.inr ⟨_,_,rfl,rfl,.cons (.inr ⟨_,_,rfl,rfl,?_⟩) (.cons (.inl (cZ _)) .nil)⟩,.inr ⟨k,rfl⟩,lo,n,rfl⟩;exact .cons (cZ _) (.cons (cZ _) (.cons (cZ _) (.cons (cZ _) (.cons (cZ _) (.cons (cZ _) (.cons (cZ _) (.cons (zG dC) (.cons (zG dC) (.cons (cZ _) (.cons (zG dC) (.cons (zG dC) (.cons (cZ _) (.cons (cZ _) (.cons (zG dC) (.cons (zG dC) .nil)))))))))))))))
theorem Pq:zA 61 [.arr 0,.arr 1] [.row 49 18 [] false,.row 49 18 [] false] (pQ (.d (.bool true)) [.row 49 18 [] false,.row 49 18 [] false]) :=
 bS (cG _) ⟨_,_,rfl,.inl (sq rfl),_,_,rfl,.inl (sq rfl),rfl⟩ (zj [] (br _) λ_ h=>by cases h)
theorem Fb:zA 60 [.arr 0] [.row 49 18 [] false] (pQ (.tup []) [.dead]):=by
 refine gG func60 ntmps60 ?_;refine aH aF bf aG (σ:=Unit) (λ_=>([(0,.arr 0),(2,.k 0)],[.row 49 18 [] false])) (λ_=>True) (λ_=>0) [0,2] ?_ ?_
 ·conv=>whnf
  exact ⟨(),rfl,rfl,trivial⟩
 ·intro _ _;refine rdv ?_;refine ⟨dC,?_⟩
  conv=>whnf
  exact ⟨rfl,rfl⟩
end Go.Proofs.YtolkmjfkkkiboaaGreat
