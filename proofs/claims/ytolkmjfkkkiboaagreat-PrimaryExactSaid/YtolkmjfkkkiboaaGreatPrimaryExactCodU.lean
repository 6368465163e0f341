/- PrimaryExact: contracts. -/
import Derived.Test.YtolkmjfkkkiboaaGreatPrimaryExactCodS
set_option linter.all false
set_option maxHeartbeats 8000000
set_option maxRecDepth 100000
namespace Go.Proofs.YtolkmjfkkkiboaaGreat
open Go.Ab Go.RowKit Go.MapKept Tryz
attribute [local irreducible] ay AW cw eA eo bL
theorem GX (c:Cert):zA 131 [c.nk] [] (pQ (.d (rh c.round c.af)) []):=by
 refine dB func131 ntmps131 ?_;refine (gW c.round c.af).mono ?_;rintro _ _ ⟨rfl,rfl⟩
 conv=>whnf
 exact ⟨rfl,rfl⟩
theorem Cq (d:Dag) (hd:d.fit) (c:Cert) (hc:aJ c.ao) (hr:gL c.round) (RX:1<=c.round) (fb:0<=d.low/\d.low<=1099511627776):zA 194 [d.av,c.Dl] [] (pQ (.d (.sl 1 (nums (bm d c)))) []):=by
 have fT:=nums_length c.ao;have qx:aU (mW d.aa (c.round - 1)):=by
  have:=hd.aU;unfold aU at this ⊢;exact fS (mv ..) this
 unfold aJ at hc;unfold gL at hr;refine gG func194 ntmps194 ?_;repeat' (apply tw<;>intro _)
 ·rename_i h;rw [bm,bp h];exact ⟨rfl,rfl⟩
 ·rename_i h;rw [bm,aR h];refine (rS d hd (c.round - 1) (by unfold gL;omega)).mono ?_;rintro _ _ ⟨rfl,rfl⟩;obtain ⟨A,hA⟩:∃ A,mW d.aa (c.round - 1)=A:=⟨_,rfl⟩;rw [hA] at qx ⊢
  conv=>whnf
  refine aH aF bf aG (σ:=Nat) (λj=>([(5,.d (.sl 6 (ah A))),(20,.d (.slo 1 (nums c.ao))),(21,.k c.ao.length),(22,.k j),(4,.arr 0)],[.row 3 1 (nums ((c.ao.take j).filter λx => !A.any λy=>y.ae == x)) false])) (λj=>j<=c.ao.length) (λj=>c.ao.length - j) [5,20,21,22,4] ?_ ?_
  ·conv=>whnf
   exact ⟨0,by rw [fT];rfl,rfl,br _⟩
  ·intro j hj;have KM:(nums ((c.ao.take j).filter λx => !A.any λy=>y.ae == x)).length<=c.ao.length:=by rw [nums_length];exact fS (mv ..) (CB ..)
   refine rdv ?_;repeat' (apply tw<;>intro _)
   ·rename_i dM;refine eG c.ao j λx hx=>?_;refine ⟨oM,[.j x],bD hx,?_⟩
    conv=>whnf
    refine (Gj A qx x).mono ?_;rintro _ _ ⟨rfl,rfl⟩;have dq:∀ b,(A.any λy=>y.ae == x)=b->(c.ao.take (j+1)).filter (λx => !A.any λy=>y.ae == x)=(c.ao.take j).filter (λx => !A.any λy=>y.ae == x)++(if b then [] else [x]):=by
     intro b hb;rw [iu,hx,CC]
     cases b<;>simp [Ff,hb]
    obtain ⟨b,hb⟩:∃ b,(A.any λy=>y.ae == x)=b:=⟨_,rfl⟩;rw [hb];replace dq:=dq b hb
    cases b with
    | true =>
      refine rdv ?_;exact ⟨j+1,rfl,by rw [dq];simp,oM,oM⟩
    | false =>
      refine rdv ?_;refine ⟨by simp;omega,?_⟩;refine rdv ?_;refine ⟨j+1,rfl,?_,oM,oM⟩;rw [dq,<-db];rfl
   ·rename_i dM;obtain rfl:j=c.ao.length:=oM;rw [lD];exact ⟨rfl,rfl⟩
theorem GY (d:Dag) (hd:d.fit) (hl:d.aa.length<=4294967296) (fb:0<=d.low/\d.low<=1099511627776) (c:Cert) (hc:c.aJ) (hr:gL c.round) (RX:1<=c.round) (ha:gL c.af) :
  zA 158 [d.av,c.nk] [] (λav L=>(cJ d c≠0/\av = .tup [d.av,.k (cJ d c)]/\L=[])∨(cJ d c=0/\av = .tup [.agg [.k d.nodes,.k d.low,.arr 0],.k 0]/\L=[.row 47 6 (ah (ye d c).aa) false])):=by
 have bR:=ak d.aa;have pA:=Cq d hd c hc.ao hr RX fb;have Db:=hd.aU;have hps:=uI d.aa c.round c.af;refine CI func158 ntmps158 ?_;refine cP Oz ?_;refine aQ (GX c) ?_;refine (wb d.aa c.round c.af hd.aU hd.sorted hd.fit hr ha).mono ?_;rintro _ _ ⟨rfl,rfl⟩
 cases ij:y3 d.aa c.round c.af with
 | none =>
   refine rdv ?_;repeat' (apply tw<;>intro _)
   ·rename_i h;have e:cJ d c=6:=by rw [cJ,bp h]
    rw [e];exact .inl ⟨dC,rfl,rfl⟩
   ·rename_i h;refine cP Af ?_;refine (Gj d.aa hd.aU c.ae).mono ?_;rintro _ _ ⟨rfl,rfl⟩
    cases Mf:d.aa.any (λy=>y.ae == c.ae) with
    | true =>
      have e:cJ d c=5:=by rw [cJ,aR h,ij];simp [Mf]
      refine rdv ?_;rw [e];exact .inl ⟨dC,rfl,rfl⟩
    | false =>
      refine rdv ?_;refine pA.mono ?_;rintro _ _ ⟨rfl,rfl⟩;obtain ⟨lk,BM⟩:∃ lk,bm d c=lk:=⟨_,rfl⟩;rw [BM]
      cases lk with
      | cons x r =>
        have e:cJ d c=7:=by rw [cJ,aR h,ij];simp [Mf,BM]
        refine rdv ?_;repeat' (apply tw<;>intro _)
        ·rw [e];exact .inl ⟨dC,rfl,rfl⟩
        ·rename_i hx;exact absurd (by show ((0:Int)<((nums (x :: r)).length:Int));rw [nums_length];simp) hx
      | nil =>
        have e:cJ d c=0:=by rw [cJ,aR h,ij];simp [Mf,BM]
        refine rdv ?_;refine cP I4 ?_;refine aQ (sQ d.aa oM) ?_;refine aQ (sk c hc) ?_
        (refine Or.inr ?_;(conv=>whnf))
        refine aQ (qg d.aa c _ hps hl) ?_;exact .inr ⟨e,rfl,rfl⟩
 | some y =>
   have UP:d.aa[pos d.aa c.round c.af]? = some y:=by
    rw [sN hd.sorted] at ij;exact (zd8.1 ij).1
   have bB:=(dW.1 UP).1;refine rdv ?_;repeat' (apply tw<;>intro _)
   ·rename_i h;have e:cJ d c=6:=by rw [cJ,bp h]
    rw [e];exact .inl ⟨dC,rfl,rfl⟩
   ·rename_i h;refine cP Af ?_
    ((with_reducible apply aC);(focus (intro K hK;(conv=>whnf);exact ⟨oM,y.cs,aB UP,hK⟩));(conv=>whnf))
    refine eF ?_;repeat' (apply tw<;>intro _)
    ·rename_i h2;have e:cJ d c=4:=by rw [cJ,aR h,ij];simp [h2]
     rw [e];exact .inl ⟨dC,rfl,rfl⟩
    ·rename_i h2;have e:cJ d c=5:=by rw [cJ,aR h,ij];simp [h2]
     rw [e];exact .inl ⟨dC,rfl,rfl⟩
theorem V6 (d:Dag) (hd:d.fit) (hl:d.aa.length<=4294967296) (fb:0<=d.low/\d.low<=1099511627776) (c:Cert) (hc:c.aJ) (hr:gL c.round) (RX:1<=c.round) (ha:gL c.af) :
  zA 158 [d.av,c.nk] [] (pQ (.tup [(gH d c).av,.k (cJ d c)]) []):=by
 refine bT (GY d hd hl fb c hc hr RX ha) ?_;rintro _ _ (⟨h,rfl,rfl⟩|⟨h,rfl,rfl⟩)
 ·rw [gH,aR h]
  conv=>whnf
  exact ⟨rfl,rfl⟩
 ·rw [gH,bp h,h]
  conv=>whnf
  exact ⟨rfl,rfl⟩
theorem M_ (p:Prim) (out:List aW) (ho:out.length<=1000000) (c:Cert) (bw:bM p.aq.nodes c) (lK:c.aJ) (hf:lr p.aq p.late) (eh:p.aq.aa.length+p.late.length<60000) (hs:ct p.late) (src:Int) :
  zA 168 [.ptr 0 0,c.nk,.k src] (p.st out) (λav L=>av = .tup []/\∃ j,L=(mB p c).sj j (out++tz p c src)):=by
 have ga:=bw.head.round;have Eo:=bw.head.af;have kx:=gQ hf.valid.nodes;have hr:=hf.room;have zC:=V6 p.aq hf.valid.fit oM hf.valid.low c lK ⟨oM,oM⟩ ga.1 ⟨oM,oM⟩;have bR:=ak p.late;have Db:aU p.late:=by unfold aU;omega
 have fT:=bw.head.ao.1;have pA:(bm p.aq c).length<=1000000:=by
  unfold bm;split
  ·exact br _
  ·exact fS (mv ..) oM
 have nP:=Cq p.aq hf.valid.fit c lK.ao ⟨oM,oM⟩ ga.1 hf.valid.low;refine oe ?_;refine Qa func168 ntmps168 ?_;refine uH OB ?_
 repeat' (first|(refine jz ?_;repeat' (apply tw<;>intro _))|(refine tU zC ?_)|(refine tV zC ?_))
 ·rename_i h0;have hfp:lr (gH p.aq c) p.late:=⟨na hf.valid bw oM,by have:=o9 p.aq c;omega,λx hx=>by rw [kK];exact hf.late x hx⟩;have CJ:=BO (p.jc (gH p.aq c,p.late)) out hfp;refine aQ CJ ?_;refine ⟨2,[],_,_,_,eQ _,rfl,rfl,rfl,rfl,false,?_⟩;rw [mB,bp h0,tz,aR (λh=>by have:=h.1;omega),gR];rfl
 ·rename_i h0 h7;refine aQ (yg p false out (by unfold aU;omega) hs c.ae) ?_;repeat' (apply tw<;>intro _)
  ·rename_i hb bB;have hi:=wq p.late c.ae;have qS:bN p.late c=p.late.take (bA p.late c.ae)++c :: p.late.drop (bA p.late c.ae):=by
    rw [bN,bp ⟨by revert hb;cases fI p.late c.ae<;>simp,by have h2:=bB;rw [bR] at h2;omega⟩]
   refine cP OC ?_;refine aQ (sQ p.late oM) ?_;refine aQ (sk c lK) ?_
   (refine Or.inr ?_;(conv=>whnf))
   refine (qg p.late c (bA p.late c.ae) hi oM).mono ?_;rintro _ _ ⟨rfl,rfl⟩;rw [<-qS];have Ju:ct (bN p.late c):=jU hs c;have BQ:aU (bN p.late c):=by unfold aU;have:=o_ p.late c;omega
   refine rdv ?_;repeat' (apply tw<;>intro _)
   ·rename_i gD;refine yT [(0,15)] rfl ?_;refine cP oZ ?_;refine aQ nP ?_;refine aQ (m9 { p with late:=bN p.late c } out BQ Ju (bm p.aq c) pA) ?_;refine (nO { p with late:=bN p.late c } out oM src 8 (bU (bN p.late c) (bm p.aq c)) (by unfold bU;exact fS (mv ..) pA)).mono ?_;rintro _ _ ⟨rfl,j,rfl⟩
    cases j
    ·refine rdv ?_;refine ⟨2,[],_,_,_,eQ _,rfl,rfl,rfl,rfl,false,?_⟩;rw [mB,aR h0,bp h7,tz,bp ⟨h7,gD⟩];rfl
    ·refine rdv ?_;refine ⟨3,[],_,_,_,by show 2<=3;omega,rfl,rfl,rfl,rfl,true,?_⟩;rw [mB,aR h0,bp h7,tz,bp ⟨h7,gD⟩];rfl
   ·rename_i gD;refine ⟨2,[(0,15)],_,_,_,eQ _,rfl,rfl,rfl,rfl,false,?_⟩;rw [mB,aR h0,bp h7,tz,aR (λh=>gD h.2),gR];rfl
  ·rename_i hb bB gD;have qS:bN p.late c=p.late:=by rw [bN,aR (λh=>bB (by have:=h.2;rw [bR];omega))]
   refine cP oZ ?_;refine aQ nP ?_;refine aQ (m9 p out Db hs (bm p.aq c) pA) ?_;refine (nO p out oM src 8 (bU (p).late (bm p.aq c)) (by unfold bU;exact fS (mv ..) pA)).mono ?_;rintro _ _ ⟨rfl,j,rfl⟩
   cases j
   ·refine rdv ?_;refine ⟨2,[],_,_,_,eQ _,rfl,rfl,rfl,rfl,false,?_⟩;rw [mB,aR h0,bp h7,tz,bp ⟨h7,gD⟩,qS];rfl
   ·refine rdv ?_;refine ⟨3,[],_,_,_,by show 2<=3;omega,rfl,rfl,rfl,rfl,true,?_⟩;rw [mB,aR h0,bp h7,tz,bp ⟨h7,gD⟩,qS];rfl
  ·rename_i hb bB gD;have qS:bN p.late c=p.late:=by rw [bN,aR (λh=>bB (by have:=h.2;rw [bR];omega))]
   refine ⟨2,[],_,_,_,eQ _,rfl,rfl,rfl,rfl,false,?_⟩;rw [mB,aR h0,bp h7,tz,aR (λh=>gD h.2),qS,gR];rfl
  ·rename_i hb gD;have qS:bN p.late c=p.late:=by rw [bN,aR (λh=>by rw [h.1] at hb;exact absurd hb dC)]
   refine cP oZ ?_;refine aQ nP ?_;refine aQ (m9 p out Db hs (bm p.aq c) pA) ?_;refine (nO p out oM src 8 (bU (p).late (bm p.aq c)) (by unfold bU;exact fS (mv ..) pA)).mono ?_;rintro _ _ ⟨rfl,j,rfl⟩
   cases j
   ·refine rdv ?_;refine ⟨2,[],_,_,_,eQ _,rfl,rfl,rfl,rfl,false,?_⟩;rw [mB,aR h0,bp h7,tz,bp ⟨h7,gD⟩,qS];rfl
   ·refine rdv ?_;refine ⟨3,[],_,_,_,by show 2<=3;omega,rfl,rfl,rfl,rfl,true,?_⟩;rw [mB,aR h0,bp h7,tz,bp ⟨h7,gD⟩,qS];rfl
  ·rename_i hb gD;have qS:bN p.late c=p.late:=by rw [bN,aR (λh=>by rw [h.1] at hb;exact absurd hb dC)]
   refine ⟨2,[],_,_,_,eQ _,rfl,rfl,rfl,rfl,false,?_⟩;rw [mB,aR h0,bp h7,tz,aR (λh=>gD h.2),qS,gR];rfl
 ·rename_i h0 h7;refine ⟨2,[],_,_,_,eQ _,rfl,rfl,rfl,rfl,false,?_⟩;rw [mB,aR h0,aR h7,tz,aR (λh=>h7 h.1),gR];rfl
theorem Ks (p:Prim) (m:aW) (hk:m.kind=6) (held:List Int) (bw:bM p.aq.nodes m.cert) (lK:m.cert.aJ) (hf:lr p.aq p.late) (eh:p.aq.aa.length+p.late.length<60000) (hs:ct p.late) :
  zA 117 [p.av,m.nk,.d (.slo 1 (nums held))] [] (pQ (.tup [(mB p m.cert).av,.d (.sl 18 (bZ (tz p m.cert m.src)))]) []):=by
 have fD:=M_ p [] (by simp) m.cert bw lK hf eh hs m.src;refine dB func117 ntmps117 ?_;rw [hk];refine eF ?_;repeat' (apply tw<;>intro _)
 ·rename_i h;exact absurd (show (6:Int)=4 from h) dC
 ·refine fD.mono ?_;rintro _ _ ⟨rfl,j,rfl⟩;rw [tC]
  cases j
  all_goals
   refine rdv ?_;refine cP wa ?_;exact ⟨rfl,rfl⟩
theorem V7 (p:Prim) (h:ec p) (hr:p.aq.aa.length+p.late.length<60000) (m:aW) (hm:aX p.nodes m) (k6:m.kind=6) (held:List Int) :
  zA 117 [p.av,m.nk,.d (.slo 1 (nums held))] [] (pQ (.tup [(iE p m held).av,.d (.sl 18 (bZ (fw p m held)))]) []):=by
 have k4:¬m.kind=4:=oM;have k5:¬m.kind=5:=oM;rw [iE,aR k4,aR k5,bp k6,fw,aR k4,aR k5,bp k6];exact Ks p m k6 held (by rw [h.same];exact hm.ok.cert k6) (dG h.fl (hm.ok.cert k6)) (h.cY (WX hr)) hr h.late.Dh
open Classical in
theorem Rn (p:Prim) (bw:p.ok) (hr:p.aq.aa.length+p.late.length<60000) (m:aW) (hf:m.cY) (hk:m.kind=6) (held:List Int) (hl:aU held) :
  zA 58 [p.nk,m.nk,.d (.slo 1 (nums held))] [] (λav L=>((dn p m held/\pe m/\av=sb (iE p m held) (fw p m held))∨(dn p m held/\¬pe m/\av=nj 10)∨(¬dn p m held/\av=nj 1))/\L=[]):=by
 have h1:=ic p bw;have h2:zA 114 [m.nk,.k p.nodes] [] (pQ (.d (.bool (decide (aX p.nodes m)))) []):=bS (cG _) ⟨_,_,rfl,Al m,_,_,rfl,.inl (bG _),rfl⟩ (nR m hf p.nodes);have h3:zA 115 [.d (.slo 1 (nums held))] [] (pQ (.d (.bool (decide (dh held 1 65536)))) []):=bS (cG _) ⟨_,_,rfl,.inl (iP (dV held)),rfl⟩ (gY held hl);have h4:=wP m.kind;refine gG func58 ntmps58 ?_;refine h1.mono ?_;rintro _ _ ⟨rfl,rfl⟩;by_cases k1:ec p
 ·rw [cz k1];refine rdv ?_;refine h2.mono ?_;rintro _ _ ⟨rfl,rfl⟩;by_cases k2:aX p.nodes m
  ·rw [cz k2];refine rdv ?_;repeat' (apply tw<;>intro _)
   ·rename_i k3;exact ⟨.inr (.inr ⟨λh=>k3 h.dst,rfl⟩),rfl⟩
   ·rename_i k3;refine h3.mono ?_;rintro _ _ ⟨rfl,rfl⟩;by_cases k4:dh held 1 65536
    ·rw [cz k4];have hC:dn p m held:=⟨k1,k2,k3,k4⟩;refine rdv ?_;refine h4.mono ?_;rintro _ _ ⟨rfl,rfl⟩;by_cases k5:m.kind∈[(4:Int),5,6,8]
     ·rw [cz k5];have rL:=ly p (k1.aJ bw.sigs);have V2:=V7 p k1 hr m k2 hk held;refine rdv ?_;refine cP LS ?_;refine aQ rL ?_;refine aQ V2 ?_;exact ⟨.inl ⟨hC,k5,rfl⟩,rfl⟩
     ·rw [aP k5];refine rdv ?_;exact ⟨.inr (.inl ⟨hC,k5,rfl⟩),rfl⟩
    ·rw [aP k4];refine rdv ?_;exact ⟨.inr (.inr ⟨λh=>k4 h.held,rfl⟩),rfl⟩
  ·rw [aP k2];refine rdv ?_;exact ⟨.inr (.inr ⟨λh=>k2 h.msg,rfl⟩),rfl⟩
 ·rw [aP k1];refine rdv ?_;exact ⟨.inr (.inr ⟨λh=>k1 h.may,rfl⟩),rfl⟩
theorem Zs {p:Prim} {c:Cert} {src:Int} (h1:0<src) (h2:src≠p.id):Zk p c src=tz p c src:=by
 unfold Zk tz;by_cases h:cJ p.aq c=7
 ·rw [bp ⟨h,h2⟩,bp ⟨h,h1⟩]
 ·rw [aR (λk=>h k.1),aR (λk=>h k.1)]
open Classical in
theorem Na (p:Prim) (k1:ec p) (bw:p.ok) (ht:p.aJ) (hr:p.aq.aa.length+p.late.length<60000) (m:aW) (hf:m.cY) (hk:m.kind=6) (held:List Int) (hl:aU held) :
  zA 56 [p.av,m.av,.d (.sl 1 (nums held))] [] (λav L=>(dn p m held/\Co (iE p m held) (fw p m held) av L)∨(¬dn p m held/\GQ p 1 av L)):=by
 have BU:=dH p ht;have h1:=VY hf hk (n:=p.nodes);have h2:=hU held hl;have h3:=g_ held hl;refine axz func56 ntmps56 ?_;refine qR BU ?_;refine h1.mono ?_;rintro _ _ ⟨rfl,rfl⟩;by_cases k2:aX p.nodes m
 rotate_left
 ·rw [aP k2];refine cm ?_;exact .inr ⟨λh=>k2 h.msg,rfl,rfl⟩
 rw [cz k2];refine cm ?_;repeat' (apply tw<;>intro _)
 ·rename_i k3;exact .inr ⟨λh=>k3 h.dst,rfl,rfl⟩
 have k3:m.dst=p.id:=aM;refine h2.mono ?_;rintro _ _ ⟨rfl,rfl⟩;by_cases k4:∀ x∈held,1<=x/\x<=65536
 rotate_left
 ·rw [aP k4];refine cm ?_;exact .inr ⟨λh=>k4 h.held.2,rfl,rfl⟩
 rw [cz k4];refine cm ?_;refine h3.mono ?_;rintro _ _ ⟨rfl,rfl⟩;by_cases k5:bq held
 rotate_left
 ·rw [aP k5];refine cm ?_;exact .inr ⟨λh=>k5 h.held.1,rfl,rfl⟩
 rw [cz k5];have hC:dn p m held:=⟨k1,k2,k3,⟨k5,k4⟩⟩;refine cm ?_;repeat' (apply tw<;>intro _)
 all_goals first|exact absurd hk (oM:¬m.kind=6)|exact absurd (show m.kind=4 by assumption) oM|exact absurd (show m.kind=5 by assumption) oM|skip
 have e1:iE p m held=mB p m.cert:=by rw [iE,aR oM,aR oM,bp hk]
 have e2:fw p m held=Zk p m.cert m.src:=by rw [fw,aR oM,aR oM,bp hk,Zs (by have:=k2.src;omega) (by rw [<-k3];exact k2.ne)]
 have hc:=k2.ok.cert hk;have hco:=Cm p [] (br _) m.cert (by rw [k1.same];exact hc) (dG k1.fl hc) ⟨k1.aq,oM,λc hc=>⟨by rw [k1.same];exact k1.late.aa c hc,ht.late.2 c hc⟩⟩ hr ht.late.2 k1.late.Dh m.src;rw [e1,e2];rw [tC] at hco;refine hco.mono ?_;rintro _ _ ⟨rfl,j,rfl⟩
 cases j
 all_goals
  refine cm ?_
  first
   | exact .inl ⟨hC,rfl,false,rfl⟩
   | exact .inl ⟨hC,rfl,true,rfl⟩
theorem Kt (p:Prim) (to kind:Int) {l:List Int} (hl:l.length<=1000000):∀ x∈jq p to kind l,x.nice:=by
 intro x hx;obtain ⟨d,hd,rfl⟩:=px.1 hx;have Pe:=nN hl d hd;exact ⟨⟨br _,eD j5,eD j5,by show d.length<=_;omega⟩,rfl,⟨br _,j5,j5,by show d.length<=_;omega⟩⟩
theorem Ph {p:Prim} {n:Int} {c:Cert} (hn:jA n=true) (h:eB n c):(bU (bN p.late c) (bm p.aq c)).length<=100000:=by
 have:=h.ao.1;have kx:=gQ hn;have h1:(bm p.aq c).length<=c.ao.length:=by
  unfold bm;split
  ·exact br _
  ·exact mv ..
 have h2:(bU (bN p.late c) (bm p.aq c)).length<=(bm p.aq c).length:=by unfold bU;exact mv ..
 omega
theorem Ku {p:Prim} {n:Int} {c:Cert} (hn:jA n=true) (h:eB n c) (src:Int):∀ x∈tz p c src,x.nice:=by
 unfold tz;split
 ·exact Kt p src 8 (by have:=Ph (p:=p) hn h;omega)
 ·intro x hx;cases hx
theorem Zt {p:Prim} {n:Int} {c:Cert} (hn:jA n=true) (h:eB n c) (src:Int):(tz p c src).length<=100000:=by
 unfold tz;split
 ·have:=Ph (p:=p) hn h;rw [jq,tg,d_];unfold qV;omega
 ·exact br _
theorem adm (p:Prim) (bw:p.ok) (ht:p.aJ) (hg:p.gh) (hr:p.aq.aa.length+p.late.length<60000) (m:aW) (hm:m.small) (hk:m.kind=6) (held:List Int) (hl:aU held):ES p m held (dn p m held) (iE p m held) (fw p m held) where
 M7:=λk1=>Na p k1 bw ht hr m hm.cY hk held hl
 prog:=wY (Rn p bw hr m hm.cY hk held hl) (xa (by unfold pe;rw [hk];simp)) (λhC x hx=>by
  rw [fw,aR oM,aR oM,bp hk] at hx;exact Ku hC.may.fl (hC.msg.ok.cert hk).head m.src x hx)
 may:=λh=>h.may
 qok:=λhC=>by
  have Dm:=sf hC.may hr hC.msg held;exact ⟨B9 Dm.may (Dm.gh hg),w6 Dm.may⟩
 nice:=λhC x hx=>by
  rw [fw,aR oM,aR oM,bp hk] at hx;exact Ku hC.may.fl (hC.msg.ok.cert hk).head m.src x hx
 len:=λhC=>by
  rw [fw,aR oM,aR oM,bp hk];exact Zt hC.may.fl (hC.msg.ok.cert hk).head m.src
theorem adn {l:List bb} {r a:Int} {k:Nat} {v:bb} (hv:l[k]? = some v) (h1:v.round=r/\v.af=a) (h2:∀ x∈l.take k,¬(x.round=r/\x.af=a)):Hg l r a=some v:=by
 obtain ⟨hk,rfl⟩:=dW.1 hv;rw [Hg,List.find?_eq_some_iff_getElem];refine ⟨by simpa using h1,k,hk,rfl,λj hj=>?_⟩;have:=h2 l[j] (G4.2 ⟨j,oM,rfl⟩);simp only [G6,zeK];exact this
theorem ado {l:List bb} {r a:Int} (h:∀ x∈l,¬(x.round=r/\x.af=a)):Hg l r a=none:=by
 rw [Hg,ZH];intro x hx;simpa using h x hx
theorem Pj (l:List bb) (hl:aU l) (r a:Int):zA 138 [.d (.sl 3 (ax l)),.k r,.k a] [] (pQ (.k (gI l r a)) []):=by
 have bR:=aV l;unfold aU at hl;refine gG func138 ntmps138 ?_;refine aH aF bf aG (σ:=Nat) (λk=>([(0,.d (.sl 3 (ax l))),(1,.k r),(2,.k a),(7,.k k)],[])) (λk=>k<=l.length/\∀ x∈l.take k,¬(x.round=r/\x.af=a)) (λk=>l.length - k) [0,1,2,7] ?_ ?_
 ·conv=>whnf
  exact ⟨0,rfl,rfl,br _,λx hx=>by simp at hx⟩
 ·rintro k ⟨hk,fu⟩;refine rdv ?_;repeat' (apply tw<;>intro _)
  ·have k1:(k:Int)<((ax l).length:Int):=aM;refine eG l k λv hv=>?_;have next:¬(v.round=r/\v.af=a)->∀ x∈l.take (k+1),¬(x.round=r/\x.af=a):=by
    intro hn x hx;rw [iu,hv] at hx;rcases gA.1 hx with hx|hx
    ·exact fu x hx
    ·simp at hx;subst hx;exact hn
   refine ⟨oM,v.cs,bJ hv,?_⟩;refine rdv ?_;repeat' (apply tw<;>intro _)
   ·have k2:v.round=r:=aM;refine ⟨oM,v.cs,bJ hv,?_⟩;refine rdv ?_;repeat' (apply tw<;>intro _)
    ·have k3:v.af=a:=aM;refine ⟨oM,v.cs,bJ hv,?_⟩;refine rdv ?_;refine ⟨?_,rfl⟩;rw [gI,adn hv ⟨k2,k3⟩ fu];rfl
    ·have k3:v.af≠a:=aM;exact ⟨k+1,rfl,rfl,⟨oM,next λh=>k3 h.2⟩,oM⟩
   ·have k2:v.round≠r:=aM;exact ⟨k+1,rfl,rfl,⟨oM,next λh=>k2 h.1⟩,oM⟩
  ·have k1:¬(k:Int)<((ax l).length:Int):=aM;rw [gx oM] at fu;refine ⟨?_,rfl⟩;rw [gI,ado fu];rfl
theorem uc (l:List bb) (hl:l.length<=1099511627776):zA 27 [.d (.sl 3 (ax l))] [] (pQ (.arr 0) [.row 106 3 (ax l) false]):=by
 have hx:=aV l;refine CI func27 ntmps27 ?_;refine aH aF bf aG (σ:=Nat) (λj=>([(0,.d (.sl 3 (ax l))),(3,.arr 0),(4,.k j)],[.row 106 3 (ax (l.take j)) false])) (λj=>j<=l.length) (λj=>l.length - j) [0,3,4] ?_ ?_
 ·conv=>whnf
  exact ⟨0,rfl,rfl,br _⟩
 ·intro j hj;have bB:=CB j l;have xw:=aV (l.take j);refine rdv ?_;repeat' (apply tw<;>intro _)
  ·have h:(j:Int)<((ax l).length:Int):=aM;refine eG l j λa ha=>?_;refine ⟨oM,a.cs,bJ ha,?_⟩;refine rdv ?_;refine ⟨by show ((ax (l.take j)).length+1) * 24<=_;omega,?_⟩;refine rdv ?_;refine ⟨j+1,rfl,?_,oM,oM⟩;rw [iu,ha,show ax (l.take j++(some a).toList)=ax (l.take j)++[a.cs] by simp [ax]];rfl
  ·have h:¬(j:Int)<((ax l).length:Int):=aM;rw [gx oM];exact ⟨rfl,rfl⟩
def aj2 (l:List bb) (v:bb) (k:Nat):AF×List AB:=([(0,.d (.sl 3 (ax l))),(3,.ptr 0 0),(7,.k k)],[.cells (v.cs.map AV.d)])
def agL:a_:=⟨[[],[],[1,0],[0,1,2],[],[4],[4,5,2,1,0,3],[3,0,1,2,5,4,6]],[0,1,2,4],[(3,[]),(5,[]),(6,[7])]⟩
def aaN:a_:=⟨[[],[],[1,0],[0,1,2],[],[4],[4,5,2,1,0,3],[3,0,1,2,5,4,6]],[0,1,2,4],[(5,[]),(3,[]),(6,[7])]⟩
open Classical in
theorem Kv (l:List bb) (h:cW l) (v:bb) (hv:h_ v):zA 89 [.d (.sl 3 (ax l)),v.av] [] (pQ (.tup [.d (.sl 3 (ax (jX l v))),.k (bX l v)]) []):=by
 have bR:=aV l;have hlen:=h.len;have hps:=Gx l v.round v.af;have h1:=J1 v;rw [cz hv] at h1;have h2:=Pj l h.aU v.round v.af;refine gG func89 ntmps89 ?_;refine aQ h1 ?_
 cases ij:Hg l v.round v.af with
 | some y =>
   have hy:h_ y:=h.aA y (zd7 ij);have e0:gI l v.round v.af=y.ae:=by rw [gI,ij];rfl
   rw [e0] at h2;have hyd:=hy.ae;by_cases k1:y.ae=v.ae
   ·have e:bX l v=4:=by rw [bX,ij];simp only;rw [bp k1]
    rw [jX,aR oM,e];refine aQ h2 ?_;repeat' (apply tw<;>intro _)
    all_goals first|exact ⟨rfl,rfl⟩|exact absurd k1 (by assumption)
   ·have e:bX l v=5:=by rw [bX,ij];simp only;rw [aR k1]
    rw [jX,aR oM,e];refine aQ h2 ?_;repeat' (apply tw<;>intro _)
    all_goals first|exact ⟨rfl,rfl⟩|exact absurd (by assumption) k1|skip
    all_goals exact absurd (oM:y.ae>0) (by assumption)
 | none =>
   have e0:gI l v.round v.af=0:=by rw [gI,ij];rfl
   rw [e0] at h2;have CY:=hv.ae;refine aQ h2 ?_;repeat' (apply tw<;>intro _)
   all_goals first|(rename_i k;exact absurd (show (0:Int)=v.ae from k) oM)|skip
   all_goals first|(rename_i k;exact absurd (show (0:Int)>0 from k) dC)|skip
   ·have k:((ax l).length:Int)≥65536:=aM;have e:bX l v=8:=by rw [bX,ij];simp only;rw [bp oM]
    rw [jX,aR oM,e];exact ⟨rfl,rfl⟩
   ·have k:¬((ax l).length:Int)≥65536:=aM;have e:bX l v=0:=by rw [bX,ij];simp only;rw [aR oM]
    rw [jX,bp e,e];refine aH aF bf aG (σ:=Nat) (aj2 l v) (λk=>k<=cI l v.round v.af) (λk=>l.length - k) [0,3,7] ?_ ?_
    ·conv=>whnf
     exact ⟨0,rfl,rfl,br _⟩
    ·intro i hii
     conv=>whnf
     refine uH XX ?_
     repeat' (first|(refine jz ?_;repeat' (apply tw<;>intro _))|fail)
     ·have k1:(i:Int)<((ax l).length:Int):=aM;refine eG l i λx hx=>?_;have hbf:=mX x.round x.af v.round v.af;have Ri:=nc (r:=v.round) (a:=v.af) h.sorted hx;rw [cQ] at Ri
      repeat' (first|(refine jz ?_;repeat' (apply tw<;>intro _))|((with_reducible apply aC);(focus (intro K hK;(conv=>whnf);exact ⟨oM,x.cs,bJ hx,hK⟩));(conv=>whnf))|((with_reducible apply aC);(focus (intro K hK;(conv=>whnf);exact iB hx (by first|rfl|omega) hK));(conv=>whnf))|(refine tU hbf ?_)|(refine tV hbf ?_)|(refine uB hbf ?_)|fail)
      ·rename_i k2;have k3:=Ri.1 k2;exact ⟨i+1,rfl,rfl,(oM:i+1<=cI l v.round v.af),(oM:l.length - (i+1)<l.length - i)⟩
      ·rename_i k2;have Sy:i=cI l v.round v.af:=by
        have:¬i<cI l v.round v.af:=λh=>k2 (Ri.2 h);omega
       subst Sy;clear hii;have dR:List.drop (Int.toNat 0) (List.take ((cI l v.round v.af:Int)).toNat (ax l))=ax (l.take (cI l v.round v.af)):=by
        rw [show (Int.toNat 0)=0 from rfl,RI,show ((cI l v.round v.af:Int)).toNat=cI l v.round v.af from rfl];simp [ax]
       have yM:zA 27 [.d (.sl 3 (List.drop (Int.toNat 0) (List.take ((cI l v.round v.af:Int)).toNat (ax l))))] [] (pQ (.arr 0) [.row 106 3 (ax (l.take (cI l v.round v.af))) false]):=by
        rw [dR];exact uc (l.take (cI l v.round v.af)) (by simp;omega)
       have e_:List.drop ((cI l v.round v.af:Int)).toNat (List.take ((ax l).length:Int).toNat (ax l))=ax (l.drop (cI l v.round v.af)):=by
        rw [show ((cI l v.round v.af:Int)).toNat=cI l v.round v.af from rfl,show ((ax l).length:Int).toNat=(ax l).length from rfl,lD];simp [ax]
       have sy:=aV (l.take (cI l v.round v.af));have kj:=aV (l.drop (cI l v.round v.af));have WH:(l.take (cI l v.round v.af)).length<=65536:=fS (CB ..) oM;have hl4:(l.drop (cI l v.round v.af)).length<=65536:=by rw [tf];omega
       have MY:ax (l.take (cI l v.round v.af))++[[DV.j v.round,.j v.af,.j v.ae]]++ax (l.drop (cI l v.round v.af))=ax (B1 l v):=by simp [B1,ax,bb.cs]
       (with_reducible refine oW aF bf aG cB agL aaN ?_ ?_)
       focus kernel_rfl
       refine rdv ?_
       ((with_reducible apply aC);(focus (intro K hK;(conv=>whnf);exact ⟨oM,oM,oM,hK⟩));(conv=>whnf))
       (refine eF ?_)
       constructor
       all_goals
        conv=>whnf
        repeat' (first|((with_reducible apply eT);(focus ((conv=>whnf);intro K hK;(conv=>whnf);exact ⟨oM,oM,oM,hK⟩));(conv=>whnf))|(refine jz ?_;repeat' (apply tw<;>intro _))|fail)
        refine yM.mono ?_;rintro _ _ ⟨rfl,rfl⟩
        conv=>whnf
        repeat' (first|((with_reducible apply eT);(focus ((conv=>whnf);intro K hK;(conv=>whnf);exact ⟨oM,oM,oM,hK⟩));(conv=>whnf))|(refine jz ?_)|fail)
        refine ⟨by simp;omega,?_⟩;refine rdv ?_;refine ⟨oM,oM,oM,?_⟩
        conv=>whnf
        rw [e_];refine ⟨by simp [ax];omega,?_⟩
        conv=>whnf
        rw [MY];exact ⟨rfl,rfl⟩
     ·have k1:¬(i:Int)<((ax l).length:Int):=aM;have Sy:i=cI l v.round v.af:=oM;subst Sy;clear hii;have dR:List.drop (Int.toNat 0) (List.take ((cI l v.round v.af:Int)).toNat (ax l))=ax (l.take (cI l v.round v.af)):=by
       rw [show (Int.toNat 0)=0 from rfl,RI,show ((cI l v.round v.af:Int)).toNat=cI l v.round v.af from rfl];simp [ax]
      have yM:zA 27 [.d (.sl 3 (List.drop (Int.toNat 0) (List.take ((cI l v.round v.af:Int)).toNat (ax l))))] [] (pQ (.arr 0) [.row 106 3 (ax (l.take (cI l v.round v.af))) false]):=by
       rw [dR];exact uc (l.take (cI l v.round v.af)) (by simp;omega)
      have e_:List.drop ((cI l v.round v.af:Int)).toNat (List.take ((ax l).length:Int).toNat (ax l))=ax (l.drop (cI l v.round v.af)):=by
       rw [show ((cI l v.round v.af:Int)).toNat=cI l v.round v.af from rfl,show ((ax l).length:Int).toNat=(ax l).length from rfl,lD];simp [ax]
      have sy:=aV (l.take (cI l v.round v.af));have kj:=aV (l.drop (cI l v.round v.af));have WH:(l.take (cI l v.round v.af)).length<=65536:=fS (CB ..) oM;have hl4:(l.drop (cI l v.round v.af)).length<=65536:=by rw [tf];omega
      have MY:ax (l.take (cI l v.round v.af))++[[DV.j v.round,.j v.af,.j v.ae]]++ax (l.drop (cI l v.round v.af))=ax (B1 l v):=by simp [B1,ax,bb.cs]
      (with_reducible refine oW aF bf aG cB agL aaN ?_ ?_)
      focus kernel_rfl
      refine rdv ?_
      ((with_reducible apply aC);(focus (intro K hK;(conv=>whnf);exact ⟨oM,oM,oM,hK⟩));(conv=>whnf))
      (refine eF ?_)
      constructor
      all_goals
       conv=>whnf
       repeat' (first|((with_reducible apply eT);(focus ((conv=>whnf);intro K hK;(conv=>whnf);exact ⟨oM,oM,oM,hK⟩));(conv=>whnf))|(refine jz ?_;repeat' (apply tw<;>intro _))|fail)
       refine yM.mono ?_;rintro _ _ ⟨rfl,rfl⟩
       conv=>whnf
       repeat' (first|((with_reducible apply eT);(focus ((conv=>whnf);intro K hK;(conv=>whnf);exact ⟨oM,oM,oM,hK⟩));(conv=>whnf))|(refine jz ?_)|fail)
       refine ⟨by simp;omega,?_⟩;refine rdv ?_;refine ⟨oM,oM,oM,?_⟩
       conv=>whnf
       rw [e_];refine ⟨by simp [ax];omega,?_⟩
       conv=>whnf
       rw [MY];exact ⟨rfl,rfl⟩
def ck (c:Cert):List AV:=[.k c.af,.k c.round,.d (.sl 1 (nums c.aE)),.d (.sl 1 (nums c.ao))]
def aqB (p:Prim) (out:List aW) (m:aW) (bs:List Int) (j:Bool):List AB:=if j then [.cells (p.cs.map AV.d++[.arr 5]),.dead,.cells (m.cs.map AV.d),.cells (ck m.head),.row 3 1 (nums bs) false,.row 49 18 (bZ out) false] else [.cells (p.cs.map AV.d++[.arr 1]),.row 49 18 (bZ out) false,.cells (m.cs.map AV.d),.cells (ck m.head),.row 3 1 (nums bs) false]
def adp (p:Prim) (out:List aW) (m:aW) (held lk bs:List Int) (j:Bool) (k:Nat):AF×List AB:=([(0,.ptr 0 0),(2,.d (.sl 1 (nums held))),(4,.ptr 2 0),(6,.ptr 3 0),(8,.d (.sl 1 (nums lk))),(9,.arr 4),(10,.k k)],aqB p out m bs j)
open Classical in
theorem Nb (p:Prim) (hv:Valid p.aq) (hvo:cW p.aA) (hl:p.late.length<=256) (out:List aW) (ho:out.length<=100000) (m:aW) (n:Int) (hh:eB n m.head) (hdg:1<=m.ae/\m.ae<=65536) (ef:m.src≠p.id) (held:List Int) (hhl:aU held) :
  zA 110 [.ptr 0 0,m.av,.d (.sl 1 (nums held))] (p.st out) (λav L=>av = .tup []/\∃ j,L=(eC p m held).sj j (out++fK p m held)):=by
 have kx:=gQ hh.fl;have ga:=hh.round;have Eo:=hh.af;have jl:=hh.aE.1;have fT:=hh.ao.1;have zx:=hv.len;have tG:h_ (gl m):=⟨ga,⟨Eo.1,by have:=Eo.2;have:=kx.2;show m.head.af<=16;omega⟩,hdg⟩;have aj5:(bm p.aq m.head).length<=1000:=by
  unfold bm;split
  ·exact br _
  ·exact fS (mv ..) oM
 have hlf:(bU p.late (bm p.aq m.head)).length<=1000:=fS (mv ..) aj5;have agN:aU p.late:=by unfold aU;omega
 have adq:=Pj p.aA hvo.aU m.head.round m.head.af;have nP:=kI p.aq (by unfold aU;omega) m.head oM ga;rw [uM hv] at nP;have Nc:=qs p out hv agN m.head oM ga;have tQ:=nr p out oM 8 m.src (bU p.late (bm p.aq m.head)) oM;rw [aR ef] at tQ;obtain ⟨Cr,Ct⟩:∃ o,out++jq p m.src 8 (bU p.late (bm p.aq m.head))=o:=⟨_,rfl⟩;rw [Ct] at tQ;have aj6:Cr.length<=200000:=by rw [<-Ct,iQ,jq,tg,d_];unfold qV;omega
 have jg:=nums_length m.head.aE;have V8:=Kv p.aA hvo (gl m) tG;refine gG func110 ntmps110 ?_;refine cP X2 ?_;repeat' (apply tw<;>intro _)
 ·rename_i h0;refine ⟨rfl,false,?_⟩;rw [eC,bp h0,fK,bp h0,gR];rfl
 ·rename_i h0;refine uH X3 ?_
  repeat' (first|(refine jz ?_;repeat' (apply tw<;>intro _))|(refine tU adq ?_)|(refine tV adq ?_)|(refine uB adq ?_)|fail)
  ·have h1:gI p.aA m.head.round m.head.af>0:=aM;have h2:gI p.aA m.head.round m.head.af=m.ae:=aM;have KS:=kM p out oM ((r7 m).Ki m.src);rw [pk] at KS;rw [h2];refine (bz KS (.cons (.refl _) (.cons (.agg ?_) .nil))).mono ?_
   ·repeat (first|exact .nil|refine .cons (.refl _) ?_|refine .cons (.nils _ dC) ?_)
   ·rintro _ _ ⟨rfl,rfl⟩;refine rdv ?_;refine ⟨rfl,true,?_⟩;rw [eC,aR h0,bp h1,fK,aR h0,bp h1,bp h2];rfl
  ·have h1:gI p.aA m.head.round m.head.af>0:=aM;have h2:¬gI p.aA m.head.round m.head.af=m.ae:=aM;refine ⟨rfl,false,?_⟩;rw [eC,aR h0,bp h1,fK,aR h0,bp h1,aR h2,gR];rfl
  ·have h1:¬gI p.aA m.head.round m.head.af>0:=aM;refine uH X4 ?_
   repeat' (first|(refine jz ?_)|(refine tU nP ?_)|(refine tV nP ?_)|(refine uB nP ?_)|fail)
   refine uH X5 ?_
   repeat' (first|(refine jz ?_)|(refine tU Nc ?_)|(refine tV Nc ?_)|(refine uB Nc ?_)|fail)
   refine tQ.mono ?_;rintro _ _ ⟨rfl,j,rfl⟩
   cases j
   all_goals
    refine rdv ?_
    first
     | (refine dw aF bf aG (σ:=List Int) (ρ:=Nat) (λbs k=>adp p Cr m held (bm p.aq m.head) bs false k) (λbs k=>k<=m.head.aE.length/\bs=kd held (m.head.aE.take k)) (λ_ k=>m.head.aE.length - k) [0,2,4,6,8,9,10] ?_ ?_
        focus (conv=>whnf
               exact ⟨[],0,rfl,rfl,br _,by simp [kd]⟩))
     | (refine dw aF bf aG (σ:=List Int) (ρ:=Nat) (λbs k=>adp p Cr m held (bm p.aq m.head) bs true k) (λbs k=>k<=m.head.aE.length/\bs=kd held (m.head.aE.take k)) (λ_ k=>m.head.aE.length - k) [0,2,4,6,8,9,10] ?_ ?_
        focus (conv=>whnf
               exact ⟨[],0,rfl,rfl,br _,by simp [kd]⟩))
    rintro bs k ⟨hk,KO⟩;have KM:(nums bs).length<=m.head.aE.length:=by rw [nums_length,KO];exact fS (mv ..) (CB ..)
    refine rdv ?_;repeat' (apply tw<;>intro _)
    ·have yd:(k:Int)<((nums m.head.aE).length:Int):=aM;refine eG m.head.aE k λx hx=>?_;have dq:=B3 held m.head.aE hx;have fD:=Ep held hhl x;refine ⟨oM,[.j x],bD hx,?_⟩;refine rdv ?_;refine aQ fD ?_;repeat' (apply tw<;>intro _)
     ·have hi:KN held x<0:=aM;have hm:x∉held:=λh=>by have:=sV.2 h;omega
      rw [aR hm,<-KO] at dq;refine ⟨oM,[.j x],bD hx,?_⟩;refine rdv ?_;refine ⟨by show ((nums bs).length+1) * 8<=_;omega,?_⟩;refine rdv ?_;refine ⟨bs++[x],k+1,rfl,?_,⟨oM,dq.symm⟩,oM⟩;unfold adp aqB;rw [<-db];rfl
     ·have hi:¬KN held x<0:=aM;have hm:x∈held:=sV.1 oM;rw [bp hm,gR,<-KO] at dq;exact ⟨bs,k+1,rfl,rfl,⟨oM,dq.symm⟩,oM⟩
    ·have yd:¬(k:Int)<((nums m.head.aE).length:Int):=aM;rw [gx oM] at KO;have ON:kd held m.head.aE=bs:=KO.symm;rw [nums_length] at KM;have yx:=nr p Cr oM 7 m.src bs oM;rw [aR ef] at yx;obtain ⟨zI,Cu⟩:∃ o,Cr++jq p m.src 7 bs=o:=⟨_,rfl⟩;rw [Cu] at yx;have OW:zI.length<=2200000:=by rw [<-Cu,iQ,jq,tg,d_];unfold qV;omega
     have ZL:=nums_length bs;have hln:=nums_length (bm p.aq m.head);have hO:out++fK p m held=zI++(if yl p m held=true/\bX p.aA (gl m)=0 then [(r7 m).told p m.src] else []):=by
      rw [fK,aR h0,aR h1,ON,<-Cu,<-Ct];simp only [uf]
     conv=>whnf
     (refine Or.inl ?_;(conv=>whnf))
     refine yx.mono ?_;rintro _ _ ⟨rfl,j,rfl⟩
     cases j
     all_goals
      refine rdv ?_;repeat' (apply tw<;>intro _)
      all_goals first
       | (have hq:((nums (bm p.aq m.head)).length:Int)>0∨((nums bs).length:Int)>0:=by first|exact .inl (by assumption)|exact .inr (by assumption)
          have Qp:¬yl p m held=true:=by
           unfold yl;rw [ON];simp only [oB,jh];rintro ⟨e1,e2⟩;rw [e1,e2] at hq;revert hq;decide
          have hP:eC p m held=p:=by rw [eC,aR h0,aR h1,aR Qp]
          rw [hO,aR (λh=>Qp h.1),gR,hP]
          first
           | exact ⟨rfl,false,rfl⟩
           | exact ⟨rfl,true,rfl⟩)
       | skip
      have Qp:yl p m held=true:=by
       have g1:¬((nums (bm p.aq m.head)).length:Int)>0:=by assumption
       have g2:¬((nums bs).length:Int)>0:=by assumption
       unfold yl;rw [ON];simp only [oB,jh];exact ⟨oy oM,oy oM⟩
      have hP:eC p m held={ p with aA:=jX p.aA (gl m) }:=by rw [eC,aR h0,aR h1,bp Qp]
      have KS:=kM { p with aA:=jX p.aA (gl m) } zI oM ((r7 m).Ki m.src);rw [pk] at KS;refine uH Up ?_
      repeat' (first|(refine jz ?_;repeat' (apply tw<;>intro _))|(refine tU V8 ?_)|(refine tV V8 ?_)|(refine uB V8 ?_)|fail)
      ·have hg:bX p.aA (gl m)=0:=aM;rw [bp ⟨Qp,hg⟩] at hO;rw [hO,hP];refine (bz KS (.cons (.refl _) (.cons (.agg ?_) .nil))).mono ?_
       ·repeat (first|exact .nil|refine .cons (.refl _) ?_|refine .cons (.nils _ dC) ?_)
       ·rintro _ _ ⟨rfl,rfl⟩;refine rdv ?_;exact ⟨rfl,true,rfl⟩
      ·have hg:¬bX p.aA (gl m)=0:=aM;have hP2:eC p m held=p:=by rw [hP,jX,aR hg]
       rw [hO,aR (λh=>hg h.2),gR,hP2]
       first
        | exact ⟨rfl,false,rfl⟩
        | exact ⟨rfl,true,rfl⟩
open Classical in
theorem Nd (p:Prim) (k1:ec p) (bw:p.ok) (ht:p.aJ) (hr:p.aq.aa.length+p.late.length<60000) (m:aW) (hf:m.cY) (hk:m.kind=4) (held:List Int) (hl:aU held) :
  zA 56 [p.av,m.av,.d (.sl 1 (nums held))] [] (λav L=>(dn p m held/\Co (iE p m held) (fw p m held) av L)∨(¬dn p m held/\GQ p 1 av L)):=by
 have BU:=dH p ht;have h1:=V0 hf hk (n:=p.nodes);have h2:=hU held hl;have h3:=g_ held hl;refine axz func56 ntmps56 ?_;refine qR BU ?_;refine h1.mono ?_;rintro _ _ ⟨rfl,rfl⟩;by_cases k2:aX p.nodes m
 rotate_left
 ·rw [aP k2];refine cm ?_;exact .inr ⟨λh=>k2 h.msg,rfl,rfl⟩
 rw [cz k2];refine cm ?_;repeat' (apply tw<;>intro _)
 ·rename_i k3;exact .inr ⟨λh=>k3 h.dst,rfl,rfl⟩
 have k3:m.dst=p.id:=aM;refine h2.mono ?_;rintro _ _ ⟨rfl,rfl⟩;by_cases k4:∀ x∈held,1<=x/\x<=65536
 rotate_left
 ·rw [aP k4];refine cm ?_;exact .inr ⟨λh=>k4 h.held.2,rfl,rfl⟩
 rw [cz k4];refine cm ?_;refine h3.mono ?_;rintro _ _ ⟨rfl,rfl⟩;by_cases k5:bq held
 rotate_left
 ·rw [aP k5];refine cm ?_;exact .inr ⟨λh=>k5 h.held.1,rfl,rfl⟩
 rw [cz k5];have hC:dn p m held:=⟨k1,k2,k3,⟨k5,k4⟩⟩;refine cm ?_;repeat' (apply tw<;>intro _)
 all_goals first|exact absurd hk (oM:¬m.kind=4)|skip
 have e1:iE p m held=eC p m held:=by rw [iE,bp hk]
 have e2:fw p m held=fK p m held:=by rw [fw,bp hk]
 have hh:=k2.ok.head hk;have has:=Nb p k1.aq k1.aA k1.late.len [] (br _) m p.nodes hh.1 (k2.ok.dD oM) (by rw [<-k3];exact k2.ne) held hl;rw [e1,e2];rw [tC] at has;refine has.mono ?_;rintro _ _ ⟨rfl,j,rfl⟩
 cases j
 all_goals
  refine cm ?_
  first
   | exact .inl ⟨hC,rfl,false,rfl⟩
   | exact .inl ⟨hC,rfl,true,rfl⟩
end Go.Proofs.YtolkmjfkkkiboaaGreat
