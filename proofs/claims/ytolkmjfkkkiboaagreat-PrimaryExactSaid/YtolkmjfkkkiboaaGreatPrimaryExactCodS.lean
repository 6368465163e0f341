/- PrimaryExact: contracts. -/
import Derived.Test.YtolkmjfkkkiboaaGreatPrimaryExactCodR
set_option linter.all false
set_option maxHeartbeats 8000000
set_option maxRecDepth 100000
namespace Go.Proofs.YtolkmjfkkkiboaaGreat
open Go.Ab Go.RowKit Go.MapKept Tryz
attribute [local irreducible] ay AW cw eA eo bL
theorem Zl (n:Int) (hn:jA n=true):zA 40 [.k n] [] (pQ (.k (quo n)) []):=kG n hn
theorem su (p:Prim) (out:List aW) (ho:out.length<=100000) (hn:jA p.nodes=true) (ha:aU p.aL) (hr:dh p.aL 1 p.nodes) (bB:∀ x∈p.late,x.aJ) (hsm:eJ p=true->(cn (dN p)).small)
  (hd:eJ p=true->bM p.aq.nodes (dN p)/\(dN p).aJ/\lr p.aq p.late/\p.aq.aa.length+p.late.length<60000/\ct p.late):zA 91 [.ptr 0 0] (p.st out) (λav L=>av = .tup []/\∃ j,L=(jV p).sj j (out++if eJ p then cM (dQ p) (cn (dN p)) [] p.nodes.toNat else [])):=by
 have kx:=gQ hn;have lK:=Rf p.nodes ⟨oM,oM⟩ p.aL ha;have bR:Cl p.aL p.nodes.toNat=p.aL.length:=V3 (by rw [show ((p.nodes.toNat:Nat):Int)=p.nodes by omega];exact hr);rw [bR] at lK;have hqu:=Zl p.nodes hn;refine dB func91 ntmps91 ?_;refine uH acw ?_
 repeat' (first|(refine jz ?_;repeat' (apply tw<;>intro _))|(refine tU lK ?_)|(refine tV lK ?_)|(refine tU hqu ?_)|(refine tV hqu ?_)|(refine uB lK ?_)|(refine uB hqu ?_)|fail)
 ·have h0:p.dD=0:=aM;have hd:eJ p=false:=by simp [eJ,h0]
  refine ⟨rfl,false,?_⟩;rw [jV,hd];simp only [Sa,if_false,gR];rfl
 ·rename_i h0 hq;replace hq:(p.aL.length:Int)<quo p.nodes:=hq;have hd:eJ p=false:=by simp [eJ,hq]
  refine ⟨rfl,false,?_⟩;rw [jV,hd];simp only [Sa,if_false,gR];rfl
 ·have h0:p.dD≠0:=aM;have hq:¬(p.aL.length:Int)<quo p.nodes:=aM;have qQ:eJ p=true:=by simp [eJ,h0];omega
  obtain ⟨bw,lK,hf,eh,acU⟩:=hd qQ;have Ml:=ej (dQ p) (cn (dN p)) [] p.nodes.toNat;have BX:=wX (dQ p) (by show 0<=p.nodes/\p.nodes<=16;omega) out oM (cn (dN p)) (hsm qQ);have fD:=Cm (dQ p) (out++cM (dQ p) (cn (dN p)) [] p.nodes.toNat) (by rw [iQ];omega) (dN p) bw lK hf eh bB acU p.id;rw [jV,bp qQ,bp qQ];rw [Zk,aR (λh=>h.2 rfl),gR] at fD;refine cP acx ?_;refine (vN [(0,7,1),(0,8,1),(0,10,1)] rfl (bz BX (.cons (.refl _) (.cons (.agg ?_) .nil)))).mono ?_
  ·repeat (first|exact .nil|refine .cons (.refl _) ?_|refine .cons (.nils _ dC) ?_)
  ·rintro _ _ ⟨rfl,j,rfl⟩
   cases j
   all_goals
    refine rdv ?_;refine cP acy ?_;refine fD.mono ?_;rintro _ _ ⟨rfl,j,rfl⟩
    cases j
    all_goals
     refine rdv ?_
     first
      | exact ⟨rfl,false,rfl⟩
      | exact ⟨rfl,true,rfl⟩
theorem ER (x:Int):∀ {l:List Int},bq l->(∀ y∈l.take (jY l x),y<x)/\∀ y∈l.drop (jY l x),¬y<x
 | [],_=>⟨λy hy=>by simp at hy,λy hy=>by simp at hy⟩
 | a :: r,h=>by
   have h2:=Sb.1 h;by_cases ha:a<x
   ·have e:jY (a :: r) x=jY r x+1:=by unfold jY;rw [Ff,bp (by simpa using ha)];rfl
    obtain ⟨i1,i2⟩:=ER x (l:=r) h2.2;rw [e,ZG,zdQ];refine ⟨λy hy=>?_,i2⟩;rcases jy.1 hy with rfl|hy
    ·exact ha
    ·exact i1 y hy
   ·have e:jY (a :: r) x=0:=by
     unfold jY;rw [zdK,Nr];intro y hy;rcases jy.1 hy with rfl|hy
     ·simpa using ha
     ·have:=h2.1 y hy;simp;omega
    rw [e];refine ⟨λy hy=>by simp at hy,λy hy=>?_⟩;rw [RI] at hy;rcases jy.1 hy with rfl|hy
    ·exact ha
    ·have:=h2.1 y hy;omega
theorem Cn {l:List Int} (h:bq l) (x:Int):jt l x=kL l x:=by
 unfold jt kL;split
 ·rfl
 ·obtain ⟨h1,h2⟩:=ER x h;exact Gs h1 h2
def GQ (p:Prim) (e:Int) (av:AV) (L:List AB):Prop:=av = .tup [.ptr 0 0,.k e]/\L=p.st []
def Co (q:Prim) (o:List aW) (av:AV) (L:List AB):Prop:=av = .tup [.ptr 0 0,.k 0]/\∃ j,L=q.sj j o
open Classical in
theorem M3 (p:Prim) (k1:ec p) (bw:p.ok) (ht:p.aJ) (hr:p.aq.aa.length+p.late.length<60000) (m:aW) (hf:m.cY) (hk:m.kind=5) (held:List Int) (hl:aU held) :
  zA 56 [p.av,m.av,.d (.sl 1 (nums held))] [] (λav L=>(dn p m held/\Co (iE p m held) (fw p m held) av L)∨(¬dn p m held/\GQ p 1 av L)):=by
 have BU:=dH p ht;have h1:=VX hf hk (n:=p.nodes);have h2:=hU held hl;have h3:=g_ held hl;refine Qa func56 ntmps56 ?_;refine aQ BU ?_;refine h1.mono ?_;rintro _ _ ⟨rfl,rfl⟩;by_cases k2:aX p.nodes m
 rotate_left
 ·rw [aP k2];refine rdv ?_;exact .inr ⟨λh=>k2 h.msg,rfl,rfl⟩
 rw [cz k2];refine rdv ?_;repeat' (apply tw<;>intro _)
 ·rename_i k3;exact .inr ⟨λh=>k3 h.dst,rfl,rfl⟩
 have k3:m.dst=p.id:=aM;refine h2.mono ?_;rintro _ _ ⟨rfl,rfl⟩;by_cases k4:∀ x∈held,1<=x/\x<=65536
 rotate_left
 ·rw [aP k4];refine rdv ?_;exact .inr ⟨λh=>k4 h.held.2,rfl,rfl⟩
 rw [cz k4];refine rdv ?_;refine h3.mono ?_;rintro _ _ ⟨rfl,rfl⟩;by_cases k5:bq held
 rotate_left
 ·rw [aP k5];refine rdv ?_;exact .inr ⟨λh=>k5 h.held.1,rfl,rfl⟩
 rw [cz k5];have hC:dn p m held:=⟨k1,k2,k3,⟨k5,k4⟩⟩;refine rdv ?_;repeat' (apply tw<;>intro _)
 all_goals first|exact absurd hk (oM:¬m.kind=5)|exact absurd (show m.kind=4 by assumption) oM|skip
 ·rename_i k6 k7 k8;replace k8:m.ae=p.dD:=k8;have h0:p.dD≠0:=by have:=(k2.ok.dD oM).1;omega
  have zF:¬(p.dD=0∨m.ae≠p.dD):=λh=>h.elim h0 (λh=>h k8);have hw:=s_ p.aL (by have:=k1.aL.2;unfold aJ;omega) k1.aL.1.1 m.src;rw [Cn k1.aL.1.1] at hw;have hra:dh (kL p.aL m.src) 1 p.nodes:=by
   rw [<-Cn k1.aL.1.1];refine ⟨wU k1.aL.1.1,λx hx=>?_⟩;rcases EB.1 hx with hx|rfl
   ·exact k1.aL.1.2 x hx
   ·exact k2.src
  have hfa:aU (kL p.aL m.src):=by
   rw [<-Cn k1.aL.1.1];have:=EC p.aL m.src;have:=k1.aL.2;unfold aU;omega
  have Pb:=qn k1 hr m.src k2.src h0;obtain ⟨q,hq⟩:∃ q:Prim,({ p with aL:=kL p.aL m.src }:Prim)=q:=⟨_,rfl⟩;have hce:=su q [] (br _) (by rw [<-hq];exact k1.fl) (by rw [<-hq];exact hfa) (by rw [<-hq];exact hra) (by rw [<-hq];exact ht.late.2) (λh=>by
   rw [<-hq] at h ⊢;exact kW (show jA p.aq.nodes=true by rw [k1.same];exact k1.fl) (Pb h).cert) (λh=>by
   rw [<-hq] at h ⊢;have:=Pb h;exact ⟨this.cert,this.aJ,this.cY,this.room,this.Dh⟩)
  have e1:iE p m held=jV q:=by rw [iE,aR oM,bp hk,rZ,aR zF,hq]
  have e2:fw p m held=if eJ q then cM (dQ q) (cn (dN q)) [] q.nodes.toNat else []:=by rw [fw,aR oM,bp hk,oq,aR zF,hq];rw [<-hq];rfl
  rw [e1,e2];refine uH XU ?_
  repeat' (first|(refine jz ?_)|(refine tU hw ?_)|(refine tV hw ?_)|(refine uB hw ?_)|fail)
  rw [tC,show q.st []=({ p with aL:=kL p.aL m.src }:Prim).st [] by rw [hq]] at hce;refine hce.mono ?_;rintro _ _ ⟨rfl,j,rfl⟩
  cases j
  all_goals
   refine rdv ?_
   first
    | exact .inl ⟨hC,rfl,false,rfl⟩
    | exact .inl ⟨hC,rfl,true,rfl⟩
 ·rename_i k6 k7 k8;replace k8:m.ae≠p.dD:=k8;have fu:p.dD=0∨m.ae≠p.dD := .inr k8;have e1:iE p m held=p:=by rw [iE,aR oM,bp hk,rZ,bp fu]
  have e2:fw p m held=[]:=by rw [fw,aR oM,bp hk,oq,bp fu]
  rw [e1,e2];exact .inl ⟨hC,rfl,false,rfl⟩
def aW.ajZ (m:aW):AV := .agg [.k m.ba,.k m.bn,.d (.slo 4 (dr m.dX))]
theorem iX (xs:List Int) (hm:aJ xs):zA 26 [.d (.slo 1 (nums xs))] [] (pQ (.d (.sl 1 (nums xs))) []):=by
 have hx:=nums_length xs;unfold aJ at hm;refine dB func26 ntmps26 ?_;refine aH aF bf aG (σ:=Nat) (λk=>([(0,.d (.slo 1 (nums xs))),(3,.arr 0),(4,.k k)],[.row 3 1 (nums (xs.take k)) false])) (λk=>k<=xs.length) (λk=>xs.length - k) [0,3,4] ?_ ?_
 ·conv=>whnf
  exact ⟨0,rfl,rfl,oM⟩
 ·intro k hk
  conv=>whnf
  rw [hx];refine XD ?_;repeat' (apply tw<;>intro _)
  ·rename_i h;refine eG xs k λa ha=>?_;have FN:=nums_length (xs.take k);refine ⟨oM,[.j a],bD ha,?_⟩;refine cm ?_;refine ⟨by simp [FN];omega,?_⟩;refine cm ?_;refine ⟨k+1,rfl,?_,oM,oM⟩;rw [iu,ha,<-db];rfl
  ·rename_i h;rw [gx oM];exact ⟨rfl,rfl⟩
theorem sw (c:Cert) (h:c.aJ):zA 25 [c.Dl] [] (λav L=>av=c.pD/\L=[]):=by
 refine dB func25 ntmps25 ?_;refine (iX c.aE h.aE).mono ?_;rintro _ _ ⟨rfl,rfl⟩
 conv=>whnf
 refine (iX c.ao h.ao).mono ?_;rintro _ _ ⟨rfl,rfl⟩
 conv=>whnf
 exact ⟨rfl,rfl⟩
theorem GS (c:Cert) (h:c.aJ):zA 66 [c.nk] [] (λav L=>av=c.av/\L=[]):=by
 refine dB func66 ntmps66 ?_;refine (sw c h).mono ?_;rintro _ _ ⟨rfl,rfl⟩
 conv=>whnf
 refine (iX c.sigs h.sigs).mono ?_;rintro _ _ ⟨rfl,rfl⟩
 conv=>whnf
 exact ⟨rfl,rfl⟩
theorem Kn (l:List Tx) (hl:l.length<=1099511627776):zA 163 [.d (.slo 4 (dr l))] [] (pQ (.d (.sl 4 (dr l))) []):=by
 have hx:=iM l;refine dB func163 ntmps163 ?_;refine aH aF bf aG (σ:=Nat) (λj=>([(0,.d (.slo 4 (dr l))),(3,.arr 0),(4,.k j)],[.row 180 4 (dr (l.take j)) false])) (λj=>j<=l.length) (λj=>l.length - j) [0,3,4] ?_ ?_
 ·conv=>whnf
  exact ⟨0,rfl,rfl,br _⟩
 ·intro j hj;have bB:=CB j l;have xw:=iM (l.take j);refine cm ?_;repeat' (apply tw<;>intro _)
  ·have h:(j:Int)<((dr l).length:Int):=aM;refine eG l j λa ha=>?_;refine ⟨oM,a.cs,wG ha,?_⟩;refine cm ?_;refine ⟨by show ((dr (l.take j)).length+1) * 48<=_;omega,?_⟩;refine cm ?_;refine ⟨j+1,rfl,?_,oM,oM⟩;rw [iu,ha,show dr (l.take j++(some a).toList)=dr (l.take j)++[a.cs] by simp [dr]];rfl
  ·have h:¬(j:Int)<((dr l).length:Int):=aM;rw [gx oM];exact ⟨rfl,rfl⟩
theorem Dn (m:aW) (hl:m.dX.length<=1099511627776):zA 113 [m.ajZ] [] (λav L=>av=m.bav/\L=[]):=by
 refine y0 func113 ntmps113 ?_;refine qR (Kn m.dX hl) ?_;exact ⟨rfl,rfl⟩
theorem Ko (m:aW) (h:m.small):zA 57 [m.nk] [] (λav L=>av=m.av/\L=[]):=by
 refine y0 func57 ntmps57 ?_;refine qR (Dn m (by have:=h.dX;omega)) ?_;refine qR (sw m.head h.aaD) ?_;refine qR (GS m.cert h.aaE) ?_;refine qR (iX m.aT (by have:=h.aT;unfold aJ;omega)) ?_;exact ⟨rfl,rfl⟩
def aW.acs (m:aW) (i:Nat):List AV:=[.k m.kind,.k m.src,.k m.dst,.k m.ae,.k m.ba,.k m.bn,.isl i (.sl 4 (dr m.dX)),.k m.head.af,.k m.head.round,.isl i (.sl 1 (nums m.head.aE)),.isl i (.sl 1 (nums m.head.ao)),.k m.cert.af,.k m.cert.round,.isl i (.sl 1 (nums m.cert.aE)),.isl i (.sl 1 (nums m.cert.ao)),.k m.cert.ae,.isl i (.sl 1 (nums m.cert.sigs)),.isl i (.sl 1 (nums m.aT))]
def aW.ai (m:aW) (i:Nat):AV := .agg (m.acs i)
theorem adh (l:List Tx):P8 (dr l):=vV (f:=Tx.cs) (λ_=>⟨trivial,trivial,trivial,trivial,trivial⟩) l
theorem Pg (l:List Tx):C7 (dr l) (dr l):=C7.map (λ_ => .cons (ow _) (.cons (ow _) (.cons (.flat (IM _)) (.cons (.flat (IM _)) .nil)))) l
theorem V5 (i:Nat) (m:aW):F9 i m.av (m.ai i) := .inr ⟨_,_,rfl,rfl,.cons (bE _) (.cons (bE _) (.cons (bE _) (.cons (bE _) (.cons (bE _) (.cons (bE _) (.cons (.sl (adh _)) (.cons (bE _) (.cons (bE _) (.cons (.sl (kX _)) (.cons (.sl (kX _)) (.cons (bE _) (.cons (bE _) (.cons (.sl (kX _)) (.cons (.sl (kX _)) (.cons (bE _) (.cons (.sl (kX _)) (.cons (.sl (kX _)) .nil)))))))))))))))))⟩
theorem Rj (L:List AB) (m:aW):xZ L m.av m.nk := .inr ⟨_,_,rfl,rfl,.cons (cE _) (.cons (cE _) (.cons (cE _) (.cons (cE _) (.cons (cE _) (.cons (cE _) (.cons (lx (.sl (Pg _))) (.cons (cE _) (.cons (cE _) (.cons (lx (dK _)) (.cons (lx (dK _)) (.cons (cE _) (.cons (cE _) (.cons (lx (dK _)) (.cons (lx (dK _)) (.cons (cE _) (.cons (lx (dK _)) (.cons (lx (dK _)) .nil)))))))))))))))))⟩
theorem uU {L:List AB} {i lo n:Nat} {x x':DV} (h:L[i]? = some (.aN lo n true)) (k:LO x x'):xY L (.isl i x) (.d x') := .inr ⟨i,x,x',lo,n,rfl,h,rfl,k⟩
theorem Kq {L:List AB} {i lo n:Nat} (h:L[i]? = some (.aN lo n true)) (m:aW):xZ L (m.ai i) m.nk := .inr ⟨_,_,rfl,rfl,.cons (cE _) (.cons (cE _) (.cons (cE _) (.cons (cE _) (.cons (cE _) (.cons (cE _) (.cons (uU h (.sl (Pg _))) (.cons (cE _) (.cons (cE _) (.cons (uU h (dK _)) (.cons (uU h (dK _)) (.cons (cE _) (.cons (cE _) (.cons (uU h (dK _)) (.cons (uU h (dK _)) (.cons (cE _) (.cons (uU h (dK _)) (.cons (uU h (dK _)) .nil)))))))))))))))))⟩
theorem Zm {L:List AB} {i lo n:Nat} (h:L[i]? = some (.aN lo n true)) (m:aW):yV L (m.ai i) m.av := .inr ⟨_,_,rfl,rfl,aw (bG _) (aw (bG _) (aw (bG _) (aw (bG _) (aw (bG _) (aw (bG _) (aw (uT h _) (aw (bG _) (aw (bG _) (aw (uT h _) (aw (uT h _) (aw (bG _) (aw (bG _) (aw (uT h _) (aw (uT h _) (aw (bG _) (aw (uT h _) (aw (uT h _) nT)))))))))))))))))⟩
theorem Zn {L:List AB} (m:aW):yV L m.av m.av := .inr ⟨_,_,rfl,rfl,aw (fe _) (aw (fe _) (aw (fe _) (aw (fe _) (aw (fe _) (aw (fe _) (aw (fe _) (aw (fe _) (aw (fe _) (aw (fe _) (aw (fe _) (aw (fe _) (aw (fe _) (aw (fe _) (aw (fe _) (aw (fe _) (aw (fe _) (aw (fe _) nT)))))))))))))))))⟩
theorem Kr (m:aW) (h:m.small):zA 57 [m.av] [] (λav L=>av=m.ai 0/\∃ lo n,L=[.aN lo n true]) :=
 ll (X:=λav=>av=m.av) (post:=λav=>av=m.ai 0) (.cons (Rj [] m) .nil) (Ko m h) (by
  rintro _ rfl;exact ⟨_,.inl (V5 _ _),rfl⟩)
def GU (q:Prim) (o:List aW) (e:Int):AV := .tup [q.ai 1,.isl 1 (.sl 18 (bZ o)),.k e]
theorem wY {p:Prim} {m:aW} {held:List Int} {X:AV->Prop} (h:zA 58 [p.nk,m.nk,.d (.slo 1 (nums held))] [] (λav L=>X av/\L=[])) {C:Prop} {q:Prim} {o:List aW}
  (hX:∀ av,X av->(C/\av=sb q o)∨(¬C/\av=nj 1)) (ho:C->∀ x∈o,x.nice) (lo n:Nat) :
  zA 58 [p.av,m.ai 0,.d (.sl 1 (nums held))] [.aN lo n true] (λav L=>((C/\av=GU q o 0)∨(¬C/\av=GU zP [] 1))/\∃ zH n2,L=[.aN lo n true,.aN zH n2 true]):=by
 refine oY (ll (X:=X) (post:=λav=>(C/\av=GU q o 0)∨(¬C/\av = .tup [.agg gM,.isl 1 (.sl 18 []),.k 1])) (.cons (nm _ p) (.cons (Kq rfl m) (.cons (.inl (lx (dK held))) .nil))) h ?_) ?_
 ·intro av hx;rcases hX av hx with ⟨k,rfl⟩|⟨k,rfl⟩
  ·exact ⟨_,.inr ⟨_,_,rfl,rfl,.cons (td _ _) (.cons (.inl (.sl (Ak (ho k)))) (.cons (.inl (bE _)) .nil))⟩,.inl ⟨k,rfl⟩⟩
  ·exact ⟨_,.inr ⟨_,_,rfl,rfl,.cons (Ch _) (.cons (.inl (.sl trivial)) (.cons (.inl (bE _)) .nil))⟩,.inr ⟨k,rfl⟩⟩
 ·rintro _ _ ⟨⟨k,rfl⟩|⟨k,rfl⟩,zH,n2,rfl⟩
  ·exact ⟨_,.inl (.inl (cZ _)),.inl ⟨k,rfl⟩,zH,n2,rfl⟩
  ·refine ⟨_,.inr ⟨_,_,rfl,rfl,.cons (.inr ⟨_,_,rfl,rfl,?_⟩) (.cons (.inl (cZ _)) (.cons (.inl (cZ _)) .nil))⟩,.inr ⟨k,rfl⟩,zH,n2,rfl⟩;have hw:∀ {k:Nat},0<k->T7 [AB.aN lo n true,AB.aN zH n2 true] (.d .nils) (.isl 1 (.sl k [])):=λ{k} hk => .inr ⟨1,zH,n2,k,rfl,⟨_,rfl,rfl⟩,hk,rfl⟩;exact .cons (cZ _) (.cons (cZ _) (.cons (cZ _) (.cons (cZ _) (.cons (cZ _) (.cons (cZ _) (.cons (cZ _) (.cons (hw dC) (.cons (hw dC) (.cons (cZ _) (.cons (hw dC) (.cons (hw dC) (.cons (cZ _) (.cons (cZ _) (.cons (hw dC) (.cons (hw dC) .nil)))))))))))))))
theorem Zo:DM prog 180 [true,true,false,false]=true:=kR
theorem M4 (l:List Tx) (hl:aU l):zA 170 [.d (.sl 4 (dr l)),.d (.sl 4 (dr l))] [] (pQ (.d (.bool true)) []):=by
 have bR:=iM l;unfold aU at hl;refine gG func170 ntmps170 ?_;repeat' (apply tw<;>intro _)
 ·rename_i hx;exact absurd rfl hx
 ·refine aH aF bf aG (σ:=Nat) (λk=>([(0,.d (.sl 4 (dr l))),(1,.d (.sl 4 (dr l))),(5,.k k)],[])) (λk=>k<=l.length) (λk=>l.length - k) [0,1,5] ?_ ?_
  ·conv=>whnf
   exact ⟨0,rfl,rfl,oM⟩
  ·intro k hk
   conv=>whnf
   rw [bR];refine eF ?_;repeat' (apply tw<;>intro _)
   ·rename_i yd;refine eG l k λc hc=>?_;refine uH Yo ?_
    repeat' (first|(refine jz ?_;repeat' (apply tw<;>intro _))|((with_reducible apply aC);(focus (intro K hK;(conv=>whnf);exact ⟨oM,c.cs,wG hc,hK⟩));(conv=>whnf))|((with_reducible apply aC);(focus (intro K hK;(conv=>whnf);exact ⟨Zo,hK⟩));(conv=>whnf))|fail)
    ·rename_i hb;exfalso;revert hb;simp
    ·exact ⟨k+1,rfl,rfl,oM,oM⟩
   ·exact ⟨rfl,rfl⟩
theorem wZ (a b:Int) (l:List Tx) (hl:aU l):zA 118 [.agg [.k a,.k b,.d (.sl 4 (dr l))],.agg [.k a,.k b,.d (.sl 4 (dr l))]] [] (pQ (.d (.bool true)) []):=by
 have h1:=M4 l hl;refine gG func118 ntmps118 ?_;repeat' (apply tw<;>intro _)
 ·(refine (h1).mono ?_;rintro _ _ ⟨rfl,rfl⟩;(conv=>whnf))
  exact ⟨rfl,rfl⟩
 all_goals (rename_i hx;exact absurd rfl hx)
theorem M5 (m:aW) (hf:m.cY):zA 59 [m.av,m.av] [] (pQ (.d (.bool true)) []):=by
 have h1:=wZ m.ba m.bn m.dX hf.dX;have h2:=kV m.head hf.head;have h3:=se m.cert hf.cert;have h4:=cC m.aT m.aT hf.aT;rw [cz rfl] at h4;refine gG func59 ntmps59 ?_;repeat' (apply tw<;>intro _)
 ·refine aQ h1 ?_
  ·refine aQ h2 ?_
   ·refine aQ h3 ?_
    ·(refine (h4).mono ?_;rintro _ _ ⟨rfl,rfl⟩;(conv=>whnf))
     exact ⟨rfl,rfl⟩
 all_goals (rename_i hx;exact absurd rfl hx)
theorem GV (m:aW) (hf:m.cY) (lo n:Nat):zA 59 [m.ai 0,m.av] [.aN lo n true] (pQ (.d (.bool true)) [.aN lo n true]) :=
 bS (cG _) ⟨_,_,rfl,Zm rfl m,_,_,rfl,Zn m,rfl⟩ (M5 m hf)
attribute [local irreducible] SL
theorem qt {c:Ctx} {E:Nat->Option Nat} {L:List AB} {i lo n:Nat} {ok:zp} {w:World} {x:DV} {v:Value} {m:Nat} (hi:L[i]? = some (.aN lo n ok)) (hf:zq 3 m x) (h:VR (aj c.M0 E L w) (.isl i x) v):SL lo n w 3 m v:=by
 simp only [VR] at h;obtain ⟨⟨ab,bC,hr⟩,_⟩:=h;rw [hi] at bC
 cases bC
 exact vY hf hr
theorem GW (m:aW) (h:m.small) {L:List AB} {i lo n:Nat} {ok:zp} (hi:L[i]? = some (.aN lo n ok)) (c:Ctx) (E:Nat->Option Nat) (w:World) (cur:Array Value) (jl:∀ b,lo<=b->b<lo+n->b<w.heap.size) (hv:eK (aj c.M0 E L w) (m.acs i) cur.toList) :
  Calls prog 60 #[.slice (some ⟨w.heap.size,0,none⟩) 1 1] (w.alloc (.cells cur 49)) λe w'=>e = .returned (.tuple #[])/\aY lo n w w':=by
 simp only [aW.acs,eK] at hv;obtain ⟨a0,_,e,-,h0,a1,_,rfl,-,h1,a2,_,rfl,-,h2,a3,_,rfl,-,h3,a4,_,rfl,-,h4,a5,_,rfl,-,h5,a6,_,rfl,-,h6,a7,_,rfl,-,h7,a8,_,rfl,-,h8,a9,_,rfl,-,h9,a10,_,rfl,-,Ke,a11,_,rfl,-,WO,a12,_,rfl,-,h12,a13,_,rfl,-,h13,a14,_,rfl,-,Q3,a15,_,rfl,-,h15,a16,_,rfl,-,Pe,a17,_,rfl,-,h17,rfl⟩:=hv;have Cp:∀ {z:Int} {a:Value},VR (aj c.M0 E L w) (.k z) a->a = .j z:=λ{z a} hz=>by simpa only [VR,VD] using hz
 have b0:=Cp h0;have b1:=Cp h1;have b2:=Cp h2;have b3:=Cp h3;have b4:=Cp h4;have b5:=Cp h5;have b7:=Cp h7;have b8:=Cp h8;have b11:=Cp WO;have b12:=Cp h12;have b15:=Cp h15;subst b0 b1 b2 b3 b4 b5 b7 b8 b11 b12 b15;have hc:cur = #[.j m.kind,.j m.src,.j m.dst,.j m.ae,.j m.ba,.j m.bn,a6,.j m.head.af,.j m.head.round,a9,a10,.j m.cert.af,.j m.cert.round,a13,a14,.j m.cert.ae,a16,a17]:=by
  rw [<-uX (xs:=cur),e]
 rw [hc];have f1:∀ {l:List Int},l.length<=3000->zq 3 1 (.sl 1 (nums l)):=λ{l} hl=>Q4 l oM 2;exact GP lo n 1 w _ _ _ _ _ _ _ _ _ _ _ _ _ _ _ _ _ _ (qt hi (fsT _ (by have:=h.dX;omega) 2) h6) (qt hi (f1 h.head.1) h9) (qt hi (f1 h.head.2) Ke) (qt hi (f1 h.cert.1) h13) (qt hi (f1 h.cert.2.1) Q3) (qt hi (f1 h.cert.2.2) Pe) (qt hi (f1 h.aT) h17) jl
theorem M6 (n:Int):zA 197 [.k n] [] (pQ (.d (.bool (decide (1<=n/\n<=1099511627776)))) []):=by
 refine y0 func197 ntmps197 ?_;repeat' (apply tw<;>intro _)
 all_goals first
  | exact ⟨by rw [aP (p:=1<=n/\n<=1099511627776) (λh=>oM)];rfl,rfl⟩
  | exact ⟨bu (by simp only [jh];omega),rfl⟩
open Classical in
theorem adi (t:Tx):zA 231 [t.av] [] (pQ (.d (.bool (decide (qW t)))) []):=by
 have h1:=M6 t.oh;have h2:=M6 t.seq;refine y0 func231 ntmps231 ?_;refine h1.mono ?_;rintro _ _ ⟨rfl,rfl⟩;by_cases k1:1<=t.oh/\t.oh<=1099511627776
 rotate_left
 ·rw [aP k1];refine cm ?_;exact ⟨by rw [aP (λh:qW t=>k1 h.oh)];rfl,rfl⟩
 rw [cz k1];refine cm ?_;refine h2.mono ?_;rintro _ _ ⟨rfl,rfl⟩;by_cases k2:1<=t.seq/\t.seq<=1099511627776
 rotate_left
 ·rw [aP k2];refine cm ?_;exact ⟨by rw [aP (λh:qW t=>k2 h.seq)];rfl,rfl⟩
 rw [cz k2];refine cm ?_;repeat' (apply tw<;>intro _)
 all_goals first
  | exact ⟨bu (by simp only [jh];exact ⟨λh=>⟨k1,k2,oM,oM⟩,λh=>by have:=h.val;omega⟩),rfl⟩
  | exact ⟨by rw [aP (λh:qW t=>by have:=h.key;have:=h.val;omega)];rfl,rfl⟩
open Classical in
theorem Zp (l:List Tx) (hl:aU l):zA 198 [.d (.sl 4 (dr l))] [] (pQ (.d (.bool (decide (∀ t∈l,qW t)))) []):=by
 have bR:=iM l;unfold aU at hl;refine y0 func198 ntmps198 ?_;refine aH aF bf aG (σ:=Nat) (λj=>([(0,.d (.sl 4 (dr l))),(3,.k j)],[])) (λj=>j<=l.length/\∀ t∈l.take j,qW t) (λj=>l.length - j) [0,3] ?_ ?_
 ·conv=>whnf
  exact ⟨0,rfl,rfl,br _,by simp⟩
 ·rintro j ⟨hj,ho⟩;refine cm ?_;repeat' (apply tw<;>intro _)
  ·have dM:(j:Int)<((dr l).length:Int):=aM;refine eG l j λt ht=>?_;refine ⟨oM,t.cs,wG ht,?_⟩
   conv=>whnf
   refine (adi t).mono ?_;rintro _ _ ⟨rfl,rfl⟩;by_cases h:qW t
   ·rw [cz h];refine cm ?_;refine ⟨j+1,rfl,rfl,⟨oM,λx hx=>?_⟩,oM⟩;rw [iu,ht] at hx;rcases gA.1 hx with hx|hx
    ·exact ho x hx
    ·simp at hx;subst hx;exact h
   ·rw [aP h];refine cm ?_;exact ⟨by rw [aP (λhh:∀ t∈l,qW t=>h (hh t (fU ht)))];rfl,rfl⟩
  ·have dM:¬(j:Int)<((dr l).length:Int):=aM;rw [gx oM] at ho;exact ⟨by rw [cz ho];rfl,rfl⟩
open Classical in
theorem Rk (m:aW) (hl:aU m.dX):zA 159 [m.bav] [] (pQ (.d (.bool (decide (nQ m)))) []):=by
 have bR:=iM m.dX;have h1:=M6 m.bn;have h2:=Zp m.dX hl;refine y0 func159 ntmps159 ?_;repeat' (apply tw<;>intro _)
 all_goals first
  | exact ⟨by rw [aP (λh:nQ m=>by have:=h.af;omega)];rfl,rfl⟩
  | skip
 refine h1.mono ?_;rintro _ _ ⟨rfl,rfl⟩;by_cases k2:1<=m.bn/\m.bn<=1099511627776
 rotate_left
 ·rw [aP k2];refine cm ?_;exact ⟨by rw [aP (λh:nQ m=>k2 h.n)];rfl,rfl⟩
 rw [cz k2];refine cm ?_;repeat' (apply tw<;>intro _)
 all_goals first
  | exact ⟨by rw [aP (λh:nQ m=>by have:=h.len;omega)];rfl,rfl⟩
  | skip
 (refine (h2).mono ?_;rintro _ _ ⟨rfl,rfl⟩;(conv=>whnf))
 exact ⟨bu (by simp only [jh];exact ⟨λh=>⟨oM,k2,oM,h⟩,λh=>h.dX⟩),rfl⟩
def xB (m:aW):aW:=⟨m.kind,m.src,m.dst,m.ae,m.ba,m.bn,m.dX,kb,kb,[]⟩
def Zq (m:aW):Prop:=(kb.af=m.head.af/\kb.round=m.head.round/\kb.aE=m.head.aE/\kb.ao=m.head.ao)/\(kb.af=m.cert.af/\kb.round=m.cert.round/\kb.aE=m.cert.aE/\kb.ao=m.cert.ao/\kb.ae=m.cert.ae/\kb.sigs=m.cert.sigs)/\[]=m.aT
theorem agK {m:aW} (hk:m.kind=1∨m.kind=3):gu m↔Zq m:=by
 constructor
 ·intro h;obtain ⟨a1,a2,a3,a4⟩:=h.head oM;obtain ⟨b1,b2,b3,b4,b5,b6⟩:=h.cert oM;exact ⟨⟨a1.symm,a2.symm,a3.symm,a4.symm⟩,⟨b1.symm,b2.symm,b3.symm,b4.symm,b5.symm,b6.symm⟩,(h.aT oM).symm⟩
 ·rintro ⟨⟨a1,a2,a3,a4⟩,⟨b1,b2,b3,b4,b5,b6⟩,c⟩;exact ⟨λh=>oM,λh=>oM,λ_=>⟨a1.symm,a2.symm,a3.symm,a4.symm⟩,λ_=>⟨b1.symm,b2.symm,b3.symm,b4.symm,b5.symm,b6.symm⟩,λ_=>c.symm⟩
open Classical in
theorem Rl (m:aW) (hf:m.cY) (hk:m.kind=1∨m.kind=3):zA 59 [(xB m).av,m.av] [] (pQ (.d (.bool (decide (gu m)))) []):=by
 have h1:=wZ m.ba m.bn m.dX hf.dX;have h2:=ib kb m.head ⟨br _,br _⟩;have h3:=EN kb m.cert (eD j5);have h4:=cC [] m.aT (br _);rw [show gu m=Zq m from propext (agK hk)];refine y0 func59 ntmps59 ?_;repeat' (apply tw<;>intro _)
 all_goals first|(rename_i hx;exact absurd rfl hx)|skip
 refine qR h1 ?_;refine h2.mono ?_;rintro _ _ ⟨rfl,rfl⟩;by_cases j2:kb.af=m.head.af/\kb.round=m.head.round/\kb.aE=m.head.aE/\kb.ao=m.head.ao
 ·rw [@cz _ (_) j2];refine cm ?_;refine h3.mono ?_;rintro _ _ ⟨rfl,rfl⟩;by_cases j3:kb.af=m.cert.af/\kb.round=m.cert.round/\kb.aE=m.cert.aE/\kb.ao=m.cert.ao/\kb.ae=m.cert.ae/\kb.sigs=m.cert.sigs
  ·rw [@cz _ (_) j3];refine cm ?_;refine h4.mono ?_;rintro _ _ ⟨rfl,rfl⟩
   conv=>whnf
   refine ⟨?_,rfl⟩;congr 2;rw [zd4];exact ⟨λh=>⟨j2,j3,h⟩,λh=>h.2.2⟩
  ·rw [@aP _ (_) j3];refine cm ?_;rw [aP (λh:Zq m=>j3 h.2.1)];exact ⟨rfl,rfl⟩
 ·rw [@aP _ (_) j2];refine cm ?_;rw [aP (λh:Zq m=>j2 h.1)];exact ⟨rfl,rfl⟩
open Classical in
theorem Zr {n:Int} {m:aW} (hf:m.cY) (hk:m.kind=1∨m.kind=3):zA 109 [m.av,.k n] [] (pQ (.d (.bool (decide (aX n m)))) []):=by
 have Cj:=iV n;have h46:=gZ m.ae;have h47:=Rk m hf.dX;have heq:=Rl m hf hk;refine cF aF bf aG func109 rfl ntmps109 rfl false rfl ?_;refine nW n m _ _ ?_;refine rdv ?_;obtain ⟨b,hb⟩:∃ b,jA n=b:=⟨_,rfl⟩;rw [hb] at Cj;refine Cj.mono ?_;rintro _ _ ⟨rfl,rfl⟩
 cases b
 ·refine rdv ?_;exact ⟨by rw [aP (λh:aX n m=>by have:=h.fl;rw [hb] at this;cases this)];rfl,rfl⟩
 refine rdv ?_;repeat' (apply tw<;>intro _)
 ·have k:m.src<1:=aM;exact ⟨by rw [aP (λh:aX n m=>by have:=h.src;omega)];rfl,rfl⟩
 ·rename_i k0 k;replace k:m.src>n:=k;exact ⟨by rw [aP (λh:aX n m=>by have:=h.src;omega)];rfl,rfl⟩
 ·have k:m.dst<1:=aM;exact ⟨by rw [aP (λh:aX n m=>by have:=h.dst;omega)];rfl,rfl⟩
 ·have k:m.dst>n:=aM;exact ⟨by rw [aP (λh:aX n m=>by have:=h.dst;omega)];rfl,rfl⟩
 ·have k:m.src=m.dst:=aM;exact ⟨by rw [aP (λh:aX n m=>h.ne k)];rfl,rfl⟩
 all_goals first
  | (exfalso;omega)
  | skip
 all_goals
  have he:sr n m:=⟨hb,⟨(show 1<=m.src by have:¬m.src<1:=(by assumption);omega),(show m.src<=n by have:¬m.src>n:=(by assumption);omega)⟩,⟨(show 1<=m.dst by have:¬m.dst<1:=(by assumption);omega),(show m.dst<=n by have:¬m.dst>n:=(by assumption);omega)⟩,by assumption⟩;refine cP X1 ?_;refine (h46).mono ?_;rintro _ _ ⟨rfl,rfl⟩;by_cases j:1<=m.ae/\m.ae<=65536
  ·rw [cz j];refine rdv ?_;refine h47.mono ?_;rintro _ _ ⟨rfl,rfl⟩;by_cases j2:nQ m
   ·rw [cz j2];refine rdv ?_;repeat' (apply tw<;>intro _)
    ·have j3:m.ba<=n:=aM;have bw:er n m:=⟨oM,λh=>j,λh=>⟨j2,j3⟩,λh=>absurd h oM,λh=>absurd h oM,λh=>absurd h oM⟩;refine rdv ?_;refine (bz (avs':=[(xB m).av,m.av]) heq (.cons ?_ (.cons (.refl _) .nil))).mono ?_
     ·refine .agg ?_
      repeat (first|exact .nil|refine .cons (.refl _) ?_|refine .cons (.nils _ dC) ?_)
     rintro _ _ ⟨rfl,rfl⟩
     conv=>whnf
     rw [qq he bw];exact ⟨rfl,rfl⟩
    ·have j3:¬m.ba<=n:=aM;exact ⟨by rw [aP (λh:aX n m=>j3 (h.ok.Vg hk).2)];rfl,rfl⟩
   ·rw [aP j2];refine rdv ?_;exact ⟨by rw [aP (λh:aX n m=>j2 (h.ok.Vg hk).1)];rfl,rfl⟩
  ·rw [aP j];refine rdv ?_;exact ⟨by rw [aP (λh:aX n m=>j (h.ok.dD oM))];rfl,rfl⟩
open Classical in
theorem adj {n:Int} {m:aW} (hk:m.kind<1∨8<m.kind):zA 109 [m.av,.k n] [] (pQ (.d (.bool (decide (aX n m)))) []):=by
 have Cj:=iV n;refine cF aF bf aG func109 rfl ntmps109 rfl false rfl ?_;refine nW n m _ _ ?_;refine rdv ?_;obtain ⟨b,hb⟩:∃ b,jA n=b:=⟨_,rfl⟩;rw [hb] at Cj;refine Cj.mono ?_;rintro _ _ ⟨rfl,rfl⟩
 cases b
 ·refine rdv ?_;exact ⟨by rw [aP (λh:aX n m=>by have:=h.fl;rw [hb] at this;cases this)];rfl,rfl⟩
 refine rdv ?_;repeat' (apply tw<;>intro _)
 ·have k:m.src<1:=aM;exact ⟨by rw [aP (λh:aX n m=>by have:=h.src;omega)];rfl,rfl⟩
 ·rename_i k0 k;replace k:m.src>n:=k;exact ⟨by rw [aP (λh:aX n m=>by have:=h.src;omega)];rfl,rfl⟩
 ·have k:m.dst<1:=aM;exact ⟨by rw [aP (λh:aX n m=>by have:=h.dst;omega)];rfl,rfl⟩
 ·have k:m.dst>n:=aM;exact ⟨by rw [aP (λh:aX n m=>by have:=h.dst;omega)];rfl,rfl⟩
 ·have k:m.src=m.dst:=aM;exact ⟨by rw [aP (λh:aX n m=>h.ne k)];rfl,rfl⟩
 all_goals first
  | (exfalso;omega)
  | skip
 all_goals exact ⟨by rw [aP (λh:aX n m=>by have:=h.ok.kind;omega)];rfl,rfl⟩
structure ES (p:Prim) (m:aW) (held:List Int) (C:Prop) (q:Prim) (o:List aW):Prop where
 M7:ec p->zA 56 [p.av,m.av,.d (.sl 1 (nums held))] [] (λav L=>(C/\Co q o av L)∨(¬C/\GQ p 1 av L))
 prog:∀ lo n,zA 58 [p.av,m.ai 0,.d (.sl 1 (nums held))] [.aN lo n true] (λav L=>((C/\av=GU q o 0)∨(¬C/\av=GU zP [] 1))/\∃ zH n2,L=[.aN lo n true,.aN zH n2 true])
 may:C->ec p
 qok:C->q.ok/\q.iF
 nice:C->∀ x∈o,x.nice
 len:C->o.length<=100000
def twS (p:Prim) (m:aW) (k:Nat):AF×List AB:=([(3,.ptr 0 0),(4,.ptr 1 0),(8,.ptr 2 0),(9,.k k)],[.cells (p.cs.map AV.d),.cells (m.cs.map AV.d),.cells (p.cs.map AV.d++[.arr 3]),.row 49 18 (bZ (dg p m k)) false])
open Classical in
theorem M8 (p:Prim) (k1:ec p) (bw:p.ok) (ht:p.aJ) (m:aW) (hf:m.cY) (hk:m.kind=8) (held:List Int) (hl:aU held) :
  zA 56 [p.av,m.av,.d (.sl 1 (nums held))] [] (λav L=>(dn p m held/\Co (iE p m held) (fw p m held) av L)∨(¬dn p m held/\GQ p 1 av L)):=by
 have BU:=dH p ht;have h1:=VZ hf hk (n:=p.nodes);have h2:=hU held hl;have h3:=g_ held hl;refine Qa func56 ntmps56 ?_;refine aQ BU ?_;refine h1.mono ?_;rintro _ _ ⟨rfl,rfl⟩;by_cases k2:aX p.nodes m
 rotate_left
 ·rw [aP k2];refine rdv ?_;exact .inr ⟨λh=>k2 h.msg,rfl,rfl⟩
 rw [cz k2];refine rdv ?_;repeat' (apply tw<;>intro _)
 ·rename_i k3;exact .inr ⟨λh=>k3 h.dst,rfl,rfl⟩
 have k3:m.dst=p.id:=aM;refine h2.mono ?_;rintro _ _ ⟨rfl,rfl⟩;by_cases k4:∀ x∈held,1<=x/\x<=65536
 rotate_left
 ·rw [aP k4];refine rdv ?_;exact .inr ⟨λh=>k4 h.held.2,rfl,rfl⟩
 rw [cz k4];refine rdv ?_;refine h3.mono ?_;rintro _ _ ⟨rfl,rfl⟩;by_cases k5:bq held
 rotate_left
 ·rw [aP k5];refine rdv ?_;exact .inr ⟨λh=>k5 h.held.1,rfl,rfl⟩
 rw [cz k5];have hC:dn p m held:=⟨k1,k2,k3,⟨k5,k4⟩⟩;refine rdv ?_;repeat' (apply tw<;>intro _)
 all_goals first|exact absurd hk (oM:¬m.kind=8)|exact absurd (show m.kind=4 by assumption) oM|exact absurd (show m.kind=5 by assumption) oM|exact absurd (show m.kind=6 by assumption) oM|skip
 have e1:iE p m held=p:=by rw [iE,aR oM,aR oM,aR oM]
 have e2:fw p m held=dg p m m.aT.length:=by rw [fw,aR oM,aR oM,aR oM]
 have zx:=(k2.ok.aT oM).1.2;have eM:=nums_length m.aT;rw [e1,e2];refine aH aF bf aG (σ:=Nat) (twS p m) (λk=>k<=m.aT.length) (λk=>m.aT.length - k) [3,4,8,9] ?_ ?_
 ·conv=>whnf
  exact ⟨0,rfl,by simp only [twS,dg,wI,zeO,List.flatMap_nil,zfK];rfl,br _⟩
 ·intro k WL;have hwl:=nS p m k;refine rdv ?_;repeat' (apply tw<;>intro _)
  ·have yd:(k:Int)<((nums m.aT).length:Int):=aM;refine eG m.aT k λx hx=>?_;have dq:=qk p m hx;have hfi:=BJ p.aq (by have:=k1.aq.len;unfold aU;omega) x;refine uH XV ?_
   repeat' (first|(refine jz ?_;repeat' (apply tw<;>intro _))|((with_reducible apply aC);(focus (intro K hK;(conv=>whnf);exact ⟨oM,[.j x],bD hx,hK⟩));(conv=>whnf))|(refine tU hfi ?_)|(refine tV hfi ?_)|(refine uB hfi ?_)|fail)
   ·have k6:lI p.aq.aa x≥0:=aM
    cases hg:fk p.aq.aa x with
    | none=>rw [lI,hg] at k6;exact absurd k6 dC
    | some i =>
      have hi:i<p.aq.aa.length:=by
       rw [fk,KU] at hg;exact hg.1
      refine nu (⟨_,ff hi⟩:∃ c,p.aq.aa[i]? = some c) λc hc=>?_;have hgi:lI p.aq.aa x=(i:Int):=by rw [lI,hg];rfl
      have bR:=ak p.aq.aa;rw [hg] at dq;replace dq:dg p m (k+1)=dg p m k++[(cn c).told p m.src]:=by rw [dq,show (some i).bind (λi=>p.aq.aa[i]?)=some c from hc];rfl
      have lK:=dF c (ht.aq.2 c (fU hc));have KS:=kM p (dg p m k) oM ((cn c).Ki m.src);rw [pk,<-dq] at KS;rw [hgi];refine uH XW ?_
      repeat' (first|(refine jz ?_)|((with_reducible apply aC);(focus (intro K hK;(conv=>whnf);exact ⟨oM,c.cs,aB (by rw [WA];exact hc),hK⟩));(conv=>whnf))|(refine tU lK ?_)|(refine tV lK ?_)|(refine uB lK ?_)|fail)
      refine (bz KS (.cons (.refl _) (.cons (.agg ?_) .nil))).mono ?_
      ·repeat (first|exact .nil|refine .cons (.refl _) ?_|refine .cons (.nils _ dC) ?_)
      ·rintro _ _ ⟨rfl,rfl⟩;refine rdv ?_;exact ⟨k+1,rfl,rfl,(oM:k+1<=m.aT.length),(oM:m.aT.length - (k+1)<m.aT.length - k)⟩
   ·have k6:¬lI p.aq.aa x≥0:=aM
    cases hg:fk p.aq.aa x with
    | some i=>rw [lI,hg] at k6;exact absurd (oM:((i:Nat):Int)≥0) k6
    | none =>
      rw [hg] at dq;replace dq:dg p m (k+1)=dg p m k:=dq.trans (gR _);exact ⟨k+1,rfl,by simp only [twS];rw [dq];rfl,(oM:k+1<=m.aT.length),(oM:m.aT.length - (k+1)<m.aT.length - k)⟩
  ·have yd:¬(k:Int)<((nums m.aT).length:Int):=aM;obtain rfl:k=m.aT.length:=oM;exact .inl ⟨hC,rfl,false,rfl⟩
theorem Am {n:Int} (hn:jA n=true) {c:Cert} (h:bM n c):c.iF:=by
 have kx:=gQ hn;have h3:=h.head.aE;have h4:=h.head.ao;have h6:=h.sigs;rw [show n=(n.toNat:Int) by omega] at h6;have h6:=Cf h6;exact ⟨oM,oM,oM⟩
theorem w6 {p:Prim} (h:ec p):p.iF:=by
 have kx:=gQ h.fl;have h1:=h.aL.2;have h2:=h.aA.len;have h3:=h.aq.len;have h4:=h.late.len;have hm:p.aK.aE.length<=4294967296/\p.aK.ao.length<=4294967296:=by
  by_cases h0:p.dD=0
  ·obtain ⟨_,_,e1,e2,_⟩:=h.aK.none h0;rw [e1,e2];exact ⟨br _,br _⟩
  ·have hh:=h.aK.head h0;have a1:=hh.aE;have a2:=hh.ao;exact ⟨oM,oM⟩
 exact ⟨hm.1,hm.2,oM,oM,⟨oM,λc hc=>Am h.fl (by have:=h.aq.aa c hc;rw [h.same] at this;exact this)⟩,oM,λc hc=>Am h.fl (h.late.aa c hc)⟩
theorem Rm {m:aW} (h:m.nice) (p:Prim) (d:Int):(m.told p d).nice:=⟨⟨h.cY.dX,h.cY.head,h.cY.cert,h.cY.aT⟩,h.dX,⟨h.fit.dX,h.fit.head,h.fit.cert,h.fit.aT⟩⟩
theorem w_ {p:Prim} (h:ec p) (m:aW) (k:Nat):∀ x∈dg p m k,x.nice:=by
 intro x hx;obtain ⟨c,hc,rfl⟩:=px.1 hx;obtain ⟨y,_,hy⟩:=List.mem_flatMap.1 hc;have i_:c∈p.aq.aa:=by
  cases hg:fk p.aq.aa y with
  | none=>rw [hg] at hy;simp at hy
  | some i =>
    rw [hg] at hy;have hy2:p.aq.aa[i]? = some c:=by simpa using hy
    exact fU hy2
 exact Rm (mn (Am h.fl (by have:=h.aq.aa c i_;rw [h.same] at this;exact this))) p m.src
theorem M9 (p:Prim) (m:aW):(oq p m).length<=p.nodes.toNat:=by
 unfold oq;split
 ·exact br _
 ·split
  ·exact ej _ _ _ _
  ·exact br _
theorem zn {p:Prim} (h:ec p) (hr:p.aq.aa.length+p.late.length<60000) {m:aW} (hm:aX p.nodes m):∀ x∈oq p m,x.nice:=by
 unfold oq;split
 ·intro x hx;cases hx
 ·rename_i fu;split
  ·rename_i hd;have hc:=(qn h hr m.src hm.src (λe=>fu (.inl e)) hd).cert;exact nq (mn (Am (n:=p.aq.nodes) (by rw [h.same];exact h.fl) hc))
  ·intro x hx;cases hx
open Classical in
theorem xa {p:Prim} {m:aW} {held:List Int} (hk:pe m) (av:AV) (h:(dn p m held/\pe m/\av=sb (iE p m held) (fw p m held))∨(dn p m held/\¬pe m/\av=nj 10)∨(¬dn p m held/\av=nj 1)) :
  (dn p m held/\av=sb (iE p m held) (fw p m held))∨(¬dn p m held/\av=nj 1):=by
 rcases h with ⟨a,_,b⟩|⟨_,a,_⟩|⟨a,b⟩
 ·exact .inl ⟨a,b⟩
 ·exact absurd hk a
 ·exact .inr ⟨a,b⟩
theorem adk (p:Prim) (bw:p.ok) (ht:p.aJ) (hg:p.gh) (hr:p.aq.aa.length+p.late.length<60000) (m:aW) (hm:m.small) (hk:m.kind=5) (held:List Int) (hl:aU held):ES p m held (dn p m held) (iE p m held) (fw p m held) where
 M7:=λk1=>M3 p k1 bw ht hr m hm.cY hk held hl
 prog:=wY (Kl p bw hr m hm.cY (.inl hk) held hl) (xa (by unfold pe;rw [hk];simp)) (λhC x hx=>by
  rw [fw,aR oM,bp hk] at hx;exact zn hC.may hr hC.msg x hx)
 may:=λh=>h.may
 qok:=λhC=>by
  have Dm:=sf hC.may hr hC.msg held;exact ⟨B9 Dm.may (Dm.gh hg),w6 Dm.may⟩
 nice:=λhC x hx=>by
  rw [fw,aR oM,bp hk] at hx;exact zn hC.may hr hC.msg x hx
 len:=λhC=>by
  rw [fw,aR oM,bp hk];have:=M9 p m;have:=gQ hC.may.fl;omega
theorem adl (p:Prim) (bw:p.ok) (ht:p.aJ) (hg:p.gh) (hr:p.aq.aa.length+p.late.length<60000) (m:aW) (hm:m.small) (hk:m.kind=8) (held:List Int) (hl:aU held):ES p m held (dn p m held) (iE p m held) (fw p m held) where
 M7:=λk1=>M8 p k1 bw ht m hm.cY hk held hl
 prog:=wY (Kl p bw hr m hm.cY (.inr hk) held hl) (xa (by unfold pe;rw [hk];simp)) (λhC x hx=>by
  rw [fw,aR oM,aR oM,aR oM] at hx;exact w_ hC.may m _ x hx)
 may:=λh=>h.may
 qok:=λhC=>by
  have Dm:=sf hC.may hr hC.msg held;exact ⟨B9 Dm.may (Dm.gh hg),w6 Dm.may⟩
 nice:=λhC x hx=>by
  rw [fw,aR oM,aR oM,aR oM] at hx;exact w_ hC.may m _ x hx
 len:=λhC=>by
  rw [fw,aR oM,aR oM,aR oM];have:=nS p m m.aT.length;have:=hm.aT;omega
end Go.Proofs.YtolkmjfkkkiboaaGreat
