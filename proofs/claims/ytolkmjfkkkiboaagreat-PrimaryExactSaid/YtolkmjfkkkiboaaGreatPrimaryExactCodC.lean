/- PrimaryExact: contracts. -/
import Derived.Test.YtolkmjfkkkiboaaGreatPrimaryExactCodB
import Derived.Shelf.Spec.SlicesInsertGrow
set_option linter.all false
set_option maxHeartbeats 4000000
set_option maxRecDepth 100000
namespace Go.Proofs.YtolkmjfkkkiboaaGreat
open Go.Ab Go.RowKit Go.MapKept Tryz
attribute [local irreducible] ay AW cw eA eo bL
def quo (n:Int):Int:=2 * ((n - 1) / 3)+1
structure eB (n:Int) (c:Cert):Prop where
 fl:jA n=true
 af:1<=c.af/\c.af<=n
 round:1<=c.round/\c.round<=1099511627776
 aE:(c.aE.length:Int)<=8/\dh c.aE 1 65536
 ao:(c.ao.length:Int)<=n/\dh c.ao 1 65536
 one:c.round=1->c.ao=[]
 many:c.round≠1->(c.ao.length:Int)≥quo n
structure bM (n:Int) (c:Cert):Prop where
 head:eB n c
 ae:1<=c.ae/\c.ae<=65536
 sigs:dh c.sigs 1 n
 UD:(c.sigs.length:Int)≥quo n
structure gr (c:Cert):Prop where
 aE:aU c.aE
 ao:aU c.ao
 sigs:aU c.sigs
open Classical in
theorem qf (c:Cert) (hf:gr c) (n:Int):zA 37 [c.pD,.k n] [] (pQ (.d (.bool (decide (eB n c)))) []):=by
 have fT:=nums_length c.ao;refine dB func37 ntmps37 ?_;refine (iV n).mono ?_;rintro _ _ ⟨rfl,rfl⟩
 cases hn:jA n with
 | false =>
   conv=>whnf
   exact ⟨by rw [aP (λh=>by have:=h.fl;rw [hn] at this;cases this)];rfl,rfl⟩
 | true =>
   have PV:=gQ hn;refine rdv ?_;repeat' (apply tw<;>intro _)
   ·rename_i h;exact ⟨by rw [aP (λh1=>by have:=h1.af;omega)];rfl,rfl⟩
   ·rename_i h1 h;exact ⟨by rw [aP (λh1=>by have:=h1.af;omega)];rfl,rfl⟩
   ·rename_i h1 h2 h;exact ⟨by rw [aP (λh1=>by have:=h1.round;omega)];rfl,rfl⟩
   ·rename_i h1 h2 h3 h;exact ⟨by rw [aP (λh1=>by have:=h1.round;omega)];rfl,rfl⟩
   ·rename_i h1 h2 h3 h4;refine aQ (nM c.aE hf.aE 8) ?_;repeat' (apply tw<;>intro _)
    ·rename_i h5;exact ⟨by rw [aP (λh=>Wz h5 h.aE)];rfl,rfl⟩
    ·rename_i h5;replace h5:=gQ h5;refine aQ (nM c.ao hf.ao n) ?_;repeat' (apply tw<;>intro _)
     ·rename_i h6;exact ⟨by rw [aP (λh=>Wz h6 h.ao)];rfl,rfl⟩
     ·rename_i h6 h7;replace h6:=gQ h6;refine ⟨bu ?_,rfl⟩;simp only [xd,jh,fT];constructor
      ·intro h8;exact ⟨hn,oM,oM,h5,h6,λ_=>oy oM,λh=>absurd h7 h⟩
      ·intro h8;rw [h8.one h7];rfl
     ·rename_i h6 h7;replace h6:=gQ h6;refine cP acd ?_;refine aQ (kG n hn) ?_;refine ⟨bu ?_,rfl⟩;simp only [jh,fT];constructor
      ·intro h8;exact ⟨hn,oM,oM,h5,h6,λh=>absurd h h7,λ_=>h8⟩
      ·intro h8;exact h8.many h7
open Classical in
theorem rW (c:Cert) (hf:gr c) (n:Int):zA 69 [c.av,.k n] [] (pQ (.d (.bool (decide (bM n c)))) []):=by
 have n_:=nums_length c.sigs;refine dB func69 ntmps69 ?_;refine cP aco ?_;refine aQ (qf c hf n) ?_;repeat' (apply tw<;>intro _)
 ·rename_i h1;refine aQ (gZ c.ae) ?_;repeat' (apply tw<;>intro _)
  ·rename_i h2;refine aQ (g_ c.sigs hf.sigs) ?_;repeat' (apply tw<;>intro _)
   ·rename_i h3;refine aQ (rV c.sigs hf.sigs 1 n) ?_;repeat' (apply tw<;>intro _)
    ·rename_i h4;refine aQ (kG n h1.fl) ?_;refine ⟨bu ?_,rfl⟩;simp only [jh,n_];exact ⟨λh=>⟨h1,h2,⟨h3,h4⟩,h⟩,λh=>h.UD⟩
    ·rename_i h4;exact ⟨by rw [aP (λh=>h4 h.sigs.2)];rfl,rfl⟩
   ·rename_i h3;exact ⟨by rw [aP (λh=>h3 h.sigs.1)];rfl,rfl⟩
  ·rename_i h2;exact ⟨by rw [aP (λh=>h2 h.ae)];rfl,rfl⟩
 ·rename_i h1;exact ⟨by rw [aP (λh=>h1 h.head)];rfl,rfl⟩
structure acG (n:Int) (c:Cert):Prop where
 af:1<=c.af/\c.af<=n
 round:1<=c.round/\c.round<=1099511627776
 aE:(c.aE.length:Int)<=8/\dh c.aE 1 65536
 ao:(c.ao.length:Int)<=n/\dh c.ao 1 65536
 one:c.round=1->c.ao=[]
open Classical in
theorem Yt (c:Cert) (hf:gr c) (n:Int):zA 140 [c.pD,.k n] [] (pQ (.d (.bool (decide (acG n c)))) []):=by
 have fT:=nums_length c.ao;have jl:=nums_length c.aE;refine gG func140 ntmps140 ?_;repeat' (apply tw<;>intro _)
 ·rename_i h;exact ⟨by rw [aP (λh1=>by have:=h1.af;omega)];rfl,rfl⟩
 ·rename_i h1 h;exact ⟨by rw [aP (λh1=>by have:=h1.af;omega)];rfl,rfl⟩
 ·rename_i h1 h2 h;exact ⟨by rw [aP (λh1=>by have:=h1.round;omega)];rfl,rfl⟩
 ·rename_i h1 h2 h3 h;exact ⟨by rw [aP (λh1=>by have:=h1.round;omega)];rfl,rfl⟩
 ·rename_i h1 h2 h3 h4 h;exact ⟨by rw [aP (λh1=>by have:=h1.aE.1;omega)];rfl,rfl⟩
 ·rename_i h1 h2 h3 h4 h5;refine aQ (gY c.aE hf.aE) ?_;repeat' (apply tw<;>intro _)
  ·rename_i h6;refine aQ (gY c.ao hf.ao) ?_;repeat' (apply tw<;>intro _)
   ·rename_i h7 h8 h9;exact ⟨by rw [cz ⟨oM,oM,⟨oM,h6⟩,⟨oM,h7⟩,λh=>absurd h oM⟩];rfl,rfl⟩
   ·rename_i h7 h8 h9;refine ⟨bu ?_,rfl⟩;simp only [xd,jh,fT];exact ⟨λh=>⟨oM,oM,⟨oM,h6⟩,⟨oM,h7⟩,λ_=>oy oM⟩,λh=>by rw [h.one oM];rfl⟩
   ·rename_i h7 h8;exact ⟨by rw [aP (λh=>by have:=h.ao.1;omega)];rfl,rfl⟩
   ·rename_i h7;exact ⟨by rw [aP (λh=>h7 h.ao.2)];rfl,rfl⟩
  ·rename_i h6;exact ⟨by rw [aP (λh=>h6 h.aE.2)];rfl,rfl⟩
open Classical in
theorem wg (c:Cert) (hf:gr c) (n:Int):zA 92 [c.pD,.k n] [] (pQ (.d (.bool (decide (eB n c)))) []):=by
 have fT:=nums_length c.ao;refine dB func92 ntmps92 ?_;refine cP acz ?_;refine (Ee n).mono ?_;rintro _ _ ⟨rfl,rfl⟩;obtain ⟨b,hb⟩:∃ b,jA n=b:=⟨_,rfl⟩;rw [hb];refine rdv ?_;repeat' (apply tw<;>intro _)
 ·rename_i h1;rw [h1] at hb;have PV:=gQ hb;refine aQ (Yt c hf n) ?_;repeat' (apply tw<;>intro _)
  ·rename_i h2 h3;exact ⟨by rw [cz ⟨hb,h2.af,h2.round,h2.aE,h2.ao,h2.one,λh=>absurd h3 h⟩];rfl,rfl⟩
  ·rename_i h2 h3;refine aQ (UC n ⟨oM,oM⟩) ?_;refine ⟨bu ?_,rfl⟩;simp only [jh,fT];exact ⟨λh=>⟨hb,h2.af,h2.round,h2.aE,h2.ao,h2.one,λ_=>h⟩,λh=>h.many h3⟩
  ·rename_i h2;exact ⟨by rw [aP (λh=>h2 ⟨h.af,h.round,h.aE,h.ao,h.one⟩)];rfl,rfl⟩
 ·rename_i h1;rw [h1] at hb;exact ⟨by rw [aP (λh=>by have:=h.fl;rw [hb] at this;cases this)];rfl,rfl⟩
open Classical in
theorem mY (c:Cert) (hf:gr c) (n:Int):zA 130 [c.av,.k n] [] (pQ (.d (.bool (decide (bM n c)))) []):=by
 have n_:=nums_length c.sigs;refine dB func130 ntmps130 ?_;refine cP X9 ?_;refine aQ (wg c hf n) ?_;repeat' (apply tw<;>intro _)
 ·rename_i h1;have PV:=gQ h1.fl;refine aQ (fG c.ae) ?_;repeat' (apply tw<;>intro _)
  ·rename_i h2;refine aQ (uJ c.sigs hf.sigs 1 n) ?_;repeat' (apply tw<;>intro _)
   ·rename_i h3;refine aQ (UC n ⟨oM,oM⟩) ?_;refine ⟨bu ?_,rfl⟩;simp only [jh,n_];exact ⟨λh=>⟨h1,h2,h3,h⟩,λh=>h.UD⟩
   ·rename_i h3;exact ⟨by rw [aP (λh=>h3 h.sigs)];rfl,rfl⟩
  ·rename_i h2;exact ⟨by rw [aP (λh=>h2 h.ae)];rfl,rfl⟩
 ·rename_i h1;exact ⟨by rw [aP (λh=>h1 h.head)];rfl,rfl⟩
end Go.Proofs.YtolkmjfkkkiboaaGreat
namespace Go.Proofs.YtolkmjfkkkiboaaGreat
open Go.Ab Go.RowKit Tryz
theorem Yu {l:List Cert} (h:(l.map (·.ae)).Nodup) {x y:Cert} (hx:x∈l) (hy:y∈l) (e:x.ae=y.ae):x=y:=by
 induction l with
 | nil=>cases hx
 | cons z r ih =>
   rw [Dv,Pw] at h;rcases jy.1 hx with OJ|OJ
   ·rcases jy.1 hy with RV|RV
    ·rw [OJ,RV]
    ·exact absurd (px.2 ⟨y,RV,by rw [<-e,OJ]⟩) h.1
   ·rcases jy.1 hy with RV|RV
    ·exact absurd (px.2 ⟨x,OJ,by rw [e,RV]⟩) h.1
    ·exact ih h.2 OJ RV
def mZ (d:Dag) (x:Int):Option Cert:=(fk d.aa x).bind λi=>d.aa[i]?
theorem L_ {d:Dag} (h:(d.aa.map (·.ae)).Nodup) {c:Cert} (hc:c∈d.aa):mZ d c.ae=some c:=by
 unfold mZ
 cases hg:fk d.aa c.ae with
 | none =>
   unfold fk at hg;rw [Wx] at hg;have:=hg c hc;simp at this
 | some i =>
   obtain ⟨c',h1,h2⟩:=yb hg;rw [WU,h1,Yu h (fU h1) hc h2]
theorem I_ {d:Dag} {x:Int} {c:Cert} (h:mZ d x=some c):c∈d.aa/\c.ae=x/\∃ i,fk d.aa x=some i/\d.aa[i]? = some c:=by
 unfold mZ at h
 cases hg:fk d.aa x with
 | none=>rw [hg] at h;cases h
 | some i =>
   rw [hg,WU] at h;obtain ⟨c',h1,h2⟩:=yb hg;rw [h1] at h;cases h
   exact ⟨fU h1,h2,i,rfl,h1⟩
end Go.Proofs.YtolkmjfkkkiboaaGreat
namespace Go.Proofs.YtolkmjfkkkiboaaGreat
open Go.Ab Go.RowKit Go.MapKept Tryz
attribute [local irreducible] ay AW cw eA eo bL
def qU (ps:List (Int×Int)):List (KV×MV):=ps.map λp=>(.one (.j p.1),.v (.one (.j p.2)))
def iL (k:Int):List (Int×Int)->Option Int
 | []=>none
 | p :: r=>if p.1=k then some p.2 else iL k r
theorem mA (k:Int):∀ (ps:List (Int×Int)) (j:Nat),∃ r,mO (.one (.j k)) (qU ps) j=some r/\((∃ v i,iL k ps=some v/\r=some (i,.v (.one (.j v))))∨(iL k ps=none/\r=none))
 | [],j=>⟨none,rfl,.inr ⟨rfl,rfl⟩⟩
 | p :: t,j=>by
   obtain ⟨r,h1,h2⟩:=mA k t (j+1);have e:mO (.one (.j k)) (qU (p :: t)) j=match some (k == p.1) with
     | some true=>some (some (j,.v (.one (.j p.2))))
     | some false=>mO (.one (.j k)) (qU t) (j+1)
     | none=>none:=rfl
   by_cases h:p.1=k
   ·rw [e,show (k == p.1)=true by simp [h]];exact ⟨_,rfl,.inl ⟨p.2,j,by rw [iL,bp h],rfl⟩⟩
   ·rw [e,show (k == p.1)=false by simpa using Ne.symm h];refine ⟨r,h1,?_⟩;rw [iL,aR h];exact h2
theorem BG {k:Int}:∀ {ps:List (Int×Int)},(∀ p∈ps,p.1≠k)->iL k ps=none
 | [],_=>rfl
 | p :: r,h=>by rw [iL,aR (h p (by simp)),BG λq hq=>h q (by simp [hq])]
theorem BH {k v:Int}:∀ {ps:List (Int×Int)},(ps.map (·.1)).Nodup->(k,v)∈ps->iL k ps=some v
 | p :: r,hn,h=>by
   rw [Dv,Pw] at hn;rcases jy.1 h with h|h
   ·subst h;rw [iL,bp rfl]
   ·rw [iL,aR (λe=>hn.1 (px.2 ⟨_,h,e.symm⟩)),BH hn.2 h]
theorem wh {k v:Int} {ps:List (Int×Int)} (h:iL k ps=none):∃ r,mO (.one (.j k)) (qU ps) 0=some r/\gg (qU ps) r (.one (.j k)) (.v (.one (.j v)))=qU (ps++[(k,v)]):=by
 obtain ⟨r,h1,⟨w,i,h2,_⟩|⟨_,rfl⟩⟩:=mA k ps 0
 ·rw [h] at h2;cases h2
 ·exact ⟨none,h1,by simp [gg,qU]⟩
structure Valid (d:Dag):Prop where
 nodes:jA d.nodes=true
 low:0<=d.low/\d.low<=1099511627776
 len:d.aa.length<=65536
 aa:∀ c∈d.aa,bM d.nodes c
 OK:∀ c∈d.aa,d.low<c.round
 sorted:dJ d.aa
 dD:(d.aa.map (·.ae)).Nodup
 here:∀ c∈d.aa,c.round>d.low+1->∀ x∈c.ao,∃ c'∈d.aa,c'.ae=x/\c'.round=c.round - 1
theorem Valid.Yr {d:Dag} (h:Valid d):d.Yr:=by
 have hn:=gQ h.nodes;have hr:∀ c∈d.aa,1<=c.round/\c.round<=1099511627776:=λc hc=>(h.aa c hc).head.round;have ha:∀ c∈d.aa,1<=c.af/\c.af<=d.nodes:=λc hc=>(h.aa c hc).head.af;have hl:=h.len;refine ⟨⟨by unfold aU;omega,h.sorted,λc hc=>⟨⟨by have:=hr c hc;omega,by have:=hr c hc;omega⟩,⟨by have:=ha c hc;omega,by have:=ha c hc;omega⟩⟩,λc hc=>⟨(ha c hc).1,by have:=ha c hc;omega⟩⟩,⟨oM,oM⟩,λc hc=>by have:=(h.aa c hc).head.ao.1;unfold aU;omega,h.low,?_,h.len,h.dD,λc hc=>(h.aa c hc).ae.1⟩;unfold jR
 cases hg:d.aa.getLast? with
 | none=>decide
 | some c=>exact (hr c (List.mem_of_getLast? hg)).2
theorem Valid.gr {d:Dag} (h:Valid d) {c:Cert} (hc:c∈d.aa):gr c:=by
 have hn:=gQ h.nodes;have h1:=h.aa c hc;have h2:=h1.head.aE.1;have h3:=h1.head.ao.1;refine ⟨by unfold aU;omega,by unfold aU;omega,?_⟩;have:=ik h1.sigs.1;have:=sO (m:=(List.range 17).map λn:Nat=>(n:Int)) this λx hx=>by
  have:=h1.sigs.2 x hx;exact px.2 ⟨x.toNat,by simp;omega,oM⟩
 simp at this;unfold aU;omega
def fX (l:List Cert):List (Int×Int):=l.map λc=>(c.ae,c.round)
theorem Qh (l:List Cert):(fX l).map (·.1)=l.map (·.ae):=by simp [fX]
theorem Valid.fresh {d:Dag} (h:Valid d) {j:Nat} {c:Cert} (hc:d.aa[j]? = some c):iL c.ae (fX (d.aa.take j))=none:=by
 refine BG λp hp e=>?_;obtain ⟨c',kc,rfl⟩:=px.1 hp;have h1:=h.dD;have h2:d.aa.take (j+1)=d.aa.take j++[c]:=by rw [iu,hc];rfl
 have h3:((d.aa.take (j+1)).map (·.ae)).Nodup:=h1.sublist ((zfH ..).map _);rw [h2,RH,CN] at h3;exact h3.2.2 c'.ae (px.2 ⟨c',kc,rfl⟩) c.ae (by simp) e
theorem Valid.parent {d:Dag} (h:Valid d) {j:Nat} {c:Cert} (hc:d.aa[j]? = some c) (hr:c.round>d.low+1) {x:Int} (hx:x∈c.ao):iL x (fX (d.aa.take j))=some (c.round - 1):=by
 obtain ⟨c',h1,h2,h3⟩:=h.here c (fU hc) hr x hx;obtain ⟨i,hi⟩:=Ds h1;have dM:j<d.aa.length:=by
  rcases qZ j d.aa.length with h|h
  ·exact h
  ·rw [Ns h] at hc;cases hc
 have eL:i<d.aa.length:=by
  rcases qZ i d.aa.length with h|h
  ·exact h
  ·rw [Ns h] at hi;cases hi
 have ru:i<j:=by
  rcases Nat.lt_trichotomy i j with h4|h4|h4
  ·exact h4
  ·subst h4;rw [hc] at hi;cases hi;omega
  ·have:=CL.1 h.sorted j i dM eL h4;rw [ff dM] at hc;rw [ff eL] at hi
   cases hc;cases hi
   have:=bh.1 this;omega
 refine BH ?_ ?_
 ·rw [Qh];exact h.dD.sublist ((zfH ..).map _)
 ·refine px.2 ⟨c',?_,by rw [h2,h3]⟩;rw [G4];rw [ff eL] at hi;exact ⟨i,oM,Hl hi⟩
def aJ {α:Type} (l:List α):Prop:=l.length<=1099511627776
structure Cert.aJ (c:Cert):Prop where
 aE:Go.Proofs.YtolkmjfkkkiboaaGreat.aJ c.aE
 ao:Go.Proofs.YtolkmjfkkkiboaaGreat.aJ c.ao
 sigs:Go.Proofs.YtolkmjfkkkiboaaGreat.aJ c.sigs
theorem wrap_u64 (i:Int):IntKind.u64.wrap i=i % 18446744073709551616:=by
 simp [IntKind.wrap,IntKind.signed,IntKind.bits]
theorem sP (i n:Int) (hn:0<n) (hn2:n<=1000000) (hi : -9223372036854775808<=i/\i<9223372036854775808):zA 42 [.k i,.k n] [] (pQ (.k ((i % 18446744073709551616) % n)) []):=by
 refine dB func42 ntmps42 ?_;intro z hz;rw [wrap_u64] at hz;have h0:=WV i (dC:(18446744073709551616:Int)≠0);rw [<-hz] at h0 ⊢;clear hz
 conv=>whnf
 intro m hm;have uY:m=n:=by rw [hm,wrap_u64];omega
 clear hm;subst uY
 conv=>whnf
 refine ⟨oM,?_⟩;intro r hr;have hr':r=z % m:=by rw [hr,zd2 h0]
 clear hr;have h1:=WV z (oM:m≠0);have h2:=ZI z hn;rw [<-hr'] at h1 h2 ⊢;clear hr'
 conv=>whnf
 intro q hq;have hq':q=r:=by rw [hq,yQ oM]
 clear hq;subst hq'
 conv=>whnf
 exact ⟨rfl,rfl⟩
theorem wi {α:Type} {xs ys:List α} {k:Nat} {a b:α} (hx:xs[k]? = some a) (hy:ys[k]? = some b) (h:xs.take k=ys.take k):xs.take (k+1)=ys.take (k+1)↔a=b:=by
 rw [iu,iu,h,hx,hy];simp only [WR,List.append_cancel_left_eq,List.cons.injEq,and_true]
theorem cC (xs ys:List Int) (hm:aU xs):zA 46 [.d (.sl 1 (nums xs)),.d (.sl 1 (nums ys))] [] (pQ (.d (.bool (decide (xs=ys)))) []):=by
 have hx:=nums_length xs;have hy:=nums_length ys;unfold aU at hm;refine dB func46 ntmps46 ?_;rw [hx,hy];refine eF ?_;repeat' (apply tw<;>intro _)
 ·rename_i h;rw [aP (λe=>h (by rw [e]))];exact ⟨rfl,rfl⟩
 ·rename_i h;have hl:xs.length=ys.length:=oM;refine aH aF bf aG (σ:=Nat) (λk=>([(0,.d (.sl 1 (nums xs))),(1,.d (.sl 1 (nums ys))),(5,.k k)],[])) (λk=>k<=xs.length/\xs.take k=ys.take k) (λk=>xs.length - k) [0,1,5] ?_ ?_
  ·conv=>whnf
   exact ⟨0,rfl,rfl,by simp⟩
  ·rintro k ⟨hk,he⟩
   conv=>whnf
   rw [hx];refine eF ?_;repeat' (apply tw<;>intro _)
   ·rename_i h;refine eG xs k λa ha=>?_;refine eG ys k λb hb=>?_;refine cP ach ?_
    ((with_reducible apply aC);(focus (intro K hK;(conv=>whnf);exact ⟨oM,[.j a],bD ha,hK⟩));(conv=>whnf))
    (refine eF ?_)
    ((with_reducible apply aC);(focus (intro K hK;(conv=>whnf);exact ⟨oM,[.j b],bD hb,hK⟩));(conv=>whnf))
    refine eF ?_;repeat' (apply tw<;>intro _)
    ·rename_i h;rw [aP (λe=>by subst e;rw [ha] at hb;cases hb;exact h rfl)];exact ⟨rfl,rfl⟩
    ·rename_i h;exact ⟨k+1,rfl,rfl,⟨oM,(wi ha hb he).2 oM⟩,oM⟩
   ·rename_i h;obtain rfl:k=xs.length:=oM;rw [cz (by rw [lD,hl,lD] at he;exact he)];exact ⟨rfl,rfl⟩
theorem dZ (xs:List Int) (hm:aJ xs):zA 26 [.d (.sl 1 (nums xs))] [] (pQ (.d (.sl 1 (nums xs))) []):=by
 have hx:=nums_length xs;unfold aJ at hm;refine dB func26 ntmps26 ?_;refine aH aF bf aG (σ:=Nat) (λk=>([(0,.d (.sl 1 (nums xs))),(3,.arr 0),(4,.k k)],[.row 3 1 (nums (xs.take k)) false])) (λk=>k<=xs.length) (λk=>xs.length - k) [0,3,4] ?_ ?_
 ·conv=>whnf
  exact ⟨0,rfl,rfl,oM⟩
 ·intro k hk
  conv=>whnf
  rw [hx];refine eF ?_;repeat' (apply tw<;>intro _)
  ·rename_i h;refine eG xs k λa ha=>?_;have FN:=nums_length (xs.take k);refine ⟨oM,[.j a],bD ha,?_⟩;refine rdv ?_;refine ⟨by simp [FN];omega,?_⟩;refine rdv ?_;refine ⟨k+1,rfl,?_,oM,oM⟩;rw [iu,ha,<-db];rfl
  ·rename_i h;rw [gx oM];exact ⟨rfl,rfl⟩
theorem gy (c:Cert) (h:c.aJ):zA 25 [c.pD] [] (λav L=>av=c.pD/\L=[]):=by
 refine dB func25 ntmps25 ?_;refine (dZ c.aE h.aE).mono ?_;rintro _ _ ⟨rfl,rfl⟩
 conv=>whnf
 refine (dZ c.ao h.ao).mono ?_;rintro _ _ ⟨rfl,rfl⟩
 conv=>whnf
 exact ⟨rfl,rfl⟩
theorem dF (c:Cert) (h:c.aJ):zA 66 [c.av] [] (λav L=>av=c.av/\L=[]):=by
 refine dB func66 ntmps66 ?_;refine (gy c h).mono ?_;rintro _ _ ⟨rfl,rfl⟩
 conv=>whnf
 refine (dZ c.sigs h.sigs).mono ?_;rintro _ _ ⟨rfl,rfl⟩
 conv=>whnf
 exact ⟨rfl,rfl⟩
theorem mh (l:List Cert) (hl:aJ l) (h:∀ c∈l,c.aJ):zA 29 [.d (.sl 6 (ah l))] [] (pQ (.d (.sl 6 (ah l))) []):=by
 have hx:=ak l;unfold aJ at hl;refine dB func29 ntmps29 ?_;refine aH aF bf aG (σ:=Nat) (λk=>([(0,.d (.sl 6 (ah l))),(3,.arr 0),(4,.k k)],[.row 47 6 (ah (l.take k)) false])) (λk=>k<=l.length) (λk=>l.length - k) [0,3,4] ?_ ?_
 ·conv=>whnf
  exact ⟨0,rfl,rfl,oM⟩
 ·intro k hk
  conv=>whnf
  rw [hx];refine eF ?_;repeat' (apply tw<;>intro _)
  ·rename_i h2;refine eG l k λa ha=>?_;have FN:=ak (l.take k);refine ⟨oM,a.cs,aB ha,?_⟩;refine rdv ?_;refine aQ (dF a (h a (fU ha))) ?_;refine ⟨by simp [FN];omega,?_⟩;refine rdv ?_;refine ⟨k+1,rfl,?_,oM,oM⟩;rw [iu,ha];simp [ah,Cert.cs]
  ·rename_i h2;rw [gx oM];exact ⟨rfl,rfl⟩
end Go.Proofs.YtolkmjfkkkiboaaGreat
namespace Go.Ab
noncomputable section
open Go.RowKit
def Ef (x:AV) (L:List AB) (K:AV->List AB->Prop):Prop :=
 match x with
 | .agg xs=>AN xs L λys L'=>K (.agg ys) L'
 | x=>SQ x L K
noncomputable def Ma (xs:List AV):List AB->(List AV->List AB->Prop)->Prop :=
 List.rec (motive:=λ_=>List AB->(List AV->List AB->Prop)->Prop) (λL K=>K [] L) (λx _ ih L K=>Ef x L λy L1=>ih L1 λl L2=>K (y :: l) L2) xs
theorem Ja {c:Ctx} (hc:c.wf) {E:Nat->Option Nat} {w:World}:∀ {xs:List AV} {L:List AB} {K:List AV->List AB->Prop} {us:List Value},aI c E L w->AN xs L K->eK (aj c.M0 E L w) xs us ->
  ∃ ys L',K ys L'/\aI c E L' w/\(aj c.M0 E L w).le (aj c.M0 E L' w)/\eK (aj c.M0 E L' w) ys us
 | [],L,K,us,hs,h,hv=>⟨[],L,h,hs,.refl _,by simpa [eK] using hv⟩
 | x :: xs,L,K,us,hs,h,hv=>by
   simp only [eK] at hv;obtain ⟨u,dt,rfl,h0,h1,h2⟩:=hv;obtain ⟨y,L1,k1,k2,k3,k4⟩:=FC hc hs (show SQ x L λy L1=>AN xs L1 λl L2=>K (y :: l) L2 from h) h1;obtain ⟨ys,L2,m1,m2,m3,m4⟩:=Ja hc (xs:=xs) k2 k1 (eK.mono k3 _ _ h2);exact ⟨y :: ys,L2,m1,m2,k3.trans m3,by simp only [eK];exact ⟨u,dt,rfl,h0,VR.mono m3 _ _ k4,m4⟩⟩
theorem BI {c:Ctx} (hc:c.wf) {E:Nat->Option Nat} {L:List AB} {w:World} (hs:aI c E L w) {x:AV} {K:AV->List AB->Prop} (h:Ef x L K) {v:Value} (hv:VR (aj c.M0 E L w) x v) :
  ∃ y L',K y L'/\aI c E L' w/\(aj c.M0 E L w).le (aj c.M0 E L' w)/\VR (aj c.M0 E L' w) y v:=by
 unfold Ef at h;split at h
 ·rename_i xs;simp only [VR] at hv;obtain ⟨us,rfl,hv⟩:=hv;obtain ⟨ys,L',h1,h2,h3,h4⟩:=Ja hc hs h hv;exact ⟨_,L',h1,h2,h3,by simp only [VR];exact ⟨us,rfl,h4⟩⟩
 ·exact FC hc hs h hv
theorem Eg {c:Ctx} (hc:c.wf) {E:Nat->Option Nat} {w:World}:∀ {xs:List AV} {L:List AB} {K:List AV->List AB->Prop} {us:List Value},aI c E L w->Ma xs L K->cD (aj c.M0 E L w) xs us ->
  ∃ ys L',K ys L'/\aI c E L' w/\(aj c.M0 E L w).le (aj c.M0 E L' w)/\cD (aj c.M0 E L' w) ys us
 | [],L,K,us,hs,h,hv=>⟨[],L,h,hs,.refl _,by simpa [cD] using hv⟩
 | x :: xs,L,K,us,hs,h,hv=>by
   simp only [cD] at hv;obtain ⟨u,dt,rfl,h1,h2⟩:=hv;obtain ⟨y,L1,k1,k2,k3,k4⟩:=BI hc hs (show Ef x L λy L1=>Ma xs L1 λl L2=>K (y :: l) L2 from h) h1;obtain ⟨ys,L2,m1,m2,m3,m4⟩:=Eg hc (xs:=xs) k2 k1 (cD.mono k3 _ _ h2);exact ⟨y :: ys,L2,m1,m2,k3.trans m3,by simp only [cD];exact ⟨u,dt,rfl,VR.mono m3 _ _ k4,m4⟩⟩
def OL (x:AV) (L:List AB) (K:AV->List AB->Prop):Prop :=
 match x with
 | .tup xs=>Ma xs L λys L'=>K (.tup ys) L'
 | x=>Ef x L K
theorem UE {c:Ctx} (hc:c.wf) {E:Nat->Option Nat} {L:List AB} {w:World} (hs:aI c E L w) {x:AV} {K:AV->List AB->Prop} (h:OL x L K) {v:Value} (hv:VR (aj c.M0 E L w) x v) :
  ∃ y L',K y L'/\aI c E L' w/\(aj c.M0 E L w).le (aj c.M0 E L' w)/\VR (aj c.M0 E L' w) y v:=by
 unfold OL at h;split at h
 ·rename_i xs;simp only [VR] at hv;obtain ⟨us,rfl,hv⟩:=hv;obtain ⟨ys,L',h1,h2,h3,h4⟩:=Eg hc hs h hv;exact ⟨_,L',h1,h2,h3,by simp only [VR];exact ⟨us,rfl,h4⟩⟩
 ·exact BI hc hs h hv
theorem bT {P:Program} {f:FuncId} {cS:List AV} {cg:List AB} {post nF:AV->List AB->Prop} (h:ay P f cS cg post) (hp:∀ av L,post av L->OL av L λny L'=>C4 cg.length ny L' nF):ay P f cS cg nF:=by
 intro c vs hc hL hs hv;refine (h c vs hc hL hs hv).mono ?_;rintro e w' ⟨v,av,L',E',rfl,k2,k3,k4⟩;obtain ⟨y,L2,h1,h2,h3,h4⟩:=UE hc k3 (hp _ _ k2) k4;obtain ⟨E3,av3,L3,m1,m2,m3⟩:=zW h1 (by rw [hL]) h2 h4;exact ⟨v,av3,L3,E3,rfl,m1,m2,m3⟩
theorem acH {rd:Addr->Value->Prop} {n:Nat} (hn:0<n) {v:Value} (h:VD rd .nils v):VD rd (.sl n []) v:=by
 simp only [VD] at h;subst h;simp only [VD];exact ⟨hn,none,0,rfl,by simp,by simp [maxLen],λ_=>rfl,λ_ h=>by cases h⟩
theorem Qi {n:Nat} (hn:0<n) {a b:AV} {r:List AV}:∀ (R:RC) (vs:List Value),cD R (.agg [a,b,.d .nils] :: r) vs->cD R (.agg [a,b,.d (.sl n [])] :: r) vs:=by
 intro R vs h;simp only [cD,VR,eK] at h ⊢;obtain ⟨u,dt,rfl,⟨us,rfl,u1,r1,e1,h1,h2,u2,r2,rfl,h3,h4,u3,r3,rfl,h5,h6,rfl⟩,h7⟩:=h;exact ⟨_,dt,rfl,⟨us,rfl,u1,_,e1,h1,h2,u2,_,rfl,h3,h4,u3,[],rfl,h5,acH hn h6,rfl⟩,h7⟩
end
end Go.Ab
namespace Go.Proofs.YtolkmjfkkkiboaaGreat
open Go.Ab Go.RowKit Go.MapKept Tryz
attribute [local irreducible] ay AW cw eA eo bL
theorem Mb {l:List Cert} {p:Cert->Bool} {j:Nat} {c:Cert} (hc:l[j]? = some c) (hp:p c=true) (h:∀ (i:Nat) c,i<j->l[i]? = some c->p c=false):l.findIdx? p=some j:=by
 rw [KU];have hj:=(dW.1 hc).1;refine ⟨hj,?_,λi hi=>?_⟩
 ·rw [ff hj] at hc;rw [Hl hc];exact hp
 ·have:=h i l[i] hi (ff oM);simpa using this
theorem Mc {l:List Cert} {p:Cert->Bool} (h:∀ (i:Nat) c,l[i]? = some c->p c=false):l.findIdx? p=none:=by
 rw [Wx];intro c hc;obtain ⟨i,hi⟩:=Ds hc;exact h i c hi
theorem Yv (o:Option Nat):(decide ((o.elim (-1) λi=>(i:Int))≥0))=o.isSome:=by
 cases o<;>simp
theorem Yw (c:Cert) (x:Int):zA 228 [c.av,.ptr 0 0] [.cells [.k x]] (pQ (.d (.bool (c.ae == x))) [.cells [.k x]]):=by
 refine dB func228 ntmps228 ?_;exact ⟨rfl,rfl⟩
theorem Qj (l:List Cert) (hl:aU l) (x:Int):zA 157 [.d (.sl 6 (ah l)),.fn 228 [.ptr 0 0]] [.cells [.k x]] (pQ (.k ((l.findIdx? (λc=>c.ae == x)).elim (-1) λi=>(i:Int))) [.cells [.k x]]):=by
 have eM:=ak l;unfold aU at hl;refine dB func157 ntmps157 ?_;refine aH aF bf aG (σ:=Nat) (λj=>([(1,.fn 228 [.ptr 0 0]),(0,.d (.sl 6 (ah l))),(7,.k l.length),(8,.k j)],[.cells [.k x]])) (λj=>j<=l.length/\∀ i c,i<j->l[i]? = some c->(c.ae == x)=false) (λj=>l.length - j) [1,0,7,8] ?_ ?_
 ·conv=>whnf
  exact ⟨0,by rw [eM];rfl,rfl,br _,oM⟩
 ·rintro j ⟨h1,h2⟩;refine rdv ?_;repeat' (apply tw<;>intro _)
  ·rename_i h;obtain ⟨c,hc⟩:=eH l j;refine ⟨oM,c.cs,aB hc,?_⟩
   conv=>whnf
   refine (Yw c x).mono ?_;rintro _ _ ⟨rfl,rfl⟩;obtain ⟨b,hb⟩:∃ b,(c.ae == x)=b:=⟨_,rfl⟩;rw [hb];refine rdv ?_;repeat' (apply tw<;>intro _)
   ·rename_i h3;subst h3;exact ⟨by rw [Mb hc hb h2];rfl,rfl⟩
   ·rename_i h3;refine ⟨j+1,rfl,rfl,⟨oM,λi c' hi kc=>?_⟩,oM⟩;rcases qZ i j with h4|h4
    ·exact h2 i c' h4 kc
    ·obtain rfl:i=j:=oM;rw [hc] at kc;cases kc;rw [hb];simpa using h3
  ·rename_i h;exact ⟨by rw [Mc (l:=l) λi c hi=>h2 i c (by have:=(dW.1 hi).1;omega) hi];rfl,rfl⟩
theorem Gi (l:List Cert) (hl:aU l) (x:Int):zA 227 [.d (.sl 6 (ah l)),.fn 228 [.ptr 0 0]] [.cells [.k x]] (pQ (.d (.bool (l.findIdx? (λc=>c.ae == x)).isSome)) [.cells [.k x]]):=by
 refine dB func227 ntmps227 ?_;refine (Qj l hl x).mono ?_;rintro _ _ ⟨rfl,rfl⟩
 conv=>whnf
 exact ⟨by rw [<-Yv],rfl⟩
theorem Md {l:List Cert} {p:Cert->Bool}:(l.findIdx? p).isSome=l.any p:=by
 rw [zeC,List.findIdx?_isSome]
theorem Gj (l:List Cert) (hl:aU l) (x:Int):zA 193 [.d (.sl 6 (ah l)),.k x] [] (pQ (.d (.bool (l.any λc=>c.ae == x))) []):=by
 refine dB func193 ntmps193 ?_;refine (Gi l hl x).mono ?_;rintro _ _ ⟨rfl,rfl⟩
 conv=>whnf
 exact ⟨by rw [<-Md],rfl⟩
theorem sQ (l:List Cert) (hl:l.length<=1099511627776):zA 196 [.d (.sl 6 (ah l))] [] (pQ (.arr 0) [.row 47 6 (ah l) false]):=by
 have eM:=ak l;refine CI func196 ntmps196 ?_;intro b hb;refine rdv ?_;repeat' (apply tw<;>intro _)
 ·rename_i h;have:l=[]:=by simpa [ah] using hb h
  subst this;exact ⟨rfl,rfl⟩
 ·rename_i h;refine ⟨by rw [eM];show (0+l.length) * 96<=_;omega,?_⟩
  conv=>whnf
  exact ⟨rfl,rfl⟩
theorem OM (c:Cert) (h:c.aJ):zA 144 [c.pD] [] (pQ (.agg [.k c.af,.k c.round,.arr 0,.arr 1]) [.row 3 1 (nums c.aE) false,.row 3 1 (nums c.ao) false]):=by
 refine CI func144 ntmps144 ?_;refine cP Oy ?_;refine aQ (o5 c.aE h.aE) ?_;refine aQ (o5 c.ao h.ao) ?_;exact ⟨rfl,rfl⟩
theorem Jb (c:Cert) (h:c.aJ):zA 180 [c.av] [] (pQ (.agg [.k c.af,.k c.round,.arr 0,.arr 1,.k c.ae,.arr 2]) [.row 3 1 (nums c.aE) false,.row 3 1 (nums c.ao) false,.row 3 1 (nums c.sigs) false]):=by
 refine CI func180 ntmps180 ?_;refine cP OF ?_;refine aQ (OM c h) ?_;refine aQ (o5 c.sigs h.sigs) ?_;exact ⟨rfl,rfl⟩
theorem Me (c:Cert) (h:c.aJ):zA 144 [c.pD] [] (λav L=>av=c.pD/\L=[]):=by
 refine bT (OM c h) ?_;rintro _ _ ⟨rfl,rfl⟩
 conv=>whnf
 exact ⟨rfl,rfl⟩
theorem m7 (c:Cert) (h:c.aJ):zA 180 [c.av] [] (λav L=>av=c.av/\L=[]):=by
 refine bT (Jb c h) ?_;rintro _ _ ⟨rfl,rfl⟩
 conv=>whnf
 exact ⟨rfl,rfl⟩
theorem Yx {l:List Cert} {x:Int} (h:∀ c∈l,c.ae≠x):fk l x=none:=by
 unfold fk;rw [Wx];intro c hc;simp [h c hc]
theorem Qk {l:List Cert} {x:Int} {j:Nat} {c:Cert} (hc:l[j]? = some c) (hx:c.ae=x) (h:∀ c∈l.take j,c.ae≠x):fk l x=some j:=by
 unfold fk;rw [KU];obtain ⟨hj,rfl⟩:=dW.1 hc;refine ⟨hj,by simpa using hx,λi hi=>?_⟩;have:=h l[i] (G4.2 ⟨i,oM,rfl⟩);simpa using this
theorem BJ (d:Dag) (hd:aU d.aa) (x:Int):zA 112 [d.av,.k x] [] (pQ (.k (lI d.aa x)) []):=by
 have bR:=ak d.aa;unfold aU at hd;refine dB func112 ntmps112 ?_;refine aH aF bf aG (σ:=Nat) (λj=>([(1,.k x),(2,.ptr 0 0),(5,.k j)],[.cells d.cells])) (λj=>j<=d.aa.length/\∀ c∈d.aa.take j,c.ae≠x) (λj=>d.aa.length - j) [1,2,5] ?_ ?_
 ·conv=>whnf
  exact ⟨0,rfl,rfl,br _,by simp⟩
 ·rintro j ⟨hj,bK⟩
  conv=>whnf
  rw [bR];refine XD ?_;repeat' (apply tw<;>intro _)
  ·rename_i h;refine eG d.aa j λc hc=>?_;refine ⟨oM,c.cs,aB hc,?_⟩;refine cm ?_;repeat' (apply tw<;>intro _)
   ·rename_i h2;rw [lI,Qk hc h2 bK];exact ⟨rfl,rfl⟩
   ·rename_i h2;refine ⟨j+1,rfl,rfl,⟨oM,λy hy=>?_⟩,oM⟩;rw [iu,hc] at hy;rcases gA.1 hy with hy|hy
    ·exact bK y hy
    ·simp at hy;rw [hy];exact h2
  ·rename_i h;rw [gx oM] at bK;rw [lI,Yx bK];exact ⟨rfl,rfl⟩
def lP (d:Dag) (r x:Int):Bool:=match mZ d x with|some c=>decide (c.round≠r - 1)|none=>true
def kH (d:Dag) (c:Cert):List Int:=if c.round - 1<=d.low then [] else c.ao.filter λx=>lP d c.round x
theorem kI (d:Dag) (hd:aU d.aa) (c:Cert) (hc:c.ao.length<=1099511627776) (hr:1<=c.round/\c.round<=1099511627776):zA 70 [d.av,c.pD] [] (pQ (.d (.sl 1 (nums (kH d c)))) []):=by
 have bR:=ak d.aa;have fT:=nums_length c.ao;refine gG func70 ntmps70 ?_;repeat' (apply tw<;>intro _)
 ·rename_i h;rw [kH,bp h];exact ⟨rfl,rfl⟩
 ·rename_i h;rw [kH,aR h];refine aH aF bf aG (σ:=Nat) (λj=>([(2,.ptr 0 0),(3,.ptr 1 0),(5,.arr 2),(6,.k j)],[.cells d.cells,.cells c.LW,.row 3 1 (nums ((c.ao.take j).filter λx=>lP d c.round x)) false])) (λj=>j<=c.ao.length) (λj=>c.ao.length - j) [2,3,5,6] ?_ ?_
  ·conv=>whnf
   exact ⟨0,rfl,rfl,br _⟩
  ·intro j hj
   conv=>whnf
   rw [fT];refine eF ?_;repeat' (apply tw<;>intro _)
   ·rename_i dM;refine eG c.ao j λx hx=>?_;refine cP acp ?_
    ((with_reducible apply aC);(focus (intro K hK;(conv=>whnf);exact ⟨oM,[.j x],bD hx,hK⟩));(conv=>whnf))
    (refine eF ?_)
    refine aQ (BJ d hd x) ?_;have dq:∀ b,lP d c.round x=b->(c.ao.take (j+1)).filter (λx=>lP d c.round x)=(c.ao.take j).filter (λx=>lP d c.round x)++(if b then [x] else []):=by
     intro b hb;rw [iu,hx];simp only [WR,CC,Ff,hb]
     cases b<;>rfl
    have qx:((c.ao.take j).filter (λx=>lP d c.round x)).length<=j:=by
     have h1:=mv (λx=>lP d c.round x) (c.ao.take j);rw [mw] at h1;omega
    have KM:=nums_length ((c.ao.take j).filter (λx=>lP d c.round x))
    cases hg:fk d.aa x with
    | none =>
      rw [show lI d.aa x = -1 by rw [lI,hg];rfl];have ON:lP d c.round x=true:=by rw [lP,mZ,hg];rfl
      refine rdv ?_;refine cP Uh ?_;refine ⟨oM,[.j x],bD hx,?_⟩;refine rdv ?_;refine ⟨by simp [KM];omega,?_⟩;refine rdv ?_;refine ⟨j+1,rfl,?_,oM,oM⟩;rw [dq _ ON,<-db];rfl
    | some k =>
      obtain ⟨c',kc,Z3⟩:=yb hg;rw [show lI d.aa x=(k:Int) by rw [lI,hg];rfl];have ON:lP d c.round x=decide (c'.round≠c.round - 1):=by rw [lP,mZ,hg,WU,kc]
      have yd:=(dW.1 kc).1;refine rdv ?_;refine cP Uh ?_
      ((with_reducible apply aC);(focus (intro K hK;(conv=>whnf);exact ⟨oM,c'.cs,aB kc,hK⟩));(conv=>whnf))
      refine eF ?_;repeat' (apply tw<;>intro _)
      ·rename_i h1;rw [cz oM] at ON;refine ⟨oM,[.j x],bD hx,?_⟩;refine rdv ?_;refine ⟨by simp [KM];omega,?_⟩;refine rdv ?_;refine ⟨j+1,rfl,?_,oM,oM⟩;rw [dq _ ON,<-db];rfl
      ·rename_i h1;rw [aP oM] at ON;refine ⟨j+1,rfl,?_,oM,oM⟩;rw [dq _ ON];simp [Dag.cells,Cert.LW]
   ·rename_i dM;rw [gx oM];exact ⟨rfl,rfl⟩
end Go.Proofs.YtolkmjfkkkiboaaGreat
namespace Go.Proofs.YtolkmjfkkkiboaaGreat
open Go Go.Ab Go.RowKit Go.Lib Go.Proofs Go.Shelf Tryz
theorem C9 (b n c i vb vc:Nat) (cs vs:List Value) {cur fH:Array Value} (w:World) (hi:i<n) (eh:n+1<=c) (UF:c<=9223372036854775807) (UG:vb≠b)
  (gE:w.heap[b]? = some (.cells cur 47 (0,0))) (da:cur.size=c * 6) (yM:w.heap[vb]? = some (.cells fH 47 (0,0))) (CX:fH.toList.take 6=vs) (tY:vs.length=6)
  (ck:cur.toList.take (n * 6)=cs) (yW:∀ v∈cs,v.oneCell'=true) (Eh:∀ v∈vs,v.oneCell'=true) :
  Calls prog 195 #[.slice (some ⟨b,0,none⟩) n c,.j i,.slice (some ⟨vb,0,none⟩) 1 vc] w λe w' =>
   e = .returned (.slice (some ⟨b,0,none⟩) (n+1) c)/\∃ (cur':Array Value) (w1:World),aO w w1/\w'=w1.setRow b cur'/\cur'.size=cur.size/\cur'.toList.take ((n+1) * 6)=cs.take (i * 6)++vs++cs.drop (i * 6):=by
 have t0:=Tryz.underlying0;have a0:=Tryz.isAgg0;have z0:=Tryz.sizeOf0;have v0:=Tryz.zeroValue0;have t3:=Tryz.underlying3;have a3:=Tryz.isAgg3;have z3:=Tryz.sizeOf3;have v3:=Tryz.zeroValue3;have t4:=Tryz.underlying4;have a4:=Tryz.isAgg4;have z4:=Tryz.sizeOf4;have v4:=Tryz.zeroValue4;have t22:=Tryz.underlying26;have a22:=Tryz.isAgg26;have z22:=Tryz.sizeOf26;have v22:=Tryz.zeroValue26;have t68:=Tryz.underlying47;have a68:=Tryz.isAgg47;have BK:=Tryz.sizeOf47;have v68:=Tryz.zeroValue47;have u0:=run_underlying t0;have u3:=run_underlying t3;have u4:=run_underlying t4;have u22:=run_underlying t22;have u68:=run_underlying t68;have mixed:=cB;have oA:¬((i:Int)=(n:Int)):=oM;have fD:i<=n:=oM;have Ag:IntKind.i64.wrap ((i:Int)+1)=(i:Int)+1:=by rw [IntKind.wrap_i64];omega
 have hwn:IntKind.i64.wrap ((n:Int)+1)=(n:Int)+1:=by rw [IntKind.wrap_i64];omega
 have eS:(0:Int)<=(i:Int)+1:=oM;have yH:((i:Int)+1).toNat=i+1:=oM;have kx:((n:Int)+1).toNat=n+1:=oM;have iR:¬(c=i+1):=oM;have HH:(i:Int)<=(n:Int)+1:=oM;have hb4:¬(c=i):=oM;have hb5:¬((n:Int)+1>(c:Int)):=oM;have UH:w.shape? vb=some (47,fH.size):=by simp [World.shape?,yM]
 have UI:w.shape? b=some (47,cur.size):=by simp [World.shape?,gE]
 have BE:∀ o,w.frozen? ⟨vb,o,none⟩=false:=λo=>by simp [World.frozen?,yM]
 have Jc:cur.size≠0:=oM;have tG:∀ lb cb,(callFunc 229 #[.slice (some ⟨vb,0,none⟩) 1 vc,.slice (some ⟨b,(i+1) * 6,none⟩) lb cb]).run prog w = .ok (.value (.bool false)) w:=λlb cb=>by
  rw [run_callFunc_extern func229 kR kR kR (e:=Extern.SlicesOverlaps.overlaps #[26,26] #[4]) kR,
   Lib.run_overlaps_apart w 26 4 47 t22 6 BK ⟨vb,0,none⟩ ⟨b,(i+1) * 6,none⟩ 1 vc lb cb UG 47 47 fH.size cur.size UH UI Jc (BE _) (BE _)]
  rfl
 have bR:cs.length=n * 6:=by rw [<-ck,mw,lU,da];exact vd (lT _ oM)
 have pM:(cs.drop (i * 6)).length=(n - i) * 6:=by rw [tf,bR,WY]
 obtain ⟨gF,lp⟩:∃ gF:Array Value,(cur.toList.take ((i+1) * 6)++cs.drop (i * 6)++cur.toList.drop ((i+1) * 6+(cs.drop (i * 6)).length)).toArray=gF:=⟨_,rfl⟩;have eL:=Bp cur.toList vs (i * 6) (n * 6) 6 (lT _ fD) (by rw [lU,da];omega) tY gF.toList (by rw [<-lp,ck,qu,Nu]);obtain ⟨fx,ri⟩:∃ fx:Array Value,(gF.toList.take (i * 6)++vs++gF.toList.drop (i * 6+vs.length)).toArray=fx:=⟨_,rfl⟩;have sy:gF.size=cur.size:=by have:=eL.2.2;simpa using this
 have wj:∀ ty dc sc,(Builtin.copy_ #[26,26] ty #[.slice (some ⟨b,(i+1) * 6,none⟩) (n - i) dc,.slice (some ⟨b,i * 6,none⟩) (n+1 - i) sc]).run prog w.drew = .ok (goInt (n - i:Nat)) (w.drew.setRow b gF):=λty dc sc=>by
  have:=cd (P:=prog) w.drew 26 26 ty 47 6 b ((i+1) * 6) (n - i) dc ⟨b,i * 6,none⟩ (n+1 - i) sc (n - i) (cs.drop (i * 6)) (cur:=cur) t22 BK (Nat.min_eq_right oM) pM
   (λj v hj=>by
     rw [add_lit _ rfl,show w.drew.cell? ⟨b,i * 6+j,none⟩=w.cell? ⟨b,i * 6+j,none⟩ from rfl,cell_of_row w b _ cur _ _ gE];rw [Dt,<-ck,nX] at hj;split at hj
     ·simpa using hj
     ·cases hj) gE (by rw [pM,da];omega) (λv hv=>yW v (G5 hv))
  rw [lp] at this;exact this
 have C_:∀ (W:World),(∀ x:Nat,W.heap[x]? = (w.drew.setRow b gF).heap[x]?)->∀ ty dc,(Builtin.copy_ #[26,26] ty #[.slice (some ⟨b,i * 6,none⟩) (n+1 - i) dc,.slice (some ⟨vb,0,none⟩) 1 vc]).run prog W = .ok (goInt (1:Nat)) (W.setRow b fx):=λW hW ty dc=>by
  have:=cd (P:=prog) W 26 26 ty 47 6 b (i * 6) (n+1 - i) dc ⟨vb,0,none⟩ 1 vc 1 vs (cur:=gF) (e:=47) t22 BK (vd oM) (by rw [tY])
   (λj v hj=>by
     rw [add_lit _ rfl,gP];have h1:W.cell? ⟨vb,j,none⟩=(w.drew.setRow b gF).cell? ⟨vb,j,none⟩:=by simp only [World.cell?,hW]
     rw [h1,cell_setRow_other _ _ _ _ UG,show w.drew.cell? ⟨vb,j,none⟩=w.cell? ⟨vb,j,none⟩ from rfl,cell_of_row w vb _ fH _ _ yM];rw [<-CX,nX] at hj;split at hj
     ·simpa using hj
     ·cases hj) (by rw [hW];exact setRow_heap _ _ _ _ _ _ gE) (by rw [tY,sy,da];omega) Eh
  rw [ri] at this;exact this
 clear lp pM bR
 go_enter func195,ntmps195
 go_wp2_with (simp only [tG])
 go_region_law_o (refine step_copy_runI rfl _ _ 26 26 rfl (.slice (some ⟨b,(i+1) * 6,none⟩) (n - i) (c - (i+1))) (.slice (some ⟨b,i * 6,none⟩) (n+1 - i) (c - i)) (by simp [Act.eval,Act.put]) (by simp [Act.eval,Act.put]) (wj _ _ _) ?_)
 go_wp2_with (at_builtin;refine wpList_copy_runI _ rfl _ _ 26 26 rfl _ _ rfl rfl (C_ _ (λ_=>rfl) _ _) ?_)
 go_ret
 refine ⟨rfl,fx,w.drew,aO.drew w,setRow_setRow _ _ _ _,?_,?_⟩
 ·have:=eL.2.1;rw [<-ri];simpa using this
 ·rw [qu,Nu,<-ri];have:=eL.1;rw [ck] at this;exact this
theorem Gk (b n c i vb vc:Nat) (cs vs:List Value) {cur fH:Array Value} (w:World) (hi:i<n) (hnc:n<=c) (eh:c<n+1) (xu:(n+1) * 8192<=140737488355328) (UG:vb≠b)
  (gE:w.heap[b]? = some (.cells cur 47 (0,0))) (da:cur.size=c * 6) (yM:w.heap[vb]? = some (.cells fH 47 (0,0))) (CX:fH.toList.take 6=vs) (tY:vs.length=6)
  (ck:cur.toList.take (n * 6)=cs) (yW:∀ v∈cs,v.oneCell'=true) (Eh:∀ v∈vs,v.oneCell'=true) :
  Calls prog 195 #[.slice (some ⟨b,0,none⟩) n c,.j i,.slice (some ⟨vb,0,none⟩) 1 vc] w λe w' =>
   ∃ (cur':Array Value) (G:Nat),e = .returned (.slice (some ⟨w.heap.size,0,none⟩) (n+1) G)/\aO w w'/\w'.heap[w.heap.size]? = some (.cells cur' 47 (0,0))/\cur'.size=G * 6/\n+1<=G/\G<=maxLen/\cur'.toList.take ((n+1) * 6)=cs.take (i * 6)++vs++cs.drop (i * 6):=by
 have t0:=Tryz.underlying0;have a0:=Tryz.isAgg0;have z0:=Tryz.sizeOf0;have v0:=Tryz.zeroValue0;have t3:=Tryz.underlying3;have a3:=Tryz.isAgg3;have z3:=Tryz.sizeOf3;have v3:=Tryz.zeroValue3;have t4:=Tryz.underlying4;have a4:=Tryz.isAgg4;have z4:=Tryz.sizeOf4;have v4:=Tryz.zeroValue4;have t22:=Tryz.underlying26;have a22:=Tryz.isAgg26;have z22:=Tryz.sizeOf26;have v22:=Tryz.zeroValue26;have t68:=Tryz.underlying47;have a68:=Tryz.isAgg47;have BK:=Tryz.sizeOf47;have v68:=Tryz.zeroValue47;have u0:=run_underlying t0;have u3:=run_underlying t3;have u4:=run_underlying t4;have u22:=run_underlying t22;have u68:=run_underlying t68;have mixed:=cB;obtain ⟨ti,Jd⟩:∃ ti,tt 47=some ti:=⟨_,rfl⟩;have htb:ti.bytes<=8192:=by cases Jd;decide
 have IV:ti.size=6:=by cases Jd;rfl
 obtain ⟨_,info,k1,k2,k3,k4⟩:=aF 47 ti Jd;have CG:=bf 47 ti Jd;rw [IV] at CG k3;clear Jd;have bR:cs.length=n * 6:=by rw [<-ck,mw,lU,da];exact vd (lT _ oM)
 have pM:(cs.drop (i * 6)).length=(n - i) * 6:=by rw [tf,bR,WY]
 have hbw:b<w.heap.size:=(ud.1 gE).1;have hvw:vb<w.heap.size:=(ud.1 yM).1;have hold:(Builtin.firstCells info.size i (.slice (some ⟨b,0,none⟩) i c)).run prog w.drew = .ok (cs.take (i * 6)).toArray w.drew :=
  run_firstCells_some w.drew info.size i ⟨b,0,none⟩ i c (cs.take (i * 6)) (by rw [mw,bR,k3];exact vd (lT _ oM)) (λj v hj=>by
   rw [add_lit _ rfl,gP,show w.drew.cell? ⟨b,j,none⟩=w.cell? ⟨b,j,none⟩ from rfl,cell_of_row w b _ cur _ _ gE];rw [<-ck,nX] at hj;split at hj
   ·rw [nX] at hj;split at hj
    ·simpa using hj
    ·cases hj
   ·cases hj)
 have AE:(n+1) * info.bytes<=140737488355328:=fS (Nat.mul_le_mul_left _ (by rw [k4];exact htb)) xu;have WL:(n:Int)+1 - (i:Int)=((n+1 - i:Nat):Int):=oM;have UJ:i+(n+1 - i)=n+1:=oM;obtain ⟨G,hG⟩:∃ G,G=grownCap w (n+1) c 47:=⟨_,rfl⟩;obtain ⟨jo,wk⟩:∃ jo:Array Value,jo=(cs.take (i * 6)).toArray++Builtin.zeroCells ti.zero.cells (n+1 - i)++Builtin.zeroCells ti.zero.cells (G - (n+1)):=⟨_,rfl⟩;have hrz:∀ ty,(Builtin.append_ #[26,3] ty #[.slice (some ⟨b,0,none⟩) i c,.j ((n:Int)+1 - (i:Int))]).run prog w =
   .ok (.slice (some ⟨w.heap.size,0,none⟩) (n+1) G) (w.drew.alloc (.cells jo 47)):=λty=>by
  have h:=Lib.run_append_grow_zeros w 26 3 ty 47 info _ .i64 .i64 t22 t3 k1 k2 (some ⟨b,0,none⟩) i c (cs.take (i * 6)) hold (n+1 - i) oM oM oM oM (fS (lT _ oM) (fS AE dC)) (by rw [UJ];exact growslice_fits eh AE);rw [UJ,<-hG,<-wk] at h;rw [WL];exact h
 have hGn:n+1<=G:=by rw [hG];exact grownCap_ge w _ _ _
 have hGm:G<=maxLen:=by
  rw [hG];exact grownCap_le_maxLen w (n+1) c 47 (by unfold maxLen;omega)
 have afN:G<=9223372036854775807:=by unfold maxLen at hGm;omega
 have Je:jo.size=G * 6:=by
  rw [wk];simp only [WT,size_zeroCells,CM,mw,bR,CG];rw [vd (lT _ (by omega:i<=n)),<-qu,<-qu];congr 1;omega
 have hRt:jo.toList.take (i * 6)=cs.take (i * 6):=by
  rw [wk,Pu,Pu,uf,KW (by simp [bR];omega),gx (by simp;omega)]
 obtain ⟨R1,OO⟩:∃ R1:Array Value,(jo.toList.take (i * 6)++vs++jo.toList.drop (i * 6+vs.length)).toArray=R1:=⟨_,rfl⟩;obtain ⟨R2,OP⟩:∃ R2:Array Value,(R1.toList.take ((i+1) * 6)++cs.drop (i * 6)++R1.toList.drop ((i+1) * 6+(cs.drop (i * 6)).length)).toArray=R2:=⟨_,rfl⟩;have eL:=xU jo.toList vs (cs.drop (i * 6)) _ (i * 6) (n * 6) 6 (lT _ oM) (by rw [lU,Je];omega) tY (by rw [pM,WY]) hRt;have sy:R1.size=G * 6:=by rw [<-Je,<-OO];simpa using eL.2.2
 have e1:R1.toList=jo.toList.take (i * 6)++vs++jo.toList.drop (i * 6+vs.length):=by rw [<-OO]
 rw [<-e1,show i * 6+6=(i+1) * 6 by omega] at eL;have kj:R2.size=G * 6:=by rw [<-Je,<-OP];simpa using eL.2.1
 have hr2:R2.toList.take ((n+1) * 6)=cs.take (i * 6)++vs++cs.drop (i * 6):=by
  rw [<-OP,show (n+1) * 6=n * 6+6 by omega];exact eL.1
 have gd:(w.drew.alloc (.cells jo 47)).heap[w.heap.size]? = some (.cells jo 47 (0,0)):=heap_alloc_new w.drew _;have afO:vb≠w.heap.size:=oM;have hbN:b≠w.heap.size:=oM;have UK:∀ (W:World),(∀ x:Nat,W.heap[x]? = (w.drew.alloc (.cells jo 47)).heap[x]?)->∀ ty dc,(Builtin.copy_ #[26,26] ty #[.slice (some ⟨w.heap.size,i * 6,none⟩) (n+1 - i) dc,.slice (some ⟨vb,0,none⟩) 1 vc]).run prog W = .ok (goInt (1:Nat)) (W.setRow w.heap.size R1):=λW hW ty dc=>by
  have:=cd (P:=prog) W 26 26 ty 47 6 w.heap.size (i * 6) (n+1 - i) dc ⟨vb,0,none⟩ 1 vc 1 vs (cur:=jo) (e:=47) t22 BK (vd oM) (by rw [tY])
   (λj v hj=>by
     rw [add_lit _ rfl,gP];have h1:W.cell? ⟨vb,j,none⟩=(w.drew.alloc (.cells jo 47)).cell? ⟨vb,j,none⟩:=by simp only [World.cell?,hW]
     rw [h1];refine (aO.alloc w.drew _).cell ?_;rw [show w.drew.cell? ⟨vb,j,none⟩=w.cell? ⟨vb,j,none⟩ from rfl,cell_of_row w vb _ fH _ _ yM];rw [<-CX,nX] at hj;split at hj
     ·simpa using hj
     ·cases hj) (by rw [hW];exact gd) (by rw [tY,Je];omega) Eh
  rw [OO] at this;exact this
 have UL:∀ (W:World),(∀ x:Nat,W.heap[x]? = ((w.drew.alloc (.cells jo 47)).setRow w.heap.size R1).heap[x]?)->∀ ty dc sc,(Builtin.copy_ #[26,26] ty #[.slice (some ⟨w.heap.size,(i+1) * 6,none⟩) (n - i) dc,.slice (some ⟨b,i * 6,none⟩) (n - i) sc]).run prog W = .ok (goInt (n - i:Nat)) (W.setRow w.heap.size R2):=λW hW ty dc sc=>by
  have:=cd (P:=prog) W 26 26 ty 47 6 w.heap.size ((i+1) * 6) (n - i) dc ⟨b,i * 6,none⟩ (n - i) sc (n - i) (cs.drop (i * 6)) (cur:=R1) (e:=47) t22 BK (zfJ _) pM
   (λj v hj=>by
     rw [add_lit _ rfl];have h1:W.cell? ⟨b,i * 6+j,none⟩=((w.drew.alloc (.cells jo 47)).setRow w.heap.size R1).cell? ⟨b,i * 6+j,none⟩:=by simp only [World.cell?,hW]
     rw [h1,cell_setRow_other _ _ _ _ hbN];refine (aO.alloc w.drew _).cell ?_;rw [show w.drew.cell? ⟨b,i * 6+j,none⟩=w.cell? ⟨b,i * 6+j,none⟩ from rfl,cell_of_row w b _ cur _ _ gE];rw [Dt,<-ck,nX] at hj;split at hj
     ·simpa using hj
     ·cases hj) (by rw [hW];exact setRow_heap _ _ _ _ _ _ gd) (by rw [pM,sy];omega) (λv hv=>yW v (G5 hv))
  rw [OP] at this;exact this
 have Ag:IntKind.i64.wrap ((i:Int)+1)=(i:Int)+1:=by rw [IntKind.wrap_i64];omega
 have hwn:IntKind.i64.wrap ((n:Int)+1)=(n:Int)+1:=by rw [IntKind.wrap_i64];omega
 have hws:IntKind.i64.wrap ((n:Int)+1 - i)=(n:Int)+1 - i:=by rw [IntKind.wrap_i64];omega
 have eS:(0:Int)<=(i:Int)+1:=oM;have yH:((i:Int)+1).toNat=i+1:=oM;have oA:¬((i:Int)=(n:Int)):=oM;have fD:i<=n:=oM;have HH:(i:Int)<=(n:Int):=oM;have hb5:(c:Int)<(n:Int)+1:=oM;have hGi:¬(G=i):=oM;have afQ:¬(G=i+1):=oM;have hci:¬(c=i):=oM;clear WL UJ hold wk hG hRt Je OO OP eL sy e1;have Ei:∀ dc,(Builtin.copy_ #[26,26] 3 #[.slice (some ⟨w.heap.size,i * 6,none⟩) (n+1 - i) dc,.slice (some ⟨vb,0,none⟩) 1 vc]).run prog (w.alloc (.cells jo 47)).drew = .ok (goInt (1:Nat)) ((w.alloc (.cells jo 47)).drew.setRow w.heap.size R1):=λdc=>UK _ (λ_=>rfl) _ _;have Ej:=UL ((w.alloc (.cells jo 47)).drew.setRow w.heap.size R1).drew (λ_=>rfl) 3 (G - (i+1)) (c - i)
 go_enter func195,ntmps195
 go_wp2_with (first
  | (at_builtin;refine Lib.wpList_append_run _ rfl _ _ _ _ rfl _ _ rfl rfl _ _ (hrz _) ?_)
  | simp only [Ei])
 go_region_law_o (refine step_copy_runI rfl _ _ 26 26 rfl (.slice (some ⟨w.heap.size,(i+1) * 6,none⟩) (n - i) (G - (i+1))) (.slice (some ⟨b,i * 6,none⟩) (n - i) (c - i)) (by simp [Act.eval,Act.put]) (by simp [Act.eval,Act.put]) Ej ?_)
 go_wp2
 go_ret
 exact ⟨R2,G,rfl,(((aO.alloc w _).trans (aO.drew _)).xT _ (eQ _) _).trans (aO.drew _) |>.xT _ (eQ _) _,setRow_heap _ _ _ _ _ _ (setRow_heap _ _ _ _ _ _ gd),kj,hGn,hGm,hr2⟩
theorem Da (l:List (List DV)) (x:List DV) (i:Nat) (hi:i<l.length) (hl:l.length<=4294967296):zA 195 [.arr 0,.k i,.arr 1] [.row 47 6 l false,.row 47 6 [x] false] (pQ (.arr 2) [.dead,.row 47 6 [x] false,.row 47 6 (l.take i++x :: l.drop i) false]):=by
 intro c vs hc He hs hv;simp only [cD,VR,VD] at hv;obtain ⟨u0,r0,kQ,⟨cU,mN,lq⟩,u1,r1,rfl,zO,u2,r2,rfl,⟨fp,gq,o6⟩,rfl⟩:=hv;simp only [KF,ue,ke] at mN gq;subst mN;subst gq;subst zO;have j7:vs = #[u0,.j i,u2]:=by rw [<-uX (xs:=vs),kQ]
 rw [j7];have fR:=hs.fQ 0 _ rfl;have eS:=hs.fQ 1 _ rfl;obtain ⟨_,xw,eS⟩:=eS;obtain ⟨_,eM,fR⟩:=fR;have hx6:x.length=6:=xw x (by simp)
 cases xS:c.E0 1 with
 | none=>rw [xS] at eS;cases eS
 | some vb =>
 cases hE:c.E0 0 with
 | none =>
   rw [hE] at fR;have fR:l=[]:=fR;subst fR;simp at hi
 | some b =>
 rw [hE] at fR;rw [xS] at eS;simp only [bj,hE,xS] at lq o6;obtain ⟨cap,cur,rfl,hh,da⟩:=lq;obtain ⟨vc,fH,rfl,OQ,UM⟩:=o6;obtain ⟨ek,cur',nY,nx,gT,qN,CY⟩:=fR;rw [hh] at nY;cases nY
 obtain rfl:cap=ek:=oM;obtain ⟨vc',aap,Jf,aaq,Jg,_,wm⟩:=eS;rw [OQ] at Jf;cases Jf
 have ef:vb≠b:=by
  rintro rfl;have:=hs.inj 1 0 _ _ _ rfl rfl rfl rfl xS hE
  cases this
 simp only [CE,Du,gP,Nu,va,List.flatten_nil,gR] at wm Jg ⊢;have yW:=pH CY;have Eh:=pH wm;have tY:(fH.toList.take 6).length=6:=by rw [ed wm,hx6]
 have sB:(l.take i++x :: l.drop i).length=l.length+1:=by simp;omega
 have WI:∀ cs∈l.take i++x :: l.drop i,cs.length=6:=by
  intro cs ck;rcases gA.1 ck with h|h
  ·exact eM cs (Fc h)
  ·rcases jy.1 h with rfl|h
   ·exact hx6
   ·exact eM cs (G5 h)
 have gd:cR (aj c.M0 c.E0 [AB.row 47 6 l false,AB.row 47 6 [x] false] c.w0).rd (l.take i++x :: l.drop i).flatten ((cur.toList.take (l.length * 6)).take (i * 6)++fH.toList.take 6++(cur.toList.take (l.length * 6)).drop (i * 6)):=by
  rw [RG,va,eI l eM,kS l eM,<-uf];exact cf (cf (gJ _ CY) wm) (kP _ CY)
 by_cases eh:l.length+1<=cap
 ·refine (C9 b l.length cap i vb vc _ _ c.w0 hi eh (by unfold maxLen at qN;omega) ef hh da OQ rfl tY rfl yW Eh).mono ?_;rintro e w' ⟨rfl,fx,w1,kk,rfl,e_,PM⟩;have C8:=hs.lt (i:=0) rfl rfl hE;obtain ⟨Ga,UN⟩:=(hs.keeps hc kk).abT (i:=0) (zs:=l.take i++x :: l.drop i) rfl hE (cur':=fx) (by rw [kk.block b C8];exact hh) e_ (by rw [sB,da];exact lT _ eh) WI (by
   rw [sB,PM];exact cR.mono (iI hs.bl kk).rd gd)
  refine ⟨_,.arr 2,_,_,rfl,⟨rfl,rfl⟩,Ga,?_⟩;simp only [VR];refine ⟨_,rfl,?_⟩;simp only [bj,ca];exact ⟨cap,fx,by rw [sB],setRow_heap _ _ _ _ _ _ (by rw [kk.block b C8];exact hh),by rw [e_];exact da⟩
 ·refine (Gk b l.length cap i vb vc _ _ c.w0 hi gT oM oM ef hh da OQ rfl tY rfl yW Eh).mono ?_;rintro e w' ⟨fx,G,rfl,kk,DX,e_,hG1,hG2,PM⟩;obtain ⟨hk,pR⟩:=hs.kill (i:=0) rfl;obtain ⟨Ga,UN⟩:=hk.newRow hc kk (e:=47) (xs:=l.take i++x :: l.drop i) false (by exact ⟨dC,rfl⟩) WI DX e_ (by rw [sB];exact hG1) hG2 (by
   rw [sB,PM];exact cR.mono pR.rd gd)
  refine ⟨_,.arr 2,_,_,rfl,⟨rfl,rfl⟩,Ga,?_⟩;simp only [VR];refine ⟨_,rfl,?_⟩;simp only [bj,ca];exact ⟨G,fx,by rw [sB],DX,e_⟩
theorem BL (l:List (List DV)) (eM:∀ cs∈l,cs.length=6) (x:List DV) (hx:x.length=6) (hl:l.length<=4294967296):zA 195 [.arr 0,.k l.length,.arr 1] [.row 47 6 l false,.row 47 6 [x] false] (pQ (.arr 2) [.dead,.row 47 6 [x] false,.row 47 6 (l++[x]) false]):=by
 intro c vs hc He hs hv;have hv0:=hv;simp only [cD,VR,VD] at hv;obtain ⟨u0,r0,kQ,⟨cU,mN,lq⟩,u1,r1,rfl,zO,u2,r2,rfl,⟨fp,gq,o6⟩,rfl⟩:=hv;have hq:pP tt 26 [AB.row 47 6 l false,AB.row 47 6 [x] false] (.arr 0) (.arr 1) (pQ (.arr 2) [.dead,.row 47 6 [x] false,.row 47 6 (l++[x]) false]):=by
  conv=>whnf
  refine ⟨by simp;omega,?_⟩
  conv=>whnf
  exact ⟨rfl,rfl⟩
 have uZ:VR (aj c.M0 c.E0 [AB.row 47 6 l false,AB.row 47 6 [x] false] c.w0) (.arr 0) u0:=⟨cU,mN,lq⟩;have oz:VR (aj c.M0 c.E0 [AB.row 47 6 l false,AB.row 47 6 [x] false] c.w0) (.arr 1) u2:=⟨fp,gq,o6⟩;have hr:=λty=>rP aF bf hc hs hq ty uZ oz;simp only [KF,ue,ke] at mN gq;subst mN;subst gq;subst zO;have j7:vs = #[u0,.j l.length,u2]:=by rw [<-uX (xs:=vs),kQ]
 rw [j7];have fR:=hs.fQ 0 _ rfl;have eS:=hs.fQ 1 _ rfl;obtain ⟨_,xw,eS⟩:=eS;obtain ⟨_,eM,fR⟩:=fR
 cases xS:c.E0 1 with
 | none=>rw [xS] at eS;cases eS
 | some vb =>
 simp only [bj,xS] at o6;obtain ⟨vc,fH,rfl,OQ,UM⟩:=o6;obtain ⟨r,w',E',av,L',gi,⟨rfl,rfl⟩,fj,hle,UO⟩:=hr 26;simp only [CE,Du,gP] at gi ⊢;have t0:=Tryz.underlying0;have a0:=Tryz.isAgg0;have z0:=Tryz.sizeOf0;have v0:=Tryz.zeroValue0;have t3:=Tryz.underlying3;have a3:=Tryz.isAgg3;have z3:=Tryz.sizeOf3;have v3:=Tryz.zeroValue3;have t4:=Tryz.underlying4;have a4:=Tryz.isAgg4;have z4:=Tryz.sizeOf4;have v4:=Tryz.zeroValue4;have t22:=Tryz.underlying26;have a22:=Tryz.isAgg26;have z22:=Tryz.sizeOf26;have v22:=Tryz.zeroValue26;have t68:=Tryz.underlying47;have a68:=Tryz.isAgg47;have BK:=Tryz.sizeOf47;have v68:=Tryz.zeroValue47;have u0:=run_underlying t0;have u3:=run_underlying t3;have u4:=run_underlying t4;have u22:=run_underlying t22;have u68:=run_underlying t68;have mixed:=cB
 cases hE:c.E0 0 with
 | none =>
   rw [hE] at fR;have fR:l=[]:=fR;subst fR;simp only [bj,hE] at lq;subst lq;refine Calls.mono (R:=λe w2=>e = .returned r/\w2=w') ?_ (by rintro _ _ ⟨rfl,rfl⟩;exact ⟨_,.arr 2,_,_,rfl,⟨rfl,rfl⟩,fj,UO⟩)
   go_enter func195,ntmps195
   go_wp2_with (at_builtin;refine Lib.wpList_append_run _ rfl _ _ _ _ rfl _ _ rfl rfl _ _ gi ?_)
   go_ret
   exact ⟨rfl,rfl⟩
 | some b =>
   rw [hE] at fR;simp only [bj,hE] at lq;obtain ⟨cap,cur,rfl,hh,da⟩:=lq;obtain ⟨ek,cur',nY,nx,gT,qN,CY⟩:=fR;rw [hh] at nY;cases nY
   obtain rfl:cap=ek:=oM;have UF:cap<=9223372036854775807:=by unfold maxLen at qN;omega
   refine Calls.mono (R:=λe w2=>e = .returned r/\w2=w') ?_ (by rintro _ _ ⟨rfl,rfl⟩;exact ⟨_,.arr 2,_,_,rfl,⟨rfl,rfl⟩,fj,UO⟩);clear da nx UO fj hle;obtain ⟨n,hn⟩:∃ n,l.length=n:=⟨_,rfl⟩;rw [hn] at gi gT ⊢
   go_enter func195,ntmps195
   go_wp2_with (at_builtin;refine Lib.wpList_append_run _ rfl _ _ _ _ rfl _ _ rfl rfl _ _ gi ?_)
   all_goals (go_ret;exact ⟨rfl,rfl⟩)
end Go.Proofs.YtolkmjfkkkiboaaGreat
