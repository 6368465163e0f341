/- PrimaryExact: contracts. -/
import Derived.Test.YtolkmjfkkkiboaaGreatPrimaryExactCodA
import Derived.Ground.SlgmProg
import Derived.Shelf.SortM.Plain
import Derived.Shelf.SortM.SortNone
import Derived.Test.YtolkmjfkkkiboaaGreatProg
set_option linter.all false
set_option maxRecDepth 100000
namespace Go.Proofs.YtolkmjfkkkiboaaGreat
open Go.Ab Go.RowKit Go.MapKept Tryz
attribute [local irreducible] ay AW cw eA eo bL
theorem BD {r a:Int}:∀ {l:List Cert},dJ l->l.take (pos l r a)=l.filter (λc=>c.before r a)/\l.drop (pos l r a)=l.filter (λc => !c.before r a)
 | [],_=>⟨rfl,rfl⟩
 | x :: t,hs=>by
   have bP:=Sb.1 hs;obtain ⟨i1,i2⟩:=BD (r:=r) (a:=a) bP.2
   cases hx:x.before r a with
   | true =>
     have hp:pos (x :: t) r a=pos t r a+1:=by simp [pos,hx]
     rw [hp,ZG,zdQ,i1,i2];simp [hx]
   | false =>
     have bK:∀ y∈t,y.before r a=false:=by
      intro y hy
      cases hb:y.before r a with
      | false=>rfl
      | true =>
        have h1:=bh.1 (bP.1 y hy);have h2:=bh.1 hb;have:x.before r a=true:=bh.2 oM;rw [hx] at this;cases this
     have hf:t.filter (λc=>c.before r a)=[]:=Nr.2 λy hy=>by simp [bK y hy]
     have hg:t.filter (λc => !c.before r a)=t:=zd0.2 λy hy=>by simp [bK y hy]
     have hp:pos (x :: t) r a=0:=by simp [pos,hx,hf]
     rw [hp];simp [hx,hf,hg]
def mW (l:List Cert) (r:Int):List Cert:=l.filter λc=>decide (c.round=r)
def Qd (l:List Cert):Prop:=∀ c∈l,1<=c.af/\c.af<=16
theorem dJ.filter {l:List Cert} (h:dJ l) (p:Cert->Bool):dJ (l.filter p):=zeS zd1 h
theorem of_slice {l:List Cert} {r:Int} (hs:dJ l) (ha:Qd l):pos l r 0<=pos l r 17/\(l.take (pos l r 17)).drop (pos l r 0)=mW l r:=by
 have h17:=(BD (r:=r) (a:=17) hs).1;have hle:pos l r 0<=pos l r 17:=by
  unfold pos;rw [<-List.countP_eq_length_filter,<-List.countP_eq_length_filter];exact List.countP_mono_left λc hc h=>bh.2 (by have:=bh.1 h;omega)
 refine ⟨hle,?_⟩;rw [h17];have hp:pos (l.filter λc=>c.before r 17) r 0=pos l r 0:=by
  unfold pos;rw [List.filter_filter];congr 1;refine List.filter_congr λc hc=>?_
  cases h:c.before r 0 with
  | false=>rfl
  | true =>
    have:c.before r 17=true:=bh.2 (by have:=bh.1 h;omega);rw [this];rfl
 rw [<-hp,(BD (r:=r) (a:=0) (hs.filter _)).2,List.filter_filter];refine List.filter_congr λc hc=>?_;have:=ha c hc;by_cases h:c.round=r
 ·have h1:c.before r 17=true:=bh.2 oM;have h2:c.before r 0=false:=by
   cases hb:c.before r 0 with
   | false=>rfl
   | true=>have:=bh.1 hb;omega
  simp [h,h1,h2]
 ·rcases Int.lt_or_gt_of_ne h with h1|h1
  ·have:c.before r 0=true:=bh.2 (.inl h1);simp [h,this]
  ·have:c.before r 17=false:=by
    cases hb:c.before r 17 with
    | false=>rfl
    | true=>have:=bh.1 hb;omega
   simp [h,this]
def jR (l:List Cert):Int:=(l.getLast?).elim 0 (·.round)
theorem Yq (d:Dag) (hd:aU d.aa):zA 184 [d.av] [] (pQ (.k (jR d.aa)) []):=by
 have bR:=ak d.aa;unfold aU at hd;refine gG func184 ntmps184 ?_;repeat' (apply tw<;>intro _)
 ·rename_i h;obtain ⟨c,hc⟩:∃ c,d.aa[d.aa.length - 1]? = some c:=⟨_,ff oM⟩;have hl:d.aa.getLast? = some c:=by rw [List.getLast?_eq_getElem?];exact hc
  refine ⟨oM,c.cs,by rw [show ((ah d.aa).length - 1:Int).toNat=d.aa.length - 1 by omega];exact aB hc,?_⟩
  conv=>whnf
  exact ⟨by rw [jR,hl];rfl,rfl⟩
 ·rename_i h;have:d.aa=[]:=oy oM;exact ⟨by rw [jR,this];rfl,rfl⟩
structure Dag.fit (d:Dag):Prop where
 aU:aU d.aa
 sorted:dJ d.aa
 fit:Ut d.aa
 Qd:Qd d.aa
theorem Uv (l:List Cert) (r:Int) (hl:aU l) (hs:dJ l) (hf:Ut l) (hr:gL r):zA 154 [.d (.sl 6 (ah l)),.d (.CP .f64 (bL .f64 r) 0)] [] (pQ (.tup [.k (pos l r 0),.d (.bool (y3 l r 0).isSome)]) []):=by
 have:=wb l r 0 hl hs hf hr ⟨dC,dC⟩;rw [rh,XH] at this;exact this
theorem Ed (l:List Cert) (r:Int) (hl:aU l) (hs:dJ l) (hf:Ut l) (hr:gL r):zA 154 [.d (.sl 6 (ah l)),.d (.CP .f64 (bL .f64 r) 4625478292286210048)] [] (pQ (.tup [.k (pos l r 17),.d (.bool (y3 l r 17).isSome)]) []):=by
 have:=wb l r 17 hl hs hf hr ⟨dC,dC⟩;rw [rh,TL] at this;exact this
theorem rS (d:Dag) (hd:d.fit) (r:Int) (hr:gL r):zA 137 [d.av,.k r] [] (pQ (.d (.sl 6 (ah (mW d.aa r)))) []):=by
 have bR:=ak d.aa;obtain ⟨h1,h2⟩:=of_slice (r:=r) hd.sorted hd.Qd;have h3:=uI d.aa r 17;have h4:=hd.aU;unfold aU at h4;refine dB func137 ntmps137 ?_;refine (Uv d.aa r hd.aU hd.sorted hd.fit hr).mono ?_;rintro _ _ ⟨rfl,rfl⟩
 conv=>whnf
 refine aQ (Ed d.aa r hd.aU hd.sorted hd.fit hr) ?_;refine ⟨oM,oM,oM,?_⟩
 conv=>whnf
 rw [show (ah (mW d.aa r))=((ah d.aa).take (pos d.aa r 17)).drop (pos d.aa r 0) by rw [<-h2];simp [ah,List.map_drop,List.map_take]];exact ⟨rfl,rfl⟩
def aae:AV := .agg [.k 0,.k 0,.d .nils,.d .nils,.k 0,.d .nils]
theorem I8 (d:Dag) (hd:d.fit) (r a:Int) (hr:gL r) (ha:gL a):zA 251 [d.av,.d (rh r a)] [] (λav L=>((∃ c,y3 d.aa r a=some c/\av = .tup [c.av,.d (.bool true)])∨(y3 d.aa r a=none/\av = .tup [aae,.d (.bool false)]))/\L=[]):=by
 refine dB func251 ntmps251 ?_;refine (wb d.aa r a hd.aU hd.sorted hd.fit hr ha).mono ?_;rintro _ _ ⟨rfl,rfl⟩;obtain ⟨b,hb⟩:∃ b,(y3 d.aa r a).isSome=b:=⟨_,rfl⟩;rw [hb];refine rdv ?_;repeat' (apply tw<;>intro _)
 ·rename_i h;subst h;exact ⟨.inr ⟨by simpa using hb,rfl⟩,rfl⟩
 ·rename_i h;subst h;rw [sN hd.sorted] at hb;obtain ⟨c,hc⟩:∃ c,d.aa[pos d.aa r a]? = some c:=by
   cases hg:d.aa[pos d.aa r a]? with
   | none=>rw [hg] at hb;cases hb
   | some c=>exact ⟨c,rfl⟩
  have he:y3 d.aa r a=some c:=by
   rw [sN hd.sorted,hc];rw [hc] at hb;revert hb;by_cases h:c.round=r/\c.af=a<;>simp [Option.filter,h]
  refine ⟨oM,c.cs,aB hc,?_⟩
  conv=>whnf
  exact ⟨.inl ⟨c,he,rfl⟩,rfl⟩
theorem LY (d:Dag) (hd:d.fit) (r a:Int) (hr:gL r) (ha:gL a) {c:Cert} (h:y3 d.aa r a=some c):zA 251 [d.av,.d (rh r a)] [] (pQ (.tup [c.av,.d (.bool true)]) []):=by
 refine (I8 d hd r a hr ha).mono ?_;rintro _ _ ⟨⟨c',hc,rfl⟩|⟨hc,_⟩,rfl⟩
 ·rw [h] at hc;cases hc;exact ⟨rfl,rfl⟩
 ·rw [h] at hc;cases hc
theorem LZ (d:Dag) (hd:d.fit) (r a:Int) (hr:gL r) (ha:gL a) (h:y3 d.aa r a=none):zA 251 [d.av,.d (rh r a)] [] (pQ (.tup [aae,.d (.bool false)]) []):=by
 refine (I8 d hd r a hr ha).mono ?_;rintro _ _ ⟨⟨c',hc,_⟩|⟨_,rfl⟩,rfl⟩
 ·rw [h] at hc;cases hc
 ·exact ⟨rfl,rfl⟩
def wc (n r:Int):Int:=(r / 2 - 1) % n+1
theorem Uw (n r:Int) (hn:0<n/\n<=16) (hr:2<=r/\r<=1099511627777):zA 252 [.k n,.k r] [] (pQ (.k (wc n r)) []):=by
 have h1:=WV (r / 2 - 1) (oM:n≠0);have h2:=ZI (r / 2 - 1) hn.1;refine dB func252 ntmps252 ?_;refine ⟨dC,?_⟩;intro z hz;have:z=r / 2:=by rw [hz,zdP oM,yQ oM]
 clear hz;subst this
 conv=>whnf
 ((with_reducible apply eU);(focus omega);(conv=>whnf))
 refine ⟨oM,?_⟩;intro z hz;have:z=(r / 2 - 1) % n:=by rw [hz,zd2 oM]
 clear hz;subst this
 conv=>whnf
 ((with_reducible apply eU);(focus omega);(conv=>whnf))
 exact ⟨rfl,rfl⟩
theorem L5 {n r:Int} (hn:0<n/\n<=16):1<=wc n r/\wc n r<=16:=by
 have h1:=WV (r / 2 - 1) (oM:n≠0);have h2:=ZI (r / 2 - 1) hn.1;unfold wc;omega
def iU (d:Dag) (r:Int):Int:=(y3 d.aa r (wc d.nodes r)).elim 0 (·.ae)
theorem rT (d:Dag) (hd:d.fit) (hn:0<d.nodes/\d.nodes<=16) (r:Int) (hr:2<=r/\r<=1099511627777):zA 224 [d.av,.k r] [] (pQ (.k (iU d r)) []):=by
 have h1:=L5 (r:=r) hn;refine dB func224 ntmps224 ?_;obtain ⟨a,Gg⟩:∃ a,wc d.nodes r=a:=⟨_,rfl⟩;rw [Gg] at h1;have hle:=Uw d.nodes r hn hr;rw [Gg] at hle;have BE:gL r:=⟨oM,oM⟩;have hfa:gL a:=⟨oM,oM⟩;rw [iU,Gg]
 cases hc:y3 d.aa r a with
 | none =>
   have hth:=LZ d hd r a BE hfa hc;refine cP OH ?_
   (refine tU hle ?_)
   (refine eF ?_)
   (refine tU (gW r a) ?_)
   (refine eF ?_)
   (refine tU hth ?_)
   (refine eF ?_)
   (refine tV hth ?_)
   (refine eF ?_)
   (refine tV (gW r a) ?_)
   (refine eF ?_)
   (refine tV hle ?_)
   (refine eF ?_)
   exact ⟨rfl,rfl⟩
 | some c =>
   have hth:=LY d hd r a BE hfa hc;refine cP OH ?_
   (refine tU hle ?_)
   (refine eF ?_)
   (refine tU (gW r a) ?_)
   (refine eF ?_)
   (refine tU hth ?_)
   (refine eF ?_)
   (refine tV hth ?_)
   (refine eF ?_)
   (refine tV (gW r a) ?_)
   (refine eF ?_)
   (refine tV hle ?_)
   (refine eF ?_)
   exact ⟨rfl,rfl⟩
theorem Ux (l:List Int) (hl:aU l) (x:Int):zA 174 [.d (.sl 1 (nums l)),.k x] [] (λav L=>(∃ z:Int,av = .k z/\(z≥0↔x∈l))/\L=[]):=by
 have eM:=nums_length l;unfold aU at hl;refine dB func174 ntmps174 ?_;refine aH aF bf aG (σ:=Nat) (λj=>([(0,.d (.sl 1 (nums l))),(1,.k x),(7,.k l.length),(8,.k j)],[])) (λj=>j<=l.length/\¬x∈l.take j) (λj=>l.length - j) [0,1,7,8] ?_ ?_
 ·conv=>whnf
  exact ⟨0,by rw [eM];rfl,rfl,br _,by simp⟩
 ·rintro j ⟨h1,h2⟩;refine rdv ?_;repeat' (apply tw<;>intro _)
  ·rename_i h;obtain ⟨y,hy⟩:=eH l j;refine ⟨oM,[.j y],bD hy,?_⟩;refine rdv ?_;repeat' (apply tw<;>intro _)
   ·rename_i h3;exact ⟨⟨_,rfl,by rw [h3];exact ⟨λ_=>fU hy,λ_=>Int.natCast_nonneg _⟩⟩,rfl⟩
   ·rename_i h3;exact ⟨j+1,rfl,rfl,⟨oM,by rw [iu,hy];simpa using ⟨h2,h3⟩⟩,oM⟩
  ·rename_i h;rw [show j=l.length by omega,lD] at h2;exact ⟨⟨_,rfl,⟨λh3=>absurd h3 dC,λh3=>absurd h3 h2⟩⟩,rfl⟩
theorem gX (l:List Int) (hl:aU l) (x:Int):zA 135 [.d (.sl 1 (nums l)),.k x] [] (pQ (.d (.bool (decide (x∈l)))) []):=by
 refine dB func135 ntmps135 ?_;refine (Ux l hl x).mono ?_;rintro _ _ ⟨⟨z,rfl,hz⟩,rfl⟩
 conv=>whnf
 exact ⟨bu (by simpa using hz),rfl⟩
def aA (d:Dag) (r:Int):Nat:=((mW d.aa (r+1)).filter λc=>decide (iU d r>0/\iU d r∈c.ao)).length
def Uy (d:Dag):Prop:=∀ c∈d.aa,aU c.ao
theorem Uz (d:Dag) (hd:d.fit) (hn:0<d.nodes/\d.nodes<=16) (hp:Uy d) (r:Int) (hr:2<=r/\r<=1099511627776):zA 253 [d.av,.k r] [] (pQ (.k (aA d r)) []):=by
 have qx:aU (mW d.aa (r+1)):=fS (mv ..) hd.aU;have hfp:∀ c∈mW d.aa (r+1),aU c.ao:=λc hc=>hp c (G7.1 hc).1;refine dB func253 ntmps253 ?_;refine (rT d hd hn r ⟨hr.1,oM⟩).mono ?_;rintro _ _ ⟨rfl,rfl⟩;obtain ⟨a,ha⟩:∃ a,iU d r=a:=⟨_,rfl⟩;rw [aA,ha];refine rdv ?_;refine (rS d hd (r+1) ⟨oM,oM⟩).mono ?_;rintro _ _ ⟨rfl,rfl⟩;obtain ⟨l,hl⟩:∃ l,mW d.aa (r+1)=l:=⟨_,rfl⟩;rw [hl] at qx hfp ⊢;have eM:=ak l;unfold aU at qx
 conv=>whnf
 refine aH aF bf aG (σ:=Nat) (λj=>([(4,.k (((l.take j).filter λc=>decide (a>0/\a∈c.ao)).length:Nat)),(5,.k a),(14,.d (.sl 6 (ah l))),(15,.k l.length),(16,.k j)],[])) (λj=>j<=l.length) (λj=>l.length - j) [4,5,14,15,16] ?_ ?_
 ·conv=>whnf
  exact ⟨0,by rw [eM];rfl,rfl,br _⟩
 ·intro j hj;refine rdv ?_;repeat' (apply tw<;>intro _)
  ·rename_i h;obtain ⟨c,hc⟩:=eH l j;refine ⟨oM,c.cs,aB hc,?_⟩;have hlen:((l.take j).filter λc=>decide (a>0/\a∈c.ao)).length<=j:=by
    have h1:=mv (λc:Cert=>decide (a>0/\a∈c.ao)) (l.take j);rw [mw] at h1;omega
   refine rdv ?_;repeat' (apply tw<;>intro _)
   ·rename_i ha0;refine aQ (gX c.ao (hfp c (fU hc)) a) ?_;repeat' (apply tw<;>intro _)
    ·rename_i x_;refine ⟨j+1,?_,rfl,oM,oM⟩;rw [iu,hc];simp only [WR,CC,iQ,Ff,x_,ha0];rfl
    ·rename_i x_;refine ⟨j+1,?_,rfl,oM,oM⟩;rw [iu,hc];simp only [WR,CC,iQ,Ff,x_,and_false,decide_false];rfl
   ·rename_i ha0;refine ⟨j+1,?_,rfl,oM,oM⟩;rw [iu,hc];simp only [WR,CC,iQ,Ff,ha0,false_and,decide_false];rfl
  ·rename_i h;rw [gx oM];exact ⟨rfl,rfl⟩
theorem aah (n:Int) (hn:0<n/\n<=16):zA 171 [.k n] [] (pQ (.k ((n - 1) / 3)) []):=by
 refine dB func171 ntmps171 ?_
 ((with_reducible apply eU);(focus omega);(conv=>whnf))
 refine ⟨dC,?_⟩;intro z hz;have:z=(n - 1) / 3:=by rw [hz,zdP oM,yQ oM]
 clear hz;subst this
 conv=>whnf
 exact ⟨rfl,rfl⟩
def settled (d:Dag) (r:Int):Bool:=decide ((aA d r:Int)>(d.nodes - 1) / 3)
theorem L6 (d:Dag) (hd:d.fit) (hn:0<d.nodes/\d.nodes<=16) (hp:Uy d) (r:Int) (hr:2<=r/\r<=1099511627776):zA 225 [d.av,.k r] [] (pQ (.d (.bool (settled d r))) []):=by
 refine dB func225 ntmps225 ?_;refine cP Yp ?_;refine aQ (Uz d hd hn hp r hr) ?_;refine aQ (aah d.nodes hn) ?_;exact ⟨rfl,rfl⟩
structure Dag.Yr (d:Dag):Prop where
 fit:d.fit
 nodes:0<d.nodes/\d.nodes<=16
 ao:Uy d
 low:0<=d.low/\d.low<=1099511627776
 top:jR d.aa<=1099511627776
 len:d.aa.length<=65536
 dD:(d.aa.map (·.ae)).Nodup
 pos:∀ c∈d.aa,1<=c.ae
def fk (l:List Cert) (x:Int):Option Nat:=l.findIdx? λc=>decide (c.ae=x)
def lI (l:List Cert) (x:Int):Int:=(fk l x).elim (-1) λi=>(i:Int)
theorem Ys (c:Cert) (x:Int):zA 243 [c.av,.ptr 0 0] [.cells [.k x]] (pQ (.d (.bool (c.ae == x))) [.cells [.k x]]):=by
 refine dB func243 ntmps243 ?_;exact ⟨rfl,rfl⟩
theorem Qe (l:List Cert) (hl:aU l) (x:Int):zA 157 [.d (.sl 6 (ah l)),.fn 243 [.ptr 0 0]] [.cells [.k x]] (pQ (.k (lI l x)) [.cells [.k x]]):=by
 have eM:=ak l;unfold aU at hl;refine dB func157 ntmps157 ?_;refine aH aF bf aG (σ:=Nat) (λj=>([(1,.fn 243 [.ptr 0 0]),(0,.d (.sl 6 (ah l))),(7,.k l.length),(8,.k j)],[.cells [.k x]])) (λj=>j<=l.length/\∀ i c,i<j->l[i]? = some c->c.ae≠x) (λj=>l.length - j) [1,0,7,8] ?_ ?_
 ·conv=>whnf
  exact ⟨0,by rw [eM];rfl,rfl,br _,oM⟩
 ·rintro j ⟨h1,h2⟩;refine rdv ?_;repeat' (apply tw<;>intro _)
  ·rename_i h;obtain ⟨c,hc⟩:=eH l j;refine ⟨oM,c.cs,aB hc,?_⟩
   conv=>whnf
   refine aQ (Ys c x) ?_;repeat' (apply tw<;>intro _)
   ·rename_i h3;have:fk l x=some j:=by
     unfold fk;rw [KU];refine ⟨oM,?_,?_⟩
     ·rw [ff oM] at hc;rw [Hl hc];simpa using h3
     ·intro i hi;have:=h2 i l[i] hi (ff oM);simpa using this
    exact ⟨by rw [lI,this];rfl,rfl⟩
   ·rename_i h3;refine ⟨j+1,rfl,rfl,⟨oM,λi c' hi kc=>?_⟩,oM⟩;rcases qZ i j with h4|h4
    ·exact h2 i c' h4 kc
    ·obtain rfl:i=j:=oM;rw [hc] at kc;cases kc;exact h3
  ·rename_i h;have:fk l x=none:=by
    unfold fk;rw [Wx];intro c hc;obtain ⟨i,hi⟩:=Ds hc;have bB:i<l.length:=by
     rcases qZ i l.length with h2|h2
     ·exact h2
     ·rw [Ns h2] at hi;cases hi
    have:=h2 i c oM hi;simpa using this
   exact ⟨by rw [lI,this];rfl,rfl⟩
theorem acE (d:Dag) (hd:aU d.aa) (x:Int):zA 207 [d.av,.k x] [] (pQ (.k (lI d.aa x)) []):=by
 refine dB func207 ntmps207 ?_;refine (Qe d.aa hd x).mono ?_;rintro _ _ ⟨rfl,rfl⟩
 conv=>whnf
 exact ⟨rfl,rfl⟩
end Go.Proofs.YtolkmjfkkkiboaaGreat
namespace Go.Proofs.YtolkmjfkkkiboaaGreat
open Go.Ab Go.RowKit Tryz
end Go.Proofs.YtolkmjfkkkiboaaGreat
namespace Go.Proofs.YtolkmjfkkkiboaaGreat
open Go.Ab Go.RowKit Go.MapKept Tryz
attribute [local irreducible] ay AW cw eA eo bL
theorem ya (x:Int):zA 249 [.k x] [] (pQ (.d (.bool false)) []):=by
 refine dB func249 ntmps249 ?_;refine ⟨?_,rfl⟩;show AV.d (.bool (x != x))=_;rw [bne_self_eq_false]
theorem Qf (x:Int):zA 237 [.k x] [] (pQ (.d (.bool false)) []):=by
 refine dB func237 ntmps237 ?_;refine ⟨?_,rfl⟩;show AV.d (.bool (x != x))=_;rw [bne_self_eq_false]
theorem UA (x y:Int):zA 214 [.k x,.k y] [] (pQ (.d (.bool (decide (x<y)))) []):=by
 refine dB func214 ntmps214 ?_;refine (ya x).mono ?_;rintro _ _ ⟨rfl,rfl⟩
 conv=>whnf
 exact ⟨rfl,rfl⟩
def bq (l:List Int):Prop:=l.Pairwise (· < ·)
end Go.Proofs.YtolkmjfkkkiboaaGreat
/-
  DERIVED: THE SHELF's CONTRACTS AT THIS DUMP, IN PLAIN WORDS (tools/lay-plain.mjs out of 'TryzShelf.lean', which tools/lay-shelf.mjs wrote): THE SAME DECLARATIONS UNDER THE SAME NAMES: 'import', 'namespace', 'open', 'def', 'theorem' AND NOTHING ELSE: no command of the shelf's: FOR A HAND-IN. Each laying: the table of numbers ('.._ren') and one theorem, a field a fact of the dump's own or the kernel's comparison; each contract: ONE APPLICATION.
-/
namespace Go.Proofs
open Go.Shelf
def Tryz.we:Go.Shelf.Ren:=⟨fun|5=>136|8=>176|7=>175|19=>217|20=>218|10=>208|11=>209|12=>210|13=>211|14=>212|15=>213|16=>214|17=>215|18=>216|30=>244|31=>245|32=>246|33=>247|34=>248|35=>249|40=>259|n=>n,fun|23=>22|25=>3|3=>3|32=>113|22=>22|0=>0|44=>209|46=>211|4=>4|36=>204|35=>203|41=>165|5=>5|9=>9|53=>229|57=>233|63=>239|64=>240|n=>n,fun|n=>n⟩
theorem Tryz.tX:Go.Proofs.SlLaysM.n5 prog Tryz.we:={
 mixed:=kR
 f5:=⟨Tryz.f136.name,dC,func136.trans (lM some kR)⟩
 f7:=⟨Tryz.f175.name,dC,func175.trans (lM some kR)⟩
 f8:=func176.trans (lM some kR)
 f10:=⟨Tryz.f208.name,dC,func208.trans (lM some kR)⟩
 f11:=⟨Tryz.f209.name,dC,func209.trans (lM some kR)⟩
 f12:=⟨Tryz.f210.name,dC,func210.trans (lM some kR)⟩
 f13:=⟨Tryz.f211.name,dC,func211.trans (lM some kR)⟩
 f14:=⟨Tryz.f212.name,dC,func212.trans (lM some kR)⟩
 f15:=⟨Tryz.f213.name,dC,func213.trans (lM some kR)⟩
 f16:=⟨Tryz.f214.name,dC,func214.trans (lM some kR)⟩
 f17:=⟨Tryz.f215.name,dC,func215.trans (lM some kR)⟩
 f18:=⟨Tryz.f216.name,dC,func216.trans (lM some kR)⟩
 f19:=func217.trans (lM some kR)
 f20:=func218.trans (lM some kR)
 f30:=⟨Tryz.f244.name,dC,func244.trans (lM some kR)⟩
 f31:=func245.trans (lM some kR)
 f32:=func246.trans (lM some kR)
 f33:=⟨Tryz.f247.name,dC,func247.trans (lM some kR)⟩
 f34:=⟨Tryz.f248.name,dC,func248.trans (lM some kR)⟩
 f35:=⟨Tryz.f249.name,dC,func249.trans (lM some kR)⟩
 f40:=⟨Tryz.f259.name,dC,func259.trans (lM some kR)⟩
 t0:=Tryz.underlying0
 a0:=Tryz.isAgg0
 z0:=Tryz.sizeOf0
 v0:=Tryz.zeroValue0
 t3:=Tryz.underlying3
 a3:=Tryz.isAgg3
 z3:=Tryz.sizeOf3
 v3:=Tryz.zeroValue3
 t4:=Tryz.underlying4
 a4:=Tryz.isAgg4
 z4:=Tryz.sizeOf4
 v4:=Tryz.zeroValue4
 t5:=Tryz.underlying5
 a5:=Tryz.isAgg5
 z5:=Tryz.sizeOf5
 v5:=Tryz.zeroValue5
 t9:=Tryz.underlying9
 a9:=Tryz.isAgg9
 z9:=Tryz.sizeOf9
 v9:=Tryz.zeroValue9
 t22:=Tryz.underlying22
 a22:=Tryz.isAgg22
 z22:=Tryz.sizeOf22
 v22:=Tryz.zeroValue22
 t23:=Tryz.underlying22
 a23:=Tryz.isAgg22
 z23:=Tryz.sizeOf22
 v23:=Tryz.zeroValue22
 t25:=Tryz.underlying3
 a25:=Tryz.isAgg3
 z25:=Tryz.sizeOf3
 v25:=Tryz.zeroValue3
 t32:=Tryz.underlying113
 a32:=Tryz.isAgg113
 z32:=Tryz.sizeOf113
 v32:=Tryz.zeroValue113
 t35:=Tryz.underlying203
 a35:=Tryz.isAgg203
 z35:=Tryz.sizeOf203
 v35:=Tryz.zeroValue203
 t36:=Tryz.underlying204
 a36:=Tryz.isAgg204
 z36:=Tryz.sizeOf204
 v36:=Tryz.zeroValue204
 t41:=Tryz.underlying165
 a41:=Tryz.isAgg165
 z41:=Tryz.sizeOf165
 v41:=Tryz.zeroValue165
 t44:=Tryz.underlying209
 a44:=Tryz.isAgg209
 z44:=Tryz.sizeOf209
 v44:=Tryz.zeroValue209
 t46:=Tryz.underlying211
 a46:=Tryz.isAgg211
 z46:=Tryz.sizeOf211
 v46:=Tryz.zeroValue211
 t53:=Tryz.underlying229
 a53:=Tryz.isAgg229
 z53:=Tryz.sizeOf229
 v53:=Tryz.zeroValue229
 t57:=Tryz.underlying233
 a57:=Tryz.isAgg233
 z57:=Tryz.sizeOf233
 v57:=Tryz.zeroValue233
 t63:=Tryz.underlying239
 a63:=Tryz.isAgg239
 z63:=Tryz.sizeOf239
 v63:=Tryz.zeroValue239
 t64:=Tryz.underlying240
 a64:=Tryz.isAgg240
 z64:=Tryz.sizeOf240
 v64:=Tryz.zeroValue240 }
open Go.Sort Go.RowKit in
theorem Tryz.slices_Sort_int (fQ off cap:Nat) (zs:List Int) (w:World) (hH:Holds (Value.int .i64) w fQ off zs.toArray) (jH:fQ<w.heap.size) (da:zs.length<4611686018427387904) :
  Calls prog 136 #[.slice (some ⟨fQ,off,none⟩) zs.length cap] w λe w' =>
   e = .returned (.tuple #[])/\∃ n os,w'=grow (putRow (Value.int .i64) (Sort.ahead w n) fQ off (zs.mergeSort λx y=>decide (x<=y)).toArray) os:=AnyM.slices_Sort_int Tryz.tX fQ off cap zs w hH jH da
open Go.RowKit Go.Sort in
theorem Tryz.slices_Sort_int_none (p:Option Addr) (cap:Nat) (w:World) :
  Calls prog 136 #[.slice p 0 cap] w λe w'=>e = .returned (.tuple #[])/\w'=w:=AnyM.slices_Sort_int_none Tryz.tX p cap w
end Go.Proofs
namespace Go.Proofs.YtolkmjfkkkiboaaGreat
open Go Go.Ab Go.RowKit Go.Sort Tryz
def dE (l:List Int):List Int:=l.mergeSort λx y=>decide (x<=y)
theorem BF {rd:Addr->Value->Prop}:∀ {l:List Int} {us:List Value},cR rd (nums l).flatten us↔us=l.map (Value.int .i64)
 | [],us=>by simp [nums,cR,Cs]
 | n :: l,us=>by
   have ih := @BF rd l;simp only [nums,Dv,va,Wy,cR,Cs] at ih ⊢;constructor
   ·rintro ⟨u,dt,rfl,h1,h2,h3⟩;simp only [VD] at h2;rw [h2,(ih).1 h3]
   ·rintro rfl;exact ⟨_,_,rfl,rfl,by simp [VD],ih.2 rfl⟩
theorem I9 (l:List Int) (hl:l.length<4611686018427387904):zA 136 [.arr 0] [.row 3 1 (nums l) false] (pQ (.tup []) [.row 3 1 (nums (dE l)) false]):=by
 intro c vs hc He hs hv;have eM:=nums_length l;simp only [cD,VR] at hv;obtain ⟨u,dt,kQ,⟨ab,bC,rn⟩,rfl⟩:=hv;simp only [KF,ke] at bC;subst bC;have j7:vs = #[u]:=by rw [<-uX (xs:=vs),kQ]
 rw [j7];have fy:=hs.fQ 0 _ rfl
 cases hE:c.E0 0 with
 | none =>
   rw [hE] at fy;have nw:l=[]:=by
    have:=fy.2.2;simpa [nums] using this
   subst nw;simp only [bj,hE] at rn;subst rn;refine (Tryz.slices_Sort_int_none none 0 c.w0).mono ?_;rintro e w' ⟨rfl,rfl⟩;exact ⟨_,.tup [],_,c.E0,rfl,⟨rfl,rfl⟩,(by rw [show dE []=[] by simp [dE]];exact hs),⟨_,rfl,by simp [cD]⟩⟩
 | some b =>
   rw [hE] at fy;simp only [bj,hE] at rn;obtain ⟨cap,cur,rfl,hh,da⟩:=rn;obtain ⟨_,_,amo,fx,DX,afE,gT,_,CY⟩:=fy;rw [hh] at DX
   cases DX
   rw [BF,eM,xh] at CY;have gE:∀ j,j<l.length->cur[j]? = some (.j l[j]!):=by
    intro j hj;have:=lM (λx=>x[j]?) CY;simp only [nX,CD,hj,Hm] at this;rw [<-ZF,this,ff hj,getElem!_pos l j hj];rfl
   have jH:b<c.w0.heap.size:=(ud.1 hh).1;have hH:Holds (Value.int .i64) c.w0 b 0 l.toArray:=by
    intro j hj;have j6:j<l.length:=by simpa using hj
    refine ⟨?_,?_⟩
    ·simp only [World.cell?,hh,gP];have:=gE j j6;simpa using this
    ·simp [World.frozen?,hh]
   rw [eM];refine (Tryz.slices_Sort_int b 0 cap l c.w0 hH jH hl).mono ?_;rintro e w' ⟨rfl,n,os,rfl⟩;have Bv:=List.mergeSort_perm l (λx y=>decide (x<=y));have n_:(dE l).length=l.length:=Bv.length_eq;have k1:aO c.w0 (Sort.ahead c.w0 n):=⟨rfl,rfl,rfl,eQ _,λ_ _=>rfl⟩;have dR:=hs.keeps hc k1;have eX:(aj c.M0 c.E0 [AB.row 3 1 (nums l) false] c.w0).le (aj c.M0 c.E0 [AB.row 3 1 (nums l) false] (Sort.ahead c.w0 n)):=iI hs.bl k1;obtain ⟨cur',UB⟩:∃ cur',putCells (Value.int .i64) 0 (dE l).toArray cur=cur':=⟨_,rfl⟩;have zC:putRow (Value.int .i64) (Sort.ahead c.w0 n) b 0 (dE l).toArray=(Sort.ahead c.w0 n).setRow b cur':=by
    have e1:putRow (Value.int .i64) (Sort.ahead c.w0 n) b 0 (dE l).toArray=mapBlock (Sort.ahead c.w0 n) b (λ_=>cur'):=by
     refine mapBlock_congr _ _ _ _ λc1 e fr h=>?_;have h2:c.w0.heap[b]? = some (.cells c1 e fr):=h;rw [hh] at h2
     cases h2
     exact UB
    rw [e1];unfold mapBlock World.setRow;congr 2
   have nx:cur'.size=cur.size:=by rw [<-UB];simp [putCells]
   obtain ⟨e_,jG⟩:=dR.rewrite (i:=0) (zs:=nums (dE l)) rfl hE (cur':=cur') hh nx (by rw [nums_length,n_,eM]) (by simp [nums]) (by
    rw [BF,nums_length,xh,n_,<-UB];refine WS λj=>?_;simp only [putCells,nX,CD,Array.toList_mapIdx,List.getElem?_mapIdx,br,true_and,gP,Nat.sub_zero,CM,n_];by_cases hj:j<l.length
    ·have OI:=gE j hj;rw [<-ZF] at OI;rw [bp hj,OI];have lA:j<(dE l).length:=by rw [n_];exact hj
     simp [hj,lA]
    ·rw [aR hj,Ns (by rw [n_];omega)];rfl)
   have k2:aO ((Sort.ahead c.w0 n).setRow b cur') (grow ((Sort.ahead c.w0 n).setRow b cur') os):=⟨rfl,rfl,rfl,by simp [grow],λb' kg=>by simp only [grow];rw [zdO kg]⟩;rw [show (l.mergeSort λx y=>decide (x<=y))=dE l from rfl,zC];exact ⟨_,.tup [],_,c.E0,rfl,⟨rfl,rfl⟩,e_.keeps hc k2,⟨_,rfl,by simp [cD]⟩⟩
end Go.Proofs.YtolkmjfkkkiboaaGreat
namespace Go.Proofs.YtolkmjfkkkiboaaGreat
open Go.Ab Go.RowKit Go.MapKept Tryz
attribute [local irreducible] ay AW cw eA eo bL
theorem o5 (l:List Int) (hl:l.length<=1099511627776):zA 143 [.d (.sl 1 (nums l))] [] (pQ (.arr 0) [.row 3 1 (nums l) false]):=by
 have eM:=nums_length l;refine CI func143 ntmps143 ?_;intro b hb;refine cm ?_;repeat' (apply tw<;>intro _)
 ·rename_i h;have:l=[]:=by simpa [nums] using hb h
  subst this;exact ⟨rfl,rfl⟩
 ·rename_i h;refine ⟨by rw [eM];show (0+l.length) * 8<=_;omega,?_⟩
  conv=>whnf
  exact ⟨rfl,rfl⟩
theorem yb {l:List Cert} {x:Int} {i:Nat} (h:fk l x=some i):∃ c,l[i]? = some c/\c.ae=x:=by
 unfold fk at h;rw [KU] at h;obtain ⟨hi,h1,_⟩:=h;exact ⟨l[i],ff hi,by simpa using h1⟩
theorem Gh {l:List Int} (h:l.Nodup):bq (dE l):=by
 have h1:=List.pairwise_mergeSort (le:=λx y:Int=>decide (x<=y)) (λa b c h1 h2=>by simp at *;omega) (λa b=>by simp;omega) l;have h2:(dE l).Nodup:=(List.mergeSort_perm l _).nodup_iff.2 h;exact (h1.and h2).imp λ⟨h3,h4⟩=>by simp at h3;omega
theorem ik {l:List Int} (h:bq l):l.Nodup:=h.imp λh=>oM
theorem sO {α:Type} [DecidableEq α]:∀ {l m:List α},l.Nodup->(∀ x∈l,x∈m)->l.length<=m.length
 | [],m,_,_=>br _
 | x :: r,m,hn,h=>by
   have PV:=Pw.1 hn;have hx:=h x (by simp);have:=sO (l:=r) (m:=m.erase x) PV.2 (λy hy=>(List.mem_erase_of_ne (λe=>PV.1 (by rw [<-e];exact hy))).2 (h y (by simp [hy])));rw [zfA hx] at this;have hp:=zfG hx;simp only [CE];omega
theorem jS {a b:Int} (ha:0<=a) {z:Int} (hz:z=a.tmod b):z=a % b:=by rw [hz,zd2 ha]
def jA (n:Int):Bool:=decide (1<=n/\n<=16/\n % 3=1)
theorem Ee (n:Int):zA 72 [.k n] [] (pQ (.d (.bool (jA n))) []):=by
 unfold jA;refine y0 func72 ntmps72 ?_;repeat' (apply tw<;>intro _)
 ·rename_i h1 h2;refine ⟨dC,?_⟩;intro z hz;have oA:=jS oM hz;clear hz;subst oA
  conv=>whnf
  exact ⟨bu (by simp;omega),rfl⟩
 ·rename_i h1 h2;exact ⟨by rw [aP oM];rfl,rfl⟩
 ·rename_i h1;exact ⟨by rw [aP oM];rfl,rfl⟩
theorem fG (n:Int):zA 83 [.k n] [] (pQ (.d (.bool (decide (1<=n/\n<=65536)))) []):=by
 refine y0 func83 ntmps83 ?_;repeat' (apply tw<;>intro _)
 ·rename_i h1;exact ⟨bu (by simp;omega),rfl⟩
 ·rename_i h1;exact ⟨by rw [aP oM];rfl,rfl⟩
theorem UC (n:Int) (hn:0<n/\n<=16):zA 126 [.k n] [] (pQ (.k (2 * ((n - 1) / 3)+1)) []):=by
 refine dB func126 ntmps126 ?_;refine qR (aah n hn) ?_;exact ⟨rfl,rfl⟩
theorem rU {l:List Int} {x:Int}:bq (l++[x])↔bq l/\∀ y∈l,y<x:=by
 unfold bq;rw [Hi];simp
theorem y4 {l:List Int} {j:Nat} {y:Int} (h:bq (l.take (j+1))) (hy:l[j]? = some y):∀ z∈l.take (j+1),z<=y:=by
 rw [iu,hy] at h ⊢;intro z hz;have:=(rU (l:=l.take j) (x:=y)).1 h;rcases gA.1 hz with hz|hz
 ·have:=this.2 z hz;omega
 ·simp at hz;omega
def dh (l:List Int) (a b:Int):Prop:=bq l/\∀ x∈l,a<=x/\x<=b
theorem L7 {l:List Int} {a b:Int} (h:dh l a b) (j:Nat):dh (l.take j) a b:=⟨h.1.sublist (zfH ..),λx hx=>h.2 x (Fc hx)⟩
theorem L9 {l:List Int} {a b x:Int} {j:Nat} (hx:l[j]? = some x):dh (l.take (j+1)) a b↔dh (l.take j) a b/\a<=x/\x<=b/\∀ y∈l.take j,y<x:=by
 unfold dh;rw [iu,hx,WR,rU];constructor
 ·rintro ⟨⟨h1,h2⟩,h3⟩;exact ⟨⟨h1,λy hy=>h3 y (by simp [hy])⟩,(h3 x (by simp)).1,(h3 x (by simp)).2,h2⟩
 ·rintro ⟨⟨h1,h2⟩,h3,h4,h5⟩;refine ⟨⟨h1,h5⟩,λy hy=>?_⟩;rcases gA.1 hy with hy|hy
  ·exact h2 y hy
  ·rw [Hj.1 hy];exact ⟨h3,h4⟩
theorem Qg {l:List Int} {j:Nat} (h0:0<j) (hj:j<l.length):∃ y,l[j - 1]? = some y/\y∈l.take j/\(bq (l.take j)->∀ z∈l.take j,z<=y):=by
 obtain ⟨m,rfl⟩:∃ m,j=m+1:=⟨j - 1,oM⟩;obtain ⟨y,hy⟩:=eH l m;refine ⟨y,hy,?_,λh=>y4 h hy⟩;rw [iu,hy];simp
open Classical in
theorem uJ (l:List Int) (hl:aU l) (a b:Int):zA 125 [.d (.sl 1 (nums l)),.k a,.k b] [] (pQ (.d (.bool (decide (dh l a b)))) []):=by
 have eM:=nums_length l;unfold aU at hl;refine dB func125 ntmps125 ?_;refine aH aF bf aG (σ:=Nat) (λj=>([(0,.d (.sl 1 (nums l))),(1,.k a),(2,.k b),(9,.d (.sl 1 (nums l))),(10,.k l.length),(11,.k j)],[])) (λj=>j<=l.length/\dh (l.take j) a b) (λj=>l.length - j) [0,1,2,9,10,11] ?_ ?_
 ·conv=>whnf
  exact ⟨0,by rw [eM];rfl,rfl,br _,by simp [dh,bq]⟩
 ·rintro j ⟨hj,hr⟩;refine cm ?_;repeat' (apply tw<;>intro _)
  ·rename_i h;obtain ⟨x,hx⟩:=eH l j;have hs:=L9 (a:=a) (b:=b) hx;have acF:¬(a<=x/\x<=b/\∀ y∈l.take j,y<x)->¬dh l a b:=λh1 h2=>h1 ((hs.1 (L7 h2 (j+1))).2);refine ⟨oM,[.j x],bD hx,?_⟩;refine cm ?_;repeat' (apply tw<;>intro _)
   ·rename_i h2;exact ⟨by rw [aP (acF λh3=>oM)];rfl,rfl⟩
   ·rename_i h2 h3;exact ⟨by rw [aP (acF λh4=>oM)];rfl,rfl⟩
   ·rename_i h2 h3 h4;obtain ⟨y,hy,hym,hle⟩:=Qg (l:=l) (j:=j) oM oM;refine ⟨oM,[.j y],by rw [show ((j:Int) - 1).toNat=j - 1 by omega];exact bD hy,?_⟩;refine cm ?_;repeat' (apply tw<;>intro _)
    ·rename_i h5;exact ⟨by rw [aP (acF λh6=>by have:=h6.2.2 y hym;omega)];rfl,rfl⟩
    ·rename_i h5;exact ⟨j+1,rfl,rfl,⟨oM,hs.2 ⟨hr,oM,oM,λz hz=>by have:=hle hr.1 z hz;omega⟩⟩,oM⟩
   ·rename_i h2 h3 h4;have CF:j=0:=oM;subst CF;exact ⟨1,rfl,rfl,⟨oM,hs.2 ⟨hr,oM,oM,by simp⟩⟩,oM⟩
  ·rename_i h;rw [gx oM] at hr;exact ⟨by rw [cz hr];rfl,rfl⟩
open Classical in
theorem gY (l:List Int) (hl:aU l):zA 115 [.d (.sl 1 (nums l))] [] (pQ (.d (.bool (decide (dh l 1 65536)))) []):=by
 refine dB func115 ntmps115 ?_;refine (uJ l hl 1 65536).mono ?_;rintro _ _ ⟨rfl,rfl⟩
 conv=>whnf
 exact ⟨rfl,rfl⟩
theorem iV (n:Int):zA 30 [.k n] [] (pQ (.d (.bool (jA n))) []):=by
 unfold jA;refine gG func30 ntmps30 ?_;repeat' (apply tw<;>intro _)
 ·rename_i h1 h2;refine ⟨dC,?_⟩;intro z hz;have oA:=jS oM hz;clear hz;subst oA
  conv=>whnf
  exact ⟨bu (by simp;omega),rfl⟩
 ·rename_i h1 h2;exact ⟨by rw [aP oM];rfl,rfl⟩
 ·rename_i h1;exact ⟨by rw [aP oM];rfl,rfl⟩
theorem kG (n:Int) (hn:jA n=true):zA 40 [.k n] [] (pQ (.k (2 * ((n - 1) / 3)+1)) []):=by
 have PV:=gQ hn;refine dB func40 ntmps40 ?_;refine ⟨dC,?_⟩;intro z hz;have:z=(n - 1) / 3:=by rw [hz,zdP oM,yQ oM];omega
 clear hz;subst this;refine rdv ?_;exact ⟨rfl,rfl⟩
theorem gZ (n:Int):zA 36 [.k n] [] (pQ (.d (.bool (decide (1<=n/\n<=65536)))) []):=by
 refine gG func36 ntmps36 ?_;repeat' (apply tw<;>intro _)
 ·rename_i h1;exact ⟨bu (by simp;omega),rfl⟩
 ·rename_i h1;exact ⟨by rw [aP oM];rfl,rfl⟩
theorem mX (r a s b:Int):zA 68 [.k r,.k a,.k s,.k b] [] (pQ (.d (.bool (decide (r<s∨r=s/\a<b)))) []):=by
 refine gG func68 ntmps68 ?_;repeat' (apply tw<;>intro _)
 ·rename_i h1;exact ⟨by rw [cz (.inl h1:r<s∨r=s/\a<b)];rfl,rfl⟩
 ·rename_i h1 h2;exact ⟨bu (by simp;omega),rfl⟩
 ·rename_i h1 h2;exact ⟨by rw [aP oM];rfl,rfl⟩
theorem yc {l:List Int} {j:Nat} {y x:Int} (hy:l[j]? = some y) (hx:l[j+1]? = some x):bq (l.take (j+2))↔bq (l.take (j+1))/\y<x:=by
 rw [show l.take (j+2)=l.take (j+1)++[x] by rw [iu,hx];rfl,rU];constructor
 ·rintro ⟨h1,h2⟩;exact ⟨h1,h2 y (by rw [iu,hy];simp)⟩
 ·rintro ⟨h1,h2⟩;exact ⟨h1,λz hz=>by have:=y4 h1 hy z hz;omega⟩
open Classical in
theorem g_ (l:List Int) (hl:aU l):zA 38 [.d (.sl 1 (nums l))] [] (pQ (.d (.bool (decide (bq l)))) []):=by
 have eM:=nums_length l;unfold aU at hl;refine dB func38 ntmps38 ?_;refine aH aF bf aG (σ:=Nat) (λj=>([(0,.d (.sl 1 (nums l))),(3,.k ((j:Int)+1))],[])) (λj=>j<=l.length/\bq (l.take (j+1))) (λj=>l.length - j) [0,3] ?_ ?_
 ·conv=>whnf
  refine ⟨0,rfl,rfl,br _,?_⟩
  cases l with
  | nil=>simp [bq]
  | cons a t=>simp [bq]
 ·rintro j ⟨hj,hr⟩;refine rdv ?_;repeat' (apply tw<;>intro _)
  ·rename_i h;obtain ⟨y,hy⟩:=eH l j;obtain ⟨x,hx⟩:∃ x,l[j+1]? = some x:=⟨_,ff oM⟩;have hs:=yc hy hx;refine cP ace ?_
   ((with_reducible apply aC);(focus (intro K hK;(conv=>whnf);exact ⟨oM,[.j x],(by rw [show ((j:Int)+1).toNat=j+1 by omega];exact bD hx),hK⟩));(conv=>whnf))
   (refine eF ?_)
   ((with_reducible apply aC);(focus (intro K hK;(conv=>whnf);exact ⟨oM,[.j y],(by rw [show ((j:Int)+1 - 1).toNat=j by omega];exact bD hy),hK⟩));(conv=>whnf))
   refine eF ?_;repeat' (apply tw<;>intro _)
   ·rename_i h2;exact ⟨by rw [aP (λh3=>by have:=(hs.1 (h3.sublist (zfH ..))).2;omega)];rfl,rfl⟩
   ·rename_i h2;exact ⟨j+1,rfl,rfl,⟨oM,hs.2 ⟨hr,oM⟩⟩,oM⟩
  ·rename_i h;rw [gx oM] at hr;exact ⟨by rw [cz hr];rfl,rfl⟩
open Classical in
theorem rV (l:List Int) (hl:aU l) (a b:Int):zA 39 [.d (.sl 1 (nums l)),.k a,.k b] [] (pQ (.d (.bool (decide (∀ x∈l,a<=x/\x<=b)))) []):=by
 have eM:=nums_length l;unfold aU at hl;refine dB func39 ntmps39 ?_;refine aH aF bf aG (σ:=Nat) (λj=>([(0,.d (.sl 1 (nums l))),(1,.k a),(2,.k b),(7,.k j)],[])) (λj=>j<=l.length/\∀ x∈l.take j,a<=x/\x<=b) (λj=>l.length - j) [0,1,2,7] ?_ ?_
 ·conv=>whnf
  exact ⟨0,rfl,rfl,br _,by simp⟩
 ·rintro j ⟨hj,hr⟩;refine rdv ?_;repeat' (apply tw<;>intro _)
  ·rename_i h;obtain ⟨x,hx⟩:=eH l j;refine ⟨oM,[.j x],bD hx,?_⟩;refine rdv ?_;repeat' (apply tw<;>intro _)
   ·rename_i h2;exact ⟨by rw [aP (λh3=>by have:=h3 x (fU hx);omega)];rfl,rfl⟩
   ·rename_i h2;refine ⟨oM,[.j x],bD hx,?_⟩;refine rdv ?_;repeat' (apply tw<;>intro _)
    ·rename_i h3;exact ⟨by rw [aP (λh4=>by have:=h4 x (fU hx);omega)];rfl,rfl⟩
    ·rename_i h3;refine ⟨j+1,rfl,rfl,⟨oM,λz hz=>?_⟩,oM⟩;rw [iu,hx] at hz;rcases gA.1 hz with hz|hz
     ·exact hr z hz
     ·simp at hz;omega
  ·rename_i h;rw [gx oM] at hr;exact ⟨by rw [cz hr];rfl,rfl⟩
open Classical in
theorem hU (l:List Int) (hl:aU l):zA 77 [.d (.sl 1 (nums l))] [] (pQ (.d (.bool (decide (∀ x∈l,1<=x/\x<=65536)))) []):=by
 refine dB func77 ntmps77 ?_;refine (rV l hl 1 65536).mono ?_;rintro _ _ ⟨rfl,rfl⟩
 conv=>whnf
 exact ⟨rfl,rfl⟩
open Classical in
theorem nM (l:List Int) (hl:aU l) (m:Int):zA 71 [.d (.sl 1 (nums l)),.k m] [] (pQ (.d (.bool (decide ((l.length:Int)<=m/\dh l 1 65536)))) []):=by
 have eM:=nums_length l;refine dB func71 ntmps71 ?_;rw [eM];refine eF ?_;repeat' (apply tw<;>intro _)
 ·rename_i h1;refine aQ (hU l hl) ?_;repeat' (apply tw<;>intro _)
  ·rename_i h2;refine (g_ l hl).mono ?_;rintro _ _ ⟨rfl,rfl⟩
   conv=>whnf
   exact ⟨bu (by simp only [jh];exact ⟨λh=>⟨h1,h,h2⟩,λh=>h.2.1⟩),rfl⟩
  ·rename_i h2;exact ⟨by rw [aP (λh=>h2 h.2.2)];rfl,rfl⟩
 ·rename_i h1;exact ⟨by rw [aP (λh=>h1 h.1)];rfl,rfl⟩
end Go.Proofs.YtolkmjfkkkiboaaGreat
