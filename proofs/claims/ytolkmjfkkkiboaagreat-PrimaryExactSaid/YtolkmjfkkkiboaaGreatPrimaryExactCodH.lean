/- PrimaryExact: contracts. -/
import Derived.Test.YtolkmjfkkkiboaaGreatPrimaryExactCodF
set_option linter.all false
set_option maxHeartbeats 4000000
set_option maxRecDepth 100000
namespace Go.Proofs.YtolkmjfkkkiboaaGreat
open Go.Ab Go.RowKit Go.MapKept Tryz
attribute [local irreducible] ay AW cw eA eo bL
theorem JE {d:Dag} {c y:Cert} (h:y∈d.aa):y∈(gH d c).aa:=by
 unfold gH;split
 ·exact o8.2 (.inr h)
 ·exact h
theorem Va {d:Dag} {c y:Cert} (h:y∈(gH d c).aa):y=c∨y∈d.aa:=by
 unfold gH at h;split at h
 ·exact o8.1 h
 ·exact .inr h
theorem lL {n:Int} (h:0<=n/\n<=1099511627776):i64 n:=⟨oM,oM⟩
theorem sW {l:List Int} {m:Int} (h:dh l 1 m) (hm:0<=m/\m<=65536):l.length<=65536:=Em ⟨h.1,λx hx=>by have:=h.2 x hx;omega⟩
theorem Er {n:Int} (hn:jA n=true) {c:Cert} (h:bM n c):c.ok:=by
 have kx:=gQ hn;have h1:=h.head.af;have h2:=h.head.round;have h3:=h.head.aE;have h4:=h.head.ao;have h5:=h.ae;have h6:=sW h.sigs oM;refine ⟨lL oM,lL oM,⟨by unfold aU;omega,λx hx=>lL (by have:=h3.2.2 x hx;omega)⟩,⟨by unfold aU;omega,λx hx=>lL (by have:=h4.2.2 x hx;omega)⟩,lL oM,⟨by unfold aU;omega,λx hx=>lL (by have:=h.sigs.2 x hx;omega)⟩⟩
theorem dG {n:Int} (hn:jA n=true) {c:Cert} (h:bM n c):c.aJ:=by
 have kx:=gQ hn;have h3:=h.head.aE;have h4:=h.head.ao;have h6:=sW h.sigs oM;exact ⟨by unfold aJ;omega,by unfold aJ;omega,by unfold aJ;omega⟩
theorem uN {n:Int} (hn:jA n=true) {c:Cert} (h:bM n c):gr c:=by
 have kx:=gQ hn;have h3:=h.head.aE;have h4:=h.head.ao;have h6:=sW h.sigs oM;exact ⟨by unfold aU;omega,by unfold aU;omega,by unfold aU;omega⟩
theorem Valid.dok {d:Dag} (h:Valid d):d.ok:=by
 have hn:=gQ h.nodes;have hl:=h.len;exact ⟨lL oM,lL h.low,by unfold aU;omega,λc hc=>Er h.nodes (h.aa c hc)⟩
theorem JF (d:Dag) (h:Valid d):zA 75 [d.av] [] (pQ (.d (.bool true)) []):=by
 have:=y7 d h.dok;rw [wx h] at this;exact this
theorem qj (p:Prim) (h:Gu p):zA 41 [p.av] [] (pQ (.d (.bool true)) []):=by
 have hi:=Ee p.nodes;rw [h.fl] at hi;obtain ⟨h1,h2⟩:=h.id;obtain ⟨h3,h4⟩:=h.round;obtain ⟨h5,h6⟩:=h.iq;obtain ⟨h7,h8⟩:=h.said;have hm:=U_ p h.bare;have hv:=h.aA;have hd:=JF p.aq h.aq;have bB:=Gt p.nodes p.late h.late.1 h.late.2.1 h.late.2.2;have hsm:=h.same;have hvm:zA 74 [.d (.sl 3 (ax p.aA))] [] (pQ (.d (.bool true)) []):=by rw [hv];exact JD
 refine gG func41 ntmps41 ?_;refine aQ hi ?_;repeat' (apply tw<;>intro _)
 all_goals first|(exfalso;omega)|skip
 refine aQ hm ?_;refine aQ hvm ?_;refine aQ hd ?_;repeat' (apply tw<;>intro _)
 ·refine bB.mono ?_;rintro _ _ ⟨rfl,rfl⟩
  conv=>whnf
  exact ⟨rfl,rfl⟩
 ·rename_i e;exact absurd hsm e
theorem y9 (a:Cert):zA 165 [a.pD,a.pD] [] (pQ (.d (.bool true)) []):=by
 refine gG func165 ntmps165 ?_;repeat' (apply tw<;>intro _)
 ·exact ⟨by simp,rfl⟩
 all_goals (rename_i e;exact absurd rfl e)
theorem JG (l:List Tx):(dr l).length=l.length:=tg ..
structure aW.ok (m:aW):Prop where
 dX:aU m.dX
 head:m.head.ok
 cert:m.cert.ok
 aT:aU m.aT
structure Act where
 Hf:Int
 d:Int
 h:Cert
 m:aW
 fit:Bool
 l:List Int
def Act.cs (a:Act):List DV:=[.j a.Hf,.j a.d,.j a.h.af,.j a.h.round,.sl 1 (nums a.h.aE),.sl 1 (nums a.h.ao),
 .j a.m.kind,.j a.m.src,.j a.m.dst,.j a.m.ae,.j a.m.ba,.j a.m.bn,.sl 4 (dr a.m.dX),.j a.m.head.af,.j a.m.head.round,.sl 1 (nums a.m.head.aE),.sl 1 (nums a.m.head.ao),.j a.m.cert.af,.j a.m.cert.round,.sl 1 (nums a.m.cert.aE),.sl 1 (nums a.m.cert.ao),.j a.m.cert.ae,.sl 1 (nums a.m.cert.sigs),.sl 1 (nums a.m.aT),
 .bool a.fit,.sl 1 (nums a.l)]
def qB (l:List Act):List (List DV):=l.map Act.cs
theorem wC (l:List Act):(qB l).length=l.length:=tg ..
theorem BY {l:List Act} {k:Nat} {c:Act} (h:l[k]? = some c):(qB l)[k]? = some c.cs:=by
 rw [qB,CD,h];rfl
structure Act.ok (a:Act):Prop where
 h:a.h.ok
 m:a.m.ok
structure iD where
 p:Prim
 il:List Act
def iD.cs (s:iD):List DV:=[.j s.p.id,.j s.p.nodes,.j s.p.round,.j s.p.iq,.j s.p.said,.j s.p.aK.af,.j s.p.aK.round,.sl 1 (nums s.p.aK.aE),.sl 1 (nums s.p.aK.ao),.j s.p.dD,.sl 1 (nums s.p.aL),.sl 3 (ax s.p.aA),.j s.p.aq.nodes,.j s.p.aq.low,.sl 6 (ah s.p.aq.aa),.sl 6 (ah s.p.late),.sl 26 (qB s.il)]
def iD.av (s:iD):AV := .agg (s.cs.map AV.d)
structure iD.ok (s:iD):Prop where
 aK:s.p.aK.ok
 aL:aU s.p.aL
 aA:aU s.p.aA
 aq:s.p.aq.ok
 late:aU s.p.late/\∀ c∈s.p.late,c.ok
 il:aU s.il/\∀ a∈s.il,a.ok
end Go.Proofs.YtolkmjfkkkiboaaGreat
namespace Go.Proofs.YtolkmjfkkkiboaaGreat
open Go.Ab Go.RowKit Tryz
theorem Qz {xs:List (List DV)} (h:∀ x∈xs,∃ n,x=[DV.j n]/\(Lit.j n).wf=true):∃ l:List Int,xs=nums l/\∀ n∈l,i64 n :=
 x9 (f:=λn:Int=>[.j n]) λx hx=>by
  obtain ⟨n,h1,h2⟩:=h x hx;have hb : -9223372036854775808<=n/\n<=9223372036854775807:=by simpa [Lit.wf,IntKind.min,IntKind.max,IntKind.signed,IntKind.bits] using h2
  exact ⟨n,h1,hb.1,oM⟩
theorem nb {n:Int} (h2:(Lit.j n).wf=true):i64 n:=by
 have hb : -9223372036854775808<=n/\n<=9223372036854775807:=by simpa [Lit.wf,IntKind.min,IntKind.max,IntKind.signed,IntKind.bits] using h2
 exact ⟨hb.1,oM⟩
theorem pa {a:List DV} (h:∃ xs,a=[DV.sl 1 xs]/\xs.length * 8<=140737488355328/\∀ x∈xs,∃ n,x=[DV.j n]/\(Lit.j n).wf=true):∃ l:List Int,a=[.sl 1 (nums l)]/\aU l/\∀ n∈l,i64 n:=by
 obtain ⟨xs,rfl,h1,h2⟩:=h;obtain ⟨l,rfl,hl⟩:=Qz h2;rw [nums_length] at h1;exact ⟨l,rfl,by unfold aU;omega,hl⟩
theorem Es (k:Nat) {ds:List DV} (h:tW tt (k+3) 24 ds):∃ c:Cert,ds=[.j c.af,.j c.round,.sl 1 (nums c.aE),.sl 1 (nums c.ao)]/\c.ok:=by
 replace h:x8 (tW tt (k+2)) [3,3,22,22] ds:=h;obtain ⟨a4,b4,rfl,h4,a5,b5,rfl,h5,a6,b6,rfl,h6,a7,b7,rfl,h7,rfl⟩:=h;replace h4:∃ x,a4=[.j x]/\(Lit.j x).wf=true:=h4;replace h5:∃ x,a5=[.j x]/\(Lit.j x).wf=true:=h5;obtain ⟨l6,rfl,f6,e6⟩:=pa h6;obtain ⟨l7,rfl,f7,e7⟩:=pa h7;obtain ⟨x4,rfl,w4⟩:=h4;obtain ⟨x5,rfl,w5⟩:=h5;exact ⟨⟨x4,x5,l6,l7,0,[]⟩,rfl,nb w4,nb w5,⟨f6,e6⟩,⟨f7,e7⟩,⟨by show (-9223372036854775808:Int)<=0;decide,by show (0:Int)<9223372036854775808;decide⟩,⟨br _,λn h=>(by cases h)⟩⟩
theorem Et (k:Nat) {ds:List DV} (h:tW tt (k+4) 47 ds):∃ c:Cert,ds=c.cs/\c.ok:=by
 replace h:x8 (tW tt (k+3)) [24,3,22] ds:=h;obtain ⟨a1,b1,rfl,h1,a2,b2,rfl,h2,a3,b3,rfl,h3,rfl⟩:=h;obtain ⟨c,rfl,hc⟩:=Es k h1;replace h2:∃ x,a2=[.j x]/\(Lit.j x).wf=true:=h2;obtain ⟨l3,rfl,f3,e3⟩:=pa h3;obtain ⟨x2,rfl,w2⟩:=h2;exact ⟨⟨c.af,c.round,c.aE,c.ao,x2,l3⟩,rfl,hc.af,hc.round,hc.aE,hc.ao,nb w2,⟨f3,e3⟩⟩
theorem BZ (k:Nat) {a:List DV} (h:tW tt (k+5) 26 a):∃ l:List Cert,a=[.sl 6 (ah l)]/\aU l/\∀ c∈l,c.ok:=by
 replace h:∃ xs,a=[.sl 6 xs]/\xs.length * 96<=140737488355328/\∀ x∈xs,tW tt (k+4) 47 x:=h;obtain ⟨x3,rfl,w3,e3⟩:=h;obtain ⟨l,rfl,hl⟩:=x9 (f:=Cert.cs) λx hx=>Et k (e3 x hx);simp only [tg] at w3;exact ⟨l,rfl,by unfold aU;omega,hl⟩
theorem Vb {ds:List DV} (h:tW tt 6 28 ds):∃ d:Dag,ds=[.j d.nodes,.j d.low,.sl 6 (ah d.aa)]/\d.ok:=by
 replace h:x8 (tW tt 5) [3,3,26] ds:=h;obtain ⟨a1,b1,rfl,h1,a2,b2,rfl,h2,a3,b3,rfl,h3,rfl⟩:=h;replace h1:∃ x,a1=[.j x]/\(Lit.j x).wf=true:=h1;replace h2:∃ x,a2=[.j x]/\(Lit.j x).wf=true:=h2;obtain ⟨x1,rfl,w1⟩:=h1;obtain ⟨x2,rfl,w2⟩:=h2;obtain ⟨l,rfl,hf,hl⟩:=BZ 0 h3;exact ⟨⟨x1,x2,l⟩,rfl,nb w1,nb w2,hf,hl⟩
theorem Mv {a:List DV} (h:tW tt 6 25 a):∃ l:List bb,a=[.sl 3 (ax l)]/\aU l:=by
 replace h:∃ xs,a=[.sl 3 xs]/\xs.length * 24<=140737488355328/\∀ x∈xs,tW tt 5 106 x:=h;obtain ⟨x3,rfl,w3,e3⟩:=h;obtain ⟨l,rfl,-⟩:=x9 (f:=bb.cs) (ok:=λ_=>True) (xs:=x3) λx hx=>by
  have h:=e3 x hx;replace h:x8 (tW tt 4) [3,3,3] x:=h;obtain ⟨a1,b1,rfl,h1,a2,b2,rfl,h2,a3,b3,rfl,h3,rfl⟩:=h;replace h1:∃ x,a1=[.j x]/\(Lit.j x).wf=true:=h1;replace h2:∃ x,a2=[.j x]/\(Lit.j x).wf=true:=h2;replace h3:∃ x,a3=[.j x]/\(Lit.j x).wf=true:=h3;obtain ⟨x1,rfl,w1⟩:=h1;obtain ⟨x2,rfl,w2⟩:=h2;obtain ⟨x3,rfl,w3⟩:=h3;exact ⟨⟨x1,x2,x3⟩,rfl,trivial⟩
 simp only [tg] at w3;exact ⟨l,rfl,by unfold aU;omega⟩
end Go.Proofs.YtolkmjfkkkiboaaGreat
namespace Go.Proofs.YtolkmjfkkkiboaaGreat
open Go.Ab Go.RowKit Go.MapKept Tryz
attribute [local irreducible] ay AW cw eA eo bL
def QA (i n:Int):Prim:=⟨i,n,1,0,0,kb,0,[],[],⟨n,0,[]⟩,[]⟩
theorem JH {i n:Int} (hn:jA n=true) (hi:1<=i/\i<=n):Gu (QA i n) :=
 ⟨⟨⟨rfl,rfl,rfl,rfl⟩,rfl,rfl⟩,hn,hi,⟨by show (1:Int)<=1;decide,by show (1:Int)<=1099511627776;decide⟩,⟨by show (0:Int)<=0;decide,by show (0:Int)<=1099511627776;decide⟩,⟨by show (0:Int)<=0;decide,by show (0:Int)<=1;decide⟩,rfl,
  ⟨hn,⟨by show (0:Int)<=0;decide,by show (0:Int)<=1099511627776;decide⟩,br _,λc h=>(by cases h),λc h=>(by cases h),List.Pairwise.nil,List.nodup_nil,λc h=>(by cases h)⟩,rfl,⟨br _,List.Pairwise.nil,λc h=>(by cases h)⟩⟩
def af_ (i n:Int):AV := .agg [.k i,.k n,.k 1,.k 0,.k 0,.k 0,.k 0,.d .nils,.d .nils,.k 0,.d .nils,.d .nils,.k n,.k 0,.d .nils,.d .nils]
theorem aaz (i n:Int):NW (af_ i n) (QA i n).av :=
 .agg (.cons (.refl _) (.cons (.refl _) (.cons (.refl _) (.cons (.refl _) (.cons (.refl _) (.cons (.refl _) (.cons (.refl _) (.cons (.nils 1 dC) (.cons (.nils 1 dC) (.cons (.refl _) (.cons (.nils 1 dC) (.cons (.nils 3 dC) (.cons (.refl _) (.cons (.refl _) (.cons (.nils 6 dC) (.cons (.nils 6 dC) .nil))))))))))))))))
theorem YJ (i n:Int) (hn:jA n=true) (hi:1<=i/\i<=n):zA 63 [.k i,.k n] [] (pQ (.tup [af_ i n,.k 0]) []):=by
 have hm:=qj (QA i n) (JH hn hi);have hm2:=bz hm (.cons (aaz i n) .nil);refine y0 func63 ntmps63 ?_;refine ay.mono (post:=λav L=>av = .d (.bool true)/\L=[]) hm2 ?_;rintro _ _ ⟨rfl,rfl⟩;refine cm ?_;exact ⟨rfl,rfl⟩
theorem acV (i n:Int) (hn:jA n=true) (hi:1<=i/\i<=n):zA 63 [.k i,.k n] [] (pQ (.tup [(QA i n).av,.k 0]) []):=by
 refine vM (YJ i n hn hi) ?_;rintro av L ⟨rfl,rfl⟩;refine ⟨_,⟨rfl,rfl⟩,λR v h=>?_⟩;simp only [VR,cD] at h ⊢;obtain ⟨us,rfl,u,dt,h1,h2,h3⟩:=h;exact ⟨us,rfl,u,dt,h1,by have:=NW.ok (aaz i n) u (by simpa only [VR] using h2);simpa only [VR] using this,h3⟩
def dx (p:Prim) (r:Int):Bool:=decide (((mW p.aq.aa r).length:Int)≥quo p.nodes)
theorem wD (p:Prim) (hf:p.aq.fit) (hn:jA p.nodes=true) (r:Int) (hr:gL r):zA 134 [p.av,.k r] [] (pQ (.d (.bool (dx p r))) []):=by
 have kx:=gQ hn;have bR:=ak (mW p.aq.aa r);have h1:=rS p.aq hf r hr;have h2:=UC p.nodes ⟨oM,oM⟩;refine dB func134 ntmps134 ?_;refine cP Ya ?_;refine ay.mono (post:=λav L=>av = .d (.sl 6 (ah (mW p.aq.aa r)))/\L=[]) h1 ?_;rintro _ _ ⟨rfl,rfl⟩;refine rdv ?_;refine ay.mono (post:=λav L=>av = .k (2 * ((p.nodes - 1) / 3)+1)/\L=[]) h2 ?_;rintro _ _ ⟨rfl,rfl⟩;refine rdv ?_;refine ⟨lM (λb=>AV.d (.bool b)) ?_,rfl⟩;unfold dx quo;rw [zd4];show (((ah (mW p.aq.aa r)).length:Nat):Int)≥_↔_;rw [bR]
def jd (p:Prim):Bool:=decide (p.said<p.round)&&(decide (p.round=1)||dx p (p.round - 1))
theorem rY (p:Prim) (hf:p.aq.fit) (hn:jA p.nodes=true) (hr:1<=p.round/\p.round<=1099511627776):zA 84 [p.av] [] (pQ (.d (.bool (jd p))) []):=by
 have h1:=wD p hf hn (p.round - 1) ⟨oM,oM⟩;unfold jd;refine gG func84 ntmps84 ?_;repeat' (apply tw<;>intro _)
 ·have e1:p.said<p.round:=aM;have e2:p.round=1:=aM;exact ⟨lM (λb=>AV.d (.bool b)) (by rw [cz e1,cz e2];rfl),rfl⟩
 ·have e1:p.said<p.round:=aM;have e2:p.round≠1:=aM;refine ay.mono (post:=λav L=>av = .d (.bool (dx p (p.round - 1)))/\L=[]) h1 ?_;rintro _ _ ⟨rfl,rfl⟩
  conv=>whnf
  exact ⟨lM (λb=>AV.d (.bool b)) (by rw [cz e1,aP e2];simp),rfl⟩
 ·have e1:¬p.said<p.round:=aM;exact ⟨lM (λb=>AV.d (.bool b)) (by rw [aP e1];rfl),rfl⟩
theorem Vc (d:Int):zA 82 [.k d] [] (pQ (.d (.bool (!decide (1<=d/\d<=65536)))) []):=by
 refine gG func82 ntmps82 ?_;refine (fG d).mono ?_;rintro _ _ ⟨rfl,rfl⟩
 conv=>whnf
 exact ⟨rfl,rfl⟩
def lu (l:List Int):Bool:=l.all λd=>decide (1<=d/\d<=65536)
theorem Mw (l:List Int) (hl:aU l):zA 133 [.d (.sl 1 (nums l)),.fn 82 []] [] (λav L=>(∃ z:Int,av = .k z/\(z≥0↔lu l=false))/\L=[]):=by
 have eM:=nums_length l;unfold aU at hl;refine dB func133 ntmps133 ?_;refine aH aF bf aG (σ:=Nat) (λj=>([(0,.d (.sl 1 (nums l))),(1,.fn 82 []),(7,.k l.length),(8,.k j)],[])) (λj=>j<=l.length/\∀ d∈l.take j,1<=d/\d<=65536) (λj=>l.length - j) [0,1,7,8] ?_ ?_
 ·conv=>whnf
  exact ⟨0,by rw [eM];rfl,rfl,br _,by simp⟩
 ·rintro j ⟨hj,bK⟩;refine rdv ?_;repeat' (apply tw<;>intro _)
  ·have h:(j:Int)<l.length:=aM;refine eG l j λd hd=>?_;refine ⟨oM,[.j d],bD hd,?_⟩;refine rdv ?_;refine (Vc d).mono ?_;rintro _ _ ⟨rfl,rfl⟩;by_cases RP:1<=d/\d<=65536
   ·rw [cz RP];refine rdv ?_;refine ⟨j+1,rfl,rfl,⟨oM,λx hx=>?_⟩,oM⟩;rw [iu,hd] at hx;rcases gA.1 hx with hx|hx
    ·exact bK x hx
    ·simp at hx;rw [hx];exact RP
   ·rw [aP RP];refine rdv ?_;refine ⟨⟨_,rfl,λ_=>?_,λ_=>by show (j:Int)≥0;omega⟩,rfl⟩;unfold lu;rw [List.all_eq_false];exact ⟨d,fU hd,by simpa using RP⟩
  ·have h:¬(j:Int)<l.length:=aM;rw [gx oM] at bK;have hb:lu l=true:=by unfold lu;rw [Fe];intro x hx;simpa using bK x hx
   refine ⟨⟨_,rfl,λh=>absurd h dC,λh=>?_⟩,rfl⟩;rw [hb] at h;cases h
theorem oo (l:List Int) (hl:aU l):zA 81 [.d (.sl 1 (nums l)),.fn 82 []] [] (pQ (.d (.bool (!lu l))) []):=by
 refine dB func81 ntmps81 ?_;refine (Mw l hl).mono ?_;rintro _ _ ⟨⟨z,rfl,hz⟩,rfl⟩
 conv=>whnf
 refine ⟨lM (λb=>AV.d (.bool b)) ?_,rfl⟩
 cases hb:lu l with
 | true=>exact aP λh=>by have:=hz.1 h;rw [hb] at this;cases this
 | false=>exact cz (hz.2 hb)
def dm (l:List Int):List Int:=l.foldl (λacc d=>if acc.length<8/\d∉acc then acc++[d] else acc) []
theorem uO (l:List Int) (d:Int):dm (l++[d])=if (dm l).length<8/\d∉dm l then dm l++[d] else dm l:=by
 unfold dm;rw [List.foldl_append];rfl
theorem t_:∀ (l acc:List Int),acc.length<=8->(l.foldl (λacc d=>if acc.length<8/\d∉acc then acc++[d] else acc) acc).length<=8
 | [],acc,h=>h
 | d :: l,acc,h=>by
   rw [List.foldl_cons];refine t_ l _ ?_;split
   ·rename_i h2;simp;omega
   ·exact h
theorem yk (l:List Int):(dm l).length<=8:=t_ l [] (br _)
def fY (p:Prim):List Int:=(mW p.aq.aa (p.round - 1)).map (·.ae)
def wE (p:Prim) (l:List Int):Cert:=⟨p.id,p.round,dE (dm l),dE (fY p),0,[]⟩
theorem De (b:List Int) (hb:aU b) (x:Int) (sh:Bool):zA 135 [.arr 0,.k x] [.row 3 1 (nums b) sh] (pQ (.d (.bool (decide (x∈b)))) [.row 3 1 (nums b) sh]) :=
 bS (cG _) ⟨_,_,rfl,.inl (.inr (.inl ⟨0,_,_,_,_,rfl,rfl,rfl⟩)),_,_,rfl,.inl (.inl ⟨_,rfl,rfl⟩),rfl⟩ (gX b hb x)
def ai_:AB := .cells [.k 0,.k 0,.d .nils,.d .nils]
def hL (p:Prim) (bs ps:List Int):List AB:=[.cells (p.cs.map AV.d),ai_,.cells [.k p.id,.k p.round,.arr 3,.arr 4],.row 3 1 (nums bs) false,.row 3 1 (nums ps) false]
theorem JI (p:Prim) (hf:p.aq.fit) (hr:1<=p.round/\p.round<=1099511627776) (zx:p.aq.aa.length<=100000) (l:List Int) (hl:aU l) :
  zA 85 [p.av,.d (.sl 1 (nums l))] [] (pQ (.agg [.k p.id,.k p.round,.arr 0,.arr 1]) [.row 3 1 (nums (dE (dm l))) false,.row 3 1 (nums (dE (fY p))) false]):=by
 have eM:=nums_length l;have Hb:=hl;unfold aU at Hb;have hof:=rS p.aq hf (p.round - 1) ⟨oM,oM⟩;have OW:(mW p.aq.aa (p.round - 1)).length<=100000:=fS (mv ..) zx;obtain ⟨ol,hoe⟩:∃ ol,mW p.aq.aa (p.round - 1)=ol:=⟨_,rfl⟩;have hpe:fY p=ol.map (·.ae):=by unfold fY;rw [hoe]
 rw [hoe] at hof OW;have bR:=ak ol;refine axz func85 ntmps85 ?_;refine uC [(2,2,3,1),(2,3,3,1)] rfl ?_;refine aH aF bf aG (σ:=Nat) (λj=>([(2,.ptr 0 0),(4,.ptr 1 0),(5,.ptr 2 0),(15,.d (.sl 1 (nums l))),(16,.k l.length),(17,.k j)],hL p (dm (l.take j)) [])) (λj=>j<=l.length) (λj=>l.length - j) [2,4,5,15,16,17] ?_ ?_
 ·conv=>whnf
  exact ⟨0,by rw [eM];rfl,rfl,br _⟩
 ·intro j hj;have jl:=yk (l.take j);obtain ⟨bs,KO⟩:∃ bs,dm (l.take j)=bs:=⟨_,rfl⟩;rw [KO] at jl ⊢;have RR:=nums_length bs;refine cm ?_;repeat' (apply tw<;>intro _)
  ·have h:(j:Int)<l.length:=aM;refine eG l j λd hd=>?_;have dq:dm (l.take (j+1))=if bs.length<8/\d∉bs then bs++[d] else bs:=by rw [gz hd,uO,KO]
   refine ⟨oM,[.j d],bD hd,?_⟩;refine cm ?_;repeat' (apply tw<;>intro _)
   ·have h8:(((nums bs).length:Nat):Int)<8:=aM
    (refine Or.inr ?_;(conv=>whnf))
    refine (De bs (by unfold aU;omega) d false).mono ?_;rintro _ _ ⟨rfl,rfl⟩;by_cases hm:d∈bs
    ·rw [cz hm];rw [aR (λh=>h.2 hm)] at dq;refine cm ?_;exact ⟨j+1,rfl,by rw [dq];rfl,oM,oM⟩
    ·rw [aP hm];rw [bp ⟨oM,hm⟩] at dq;refine cm ?_;refine ⟨by show ((nums bs).length+1) * 8<=_;omega,?_⟩;refine cm ?_;refine ⟨j+1,rfl,?_,oM,oM⟩;rw [dq,hL,<-db];rfl
   ·have h8:¬(((nums bs).length:Nat):Int)<8:=aM;rw [aR (λh=>h8 oM)] at dq;exact ⟨j+1,rfl,by rw [dq];rfl,oM,oM⟩
  ·have h:¬(j:Int)<l.length:=aM;rw [gx oM] at KO;subst KO
   (refine Or.inr ?_;(conv=>whnf))
   refine qR (I9 (dm l) oM) ?_;refine ay.mono (post:=λav L=>av = .d (.sl 6 (ah ol))/\L=[]) hof ?_;rintro _ _ ⟨rfl,rfl⟩;refine cm ?_;refine aH aF bf aG (σ:=Nat) (λj=>([(2,.ptr 0 0),(4,.ptr 1 0),(5,.ptr 2 0),(47,.d (.sl 6 (ah ol))),(48,.k ol.length),(49,.k j)],hL p (dE (dm l)) ((ol.take j).map (·.ae)))) (λj=>j<=ol.length) (λj=>ol.length - j) [2,4,5,47,48,49] ?_ ?_
   ·conv=>whnf
    exact ⟨0,by rw [bR];rfl,rfl,br _⟩
   ·intro i hi;refine cm ?_;repeat' (apply tw<;>intro _)
    ·have e:(i:Int)<ol.length:=aM;refine eG ol i λc hc=>?_;have Jm:(nums ((ol.take i).map (·.ae))).length<=100000:=by rw [nums_length];simp;omega
     refine ⟨oM,c.cs,aB hc,?_⟩;refine cm ?_;refine ⟨by show ((nums ((ol.take i).map (·.ae))).length+1) * 8<=_;omega,?_⟩;refine cm ?_;refine ⟨i+1,rfl,?_,oM,oM⟩;rw [gz hc,hL,RH,<-db];rfl
    ·have e:¬(i:Int)<ol.length:=aM;rw [gx oM,<-hpe];have fT:(fY p).length<4611686018427387904:=by rw [hpe,tg];omega
     (refine Or.inr ?_;(conv=>whnf))
     refine qR (I9 (fY p) fT) ?_;exact ⟨rfl,rfl⟩
theorem wF (p:Prim) (hf:p.aq.fit) (hr:1<=p.round/\p.round<=1099511627776) (zx:p.aq.aa.length<=100000) (l:List Int) (hl:aU l) :
  zA 85 [p.av,.d (.sl 1 (nums l))] [] (λav L=>av=(wE p l).pD/\L=[]):=by
 refine bT (JI p hf hr zx l hl) ?_;rintro _ _ ⟨rfl,rfl⟩
 conv=>whnf
 exact ⟨rfl,rfl⟩
end Go.Proofs.YtolkmjfkkkiboaaGreat
