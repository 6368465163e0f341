/- PrimaryExact: contracts. -/
import Derived.Test.YtolkmjfkkkiboaaGreatPrimaryExactCodI
set_option linter.all false
set_option maxHeartbeats 8000000
set_option maxRecDepth 100000
namespace Go.Proofs.YtolkmjfkkkiboaaGreat
open Go.Ab Go.RowKit Go.MapKept Tryz
attribute [local irreducible] ay AW cw eA eo bL
def kd (held l:List Int):List Int:=l.filter λx=>decide (x∉held)
def gl (m:aW):bb:=⟨m.head.round,m.head.af,m.ae⟩
def r7 (m:aW):aW:=⟨5,0,0,m.ae,0,0,[],kb,kb,[]⟩
def yl (p:Prim) (m:aW) (held:List Int):Bool:=decide (bm p.aq m.head=[])&&decide (kd held m.head.aE=[])
def eC (p:Prim) (m:aW) (held:List Int):Prim :=
 if m.head.round<=p.aq.low then p
 else if gI p.aA m.head.round m.head.af>0 then p
 else if yl p m held=true then { p with aA:=jX p.aA (gl m) }
 else p
def fK (p:Prim) (m:aW) (held:List Int):List aW :=
 if m.head.round<=p.aq.low then []
 else if gI p.aA m.head.round m.head.af>0 then (if gI p.aA m.head.round m.head.af=m.ae then [(r7 m).told p m.src] else [])
 else jq p m.src 8 (bU p.late (bm p.aq m.head))++jq p m.src 7 (kd held m.head.aE)++(if yl p m held=true/\bX p.aA (gl m)=0 then [(r7 m).told p m.src] else [])
theorem B3 (held l:List Int) {j:Nat} {x:Int} (hx:l[j]? = some x):kd held (l.take (j+1))=kd held (l.take j)++(if x∈held then [] else [x]):=by
 unfold kd;rw [iu,hx,CC];by_cases h:x∈held<;>simp [h]
end Go.Proofs.YtolkmjfkkkiboaaGreat
namespace Go.Proofs.YtolkmjfkkkiboaaGreat
open Go Go.Ab Go.RowKit Go.Shelf Tryz
attribute [local go_sem] Oper.semAt_some
structure BkC (Bs:Nat) (p:Option Addr) (b off len cap:Nat) (el:Fin len->List Value) (W:World):Prop where
 box:W.cell? ⟨Bs,0,none⟩=some (.slice p len cap)
 cell:∀ (k:Fin len) (j:Nat) (v:Value),(el k)[j]? = some v->W.cell? ⟨b,off+k.val * 6+j,none⟩=some v
def lR {len:Nat} (pre:List (Fin len)):Prop:=pre.map (·.val)=(List.range pre.length).map λi=>len - 1 - i
theorem QK {len:Nat}:lR ([]:List (Fin len)):=rfl
theorem ME {len:Nat} {pre:List (Fin len)} {x:Fin len} (h:lR pre) (hx:x.val=len - 1 - pre.length):lR (pre++[x]):=by
 unfold lR at h ⊢;rw [RH,h,iQ,RF,zfE,RH];simp [hx]
set_option maxRecDepth 100000 in
theorem Dk (F:Fence) (n:Nat) (h7:F.fn 186) (Mg:F.round=none) (hn:1<=n) (l Bs:Nat) (p:Option Addr) (b off len cap:Nat) (hp:0<len->p=some ⟨b,off,none⟩) (gT:len<=cap) (qN:len<=1000000) (el:Fin len->List Value) (P_:∀ k,(el k).length=6) (Kp:World->World->Prop)
  (hK:∀ W W',BkC Bs p b off len cap el W->Kp W W'->BkC Bs p b off len cap el W') (J Jx:List (Fin len)->World->Prop)
  (hY:∀ pre x W,J pre W->pre.length<len->YieldAt F (n - 1) prog l #[.j (x.val:Nat),.agg (el x).toArray] W λe W' =>
    (e = .returned (.bool true)/\J (pre++[x]) W'/\Kp W W')∨(e = .returned (.bool false)/\Jx (pre++[x]) W'))
  (W:World) (hC:BkC Bs p b off len cap el W) (h0:J [] W) :
  CallsIn F n prog 186 #[.func (.yield l) #[] #[],.pointer (some ⟨Bs,0,none⟩)] W λe W'=>(∃ v,e = .returned v) /\
   ((∃ ys,(lR ys/\ys.length=len)/\J ys W')∨(∃ pre,lR pre/\Jx pre W')):=by
 refine callsIn_of_wp func186 rfl h7 ?_ Mg;simp only [ntmps186,CM,CE,Du,Nat.reduceAdd,Nat.reduceSub,zeA,zeB,zeY,zeJ,tC,KX];have mixed:=cB;have t41:=Tryz.underlying47;have a41:=Tryz.isAgg47;have z41:=Tryz.sizeOf47;have t26:=Tryz.underlying26;have u26:=run_underlying t26;have ck:=hC.box;have Ag:IntKind.i64.wrap ((len:Int) - 1)=(len:Int) - 1:=by rw [IntKind.wrap_i64];omega
 gi_wp2
 gi_loopw [3] (λi wr=>∃ (k:Nat) (pre:List (Fin len)),k+pre.length=len/\i = .j ((k:Int) - 1)/\lR pre/\J pre wr/\BkC Bs p b off len cap el wr)
  (λi _=>(intOf i+1).toNat)
 case atStart=>exact ⟨len,[],by simp,by simp [Ag],QK,h0,hC⟩
 case round =>
  obtain ⟨k,pre,hk,rfl,KI,hJs,hCs⟩:=hrel
  cases k with
  | zero =>
    gi_wp2
    go_end0
    exact ⟨⟨_,rfl⟩,.inl ⟨pre,⟨KI,oM⟩,hJs⟩⟩
  | succ q =>
    have hq:((q+1:Nat):Int) - 1=(q:Int):=oM;rw [hq];have R0:q<len:=oM;have agc:lR (pre++[(⟨q,R0⟩:Fin len)]):=ME KI (by show q=_;omega);have hp:=hp oM;subst hp;have SN:=hCs.box;have he:=P_ ⟨q,R0⟩;obtain ⟨v0,v1,v2,v3,v4,v5,PN⟩:∃ v0 v1 v2 v3 v4 v5,el ⟨q,R0⟩=[v0,v1,v2,v3,v4,v5]:=by
     match hx:el ⟨q,R0⟩,he with
     | [a,b,c,d,e,f],_=>exact ⟨a,b,c,d,e,f,rfl⟩
    have c0:=hCs.cell ⟨q,R0⟩ 0 v0 (by rw [PN];rfl);have c1:=hCs.cell ⟨q,R0⟩ 1 v1 (by rw [PN];rfl);have c2:=hCs.cell ⟨q,R0⟩ 2 v2 (by rw [PN];rfl);have c3:=hCs.cell ⟨q,R0⟩ 3 v3 (by rw [PN];rfl);have c4:=hCs.cell ⟨q,R0⟩ 4 v4 (by rw [PN];rfl);have c5:=hCs.cell ⟨q,R0⟩ 5 v5 (by rw [PN];rfl);simp only [RJ] at c0;obtain ⟨fn,tmps,assign,body,hy,hR⟩:=hY pre ⟨q,R0⟩ wr hJs oM;simp only [PN] at hy;have hg0:(0:Int)<=(q:Int):=oM;have hg1:(q:Int)<(len:Int):=oM;have yH:((q:Int)).toNat=q:=oM
    gi_wp2
    have hwq:IntKind.i64.wrap ((q:Int) - 1)=(q:Int) - 1:=by rw [IntKind.wrap_i64];omega
    refine hR.mono ?_;rintro e W3 (⟨rfl,hJ3,hk3⟩|⟨rfl,acK⟩)
    ·have hC3:=hK _ _ hCs hk3
     gi_wp2
     go_roundw
     case rel=>exact ⟨q,pre++[⟨q,R0⟩],by simp;omega,by simp [hwq],agc,hJ3,hC3⟩
     case measure=>simp [intOf,hwq]
    ·gi_wp2
     refine bodyPost_ret (results_none rfl _ _ _) rfl ?_;exact ⟨⟨_,rfl⟩,.inr ⟨_,agc,acK⟩⟩
theorem qC (R:RC) (Bs:Nat) (p:Option Addr) (b off len cap:Nat) (hp:0<len->p=some ⟨b,off,none⟩) (gT:len<=cap) (qN:len<=1000000) (el:Fin len->List Value) (P_:∀ k,(el k).length=6) (w:World)
  (hR:∀ x u,x.spot=none->R.rd x u->w.cell? x=some u) (h1:R.rd ⟨Bs,0,none⟩ (.slice p len cap)) (h2:∀ (k:Fin len) (j:Nat) (v:Value),(el k)[j]? = some v->R.rd ⟨b,off+k.val * 6+j,none⟩ v) :
  SeqStopsK Fence.wide 4 prog 186 #[.pointer (some ⟨Bs,0,none⟩)] (λx:Fin len => #[.j (x.val:Nat),.agg (el x).toArray]) (Bx R) (λys=>lR ys/\ys.length=len) lR len w:=λl J Jx W hW _ _ hY h0=>by
 have AP:∀ (x:Addr) (u:Value),x.spot=none->R.rd x u->W.cell? x=some u:=λx u hsx hx=>(hW.cell (p:=x) (by
  have:=hR x u hsx hx;exact jE this)).trans (hR x u hsx hx)
 refine (Dk Fence.wide 4 trivial rfl dC l Bs p b off len cap hp gT qN el P_ (λA B=>Bx R A B) (λA B hA hK=>⟨hK _ _ h1 hA.box,λk j v hv=>hK _ _ (h2 k j v hv) (hA.cell k j v hv)⟩) J Jx hY W ⟨AP _ _ rfl h1,λk j v hv=>AP _ _ rfl (h2 k j v hv)⟩ h0).mono ?_;rintro e W' ⟨he,⟨ys,hd,hj⟩|⟨pre,hd,hj⟩⟩
 ·exact ⟨he,.inl ⟨ys,hd,hj⟩⟩
 ·exact ⟨he,.inr ⟨pre,hd,hj⟩⟩
end Go.Proofs.YtolkmjfkkkiboaaGreat
namespace Go.Proofs.YtolkmjfkkkiboaaGreat
open Go.Ab Go.RowKit Go.MapKept Tryz
attribute [local irreducible] ay AW cw eA eo bL
theorem OY {d:Dag} (h:Valid d):Uy d:=λc hc=>(uN h.nodes (h.aa c hc)).ao
def nh (p:Prim):Bool:=if p.round % 2=0 then decide (iU p.aq p.round>0) else (decide (p.round=1)||(decide (iU p.aq (p.round - 1)=0)||settled p.aq (p.round - 1)))
theorem GC (p:Prim) (hv:Valid p.aq) (hr:1<=p.round/\p.round<=1099511627776):zA 185 [p.av] [] (pQ (.d (.bool (nh p))) []):=by
 have kx:=gQ hv.nodes;have hn:0<p.aq.nodes/\p.aq.nodes<=16:=⟨oM,oM⟩;have hw:=hv.fit;have hfc:=OY hv;unfold nh;by_cases h2:p.round % 2=0
 ·have h1:=rT p.aq hw hn p.round ⟨oM,oM⟩;rw [bp h2];refine cF aF bf aG func185 rfl ntmps185 rfl false rfl ?_
  conv=>whnf
  refine ⟨dC,λz hz=>?_⟩;replace hz:=jS oM hz;subst hz;refine rdv ?_;repeat' (apply tw<;>intro _)
  ·refine ay.mono (post:=λav L=>av = .k (iU p.aq p.round)/\L=[]) h1 ?_;rintro _ _ ⟨rfl,rfl⟩;refine rdv ?_;exact ⟨rfl,rfl⟩
  all_goals exact absurd h2 (by assumption)
 ·rw [aR h2];refine cF aF bf aG func185 rfl ntmps185 rfl false rfl ?_
  conv=>whnf
  refine ⟨dC,λz hz=>?_⟩;replace hz:=jS oM hz;subst hz;refine rdv ?_;repeat' (apply tw<;>intro _)
  ·rename_i h;exact absurd h h2
  ·rename_i _ h1;replace h1:p.round=1:=h1;exact ⟨lM (λb=>AV.d (.bool b)) (by rw [cz h1];rfl),rfl⟩
  ·rename_i _ h1;replace h1:p.round≠1:=h1;refine ay.mono (post:=λav L=>av = .k (iU p.aq (p.round - 1))/\L=[]) (rT p.aq hw hn (p.round - 1) ⟨oM,oM⟩) ?_;rintro _ _ ⟨rfl,rfl⟩;refine rdv ?_;repeat' (apply tw<;>intro _)
   ·rename_i h3;exact ⟨lM (λb=>AV.d (.bool b)) (by rw [aP h1,cz h3];rfl),rfl⟩
   ·rename_i h3;refine ay.mono (post:=λav L=>av = .d (.bool (settled p.aq (p.round - 1)))/\L=[]) (L6 p.aq hw hn hfc (p.round - 1) ⟨oM,oM⟩) ?_;rintro _ _ ⟨rfl,rfl⟩
    conv=>whnf
    exact ⟨lM (λb=>AV.d (.bool b)) (by rw [aP h1,aP h3];rfl),rfl⟩
def Prim.at (p:Prim) (x:Int×Int):Prim:={ p with round:=x.1,iq:=x.2 }
def js (p:Prim) (x:Int×Int) (r:Int):Bool:=decide (r>x.1/\r>p.aq.low) && !dx p r
def lift (p:Prim) (x:Int×Int) (r:Int):Int×Int:=if r>x.1/\r>p.aq.low then (r,0) else x
def ir (p:Prim) (x:Int×Int):Bool:=dx p x.1&&(decide (x.1<1099511627776)&&(decide (x.2≥5)||nh (p.at x)))
def xf (p:Prim):Nat->Int×Int->Int->Int×Int
 | 0,x,_=>x
 | n+1,x,r=>if js p x r=true then xf p n x (r - 1) else if ir p (lift p x r)=true then xf p n ((lift p x r).1+1,0) r else lift p x r
def u_ (x:Int×Int) (r:Int):Nat:=(1099511627776 - x.1).toNat+r.toNat
theorem GD (p:Prim) (x:Int×Int) (r:Int) (hx:1<=x.1):x.1<=(lift p x r).1:=by
 unfold lift;split
 ·show x.1<=r;omega
 ·exact G8 _
theorem GF {p:Prim} {x:Int×Int} {r:Int} (h:js p x r=true):r>x.1:=by
 unfold js at h;simp at h;exact h.1.1
theorem ot {p:Prim} {x:Int×Int} (h:ir p x=true):x.1<1099511627776:=by
 unfold ir at h;simp at h;exact h.2.1
theorem wJ (p:Prim):∀ (m n:Nat) (x:Int×Int) (r:Int),1<=x.1->u_ x r<m->u_ x r<n->xf p m x r=xf p n x r
 | 0,n,x,r,_,h1,h2=>oM
 | m+1,0,x,r,_,h1,h2=>oM
 | m+1,n+1,x,r,hx,h1,h2=>by
   unfold xf;have hl:=GD p x r hx;unfold u_ at h1 h2;by_cases hc:js p x r=true
   ·rw [bp hc,bp hc];have:=GF hc;exact wJ p m n x (r - 1) hx (by unfold u_;omega) (by unfold u_;omega)
   ·rw [aR hc,aR hc];by_cases hg:ir p (lift p x r)=true
    ·rw [bp hg,bp hg];have:=ot hg;exact wJ p m n _ r (by show 1<=(lift p x r).1+1;omega) (by unfold u_;show (1099511627776 - ((lift p x r).1+1)).toNat+_<_;omega) (by unfold u_;show (1099511627776 - ((lift p x r).1+1)).toNat+_<_;omega)
    ·rw [aR hg,aR hg]
def wK (p:Prim):Prim:=p.at (xf p (u_ (p.round,p.iq) (jR p.aq.aa)+1) (p.round,p.iq) (jR p.aq.aa))
def agd (p:Prim) (out:List aW) (x:(Int×Int)×Int):AF×List AB:=([(0,.ptr 0 0),(2,.k x.2)],(p.at x.1).st out)
theorem GG {d:Dag} (h:Valid d):0<=jR d.aa/\jR d.aa<=1099511627776:=by
 unfold jR
 cases hl:d.aa.getLast? with
 | none=>exact ⟨dC,dC⟩
 | some c =>
   have:=(h.aa c (List.mem_of_getLast? hl)).head.round;show 0<=c.round/\c.round<=_;omega
theorem qm {p:Prim} {x:Int×Int} {r:Int} (nA:p.at (xf p (u_ x r+1) x r)=wK p) (hc:js p x r=false) {y:Int×Int} (hl:lift p x r=y) (hg:ir p y=false):wK p=p.at y:=by
 rw [<-nA,xf,aR (by rw [hc];decide),hl,aR (by rw [hg];decide)]
theorem Vj {p:Prim} {x:Int×Int} {r:Int} (nA:p.at (xf p (u_ x r+1) x r)=wK p) (hx:1<=x.1) (hc:js p x r=true):p.at (xf p (u_ x (r - 1)+1) x (r - 1))=wK p:=by
 have:=GF hc;have e:xf p (u_ x r+1) x r=xf p (u_ x r) x (r - 1):=by rw [xf,bp hc]
 rw [<-nA,e];exact lM p.at (wJ p _ _ x (r - 1) hx (by unfold u_;omega) (by unfold u_;omega))
theorem wL {p:Prim} {x:Int×Int} {r:Int} (nA:p.at (xf p (u_ x r+1) x r)=wK p) (hx:1<=x.1) (hc:js p x r=false) {y:Int×Int} (hl:lift p x r=y) (hg:ir p y=true):p.at (xf p (u_ (y.1+1,0) r+1) (y.1+1,0) r)=wK p:=by
 have h1:=ot hg;have h2:=GD p x r hx;rw [hl] at h2;have e:xf p (u_ x r+1) x r=xf p (u_ x r) (y.1+1,0) r:=by rw [xf,aR (by rw [hc];decide),hl,bp hg]
 rw [<-nA,e];exact lM p.at (wJ p _ _ _ r (by show 1<=y.1+1;omega) (by unfold u_;show (1099511627776 - (y.1+1)).toNat+_<_;omega) (by unfold u_;show (1099511627776 - (y.1+1)).toNat+_<_;omega))
theorem JS {p:Prim} {x:Int×Int} {r:Int} (hx:1<=x.1) {y:Int×Int} (hl:lift p x r=y) (hg:ir p y=true):u_ (y.1+1,0) r<u_ x r:=by
 have h1:=ot hg;have h2:=GD p x r hx;rw [hl] at h2;unfold u_;show (1099511627776 - (y.1+1)).toNat+_<_;omega
theorem r8 {p:Prim} {x:Int×Int} (h:dx p x.1=false):ir p x=false:=by unfold ir;rw [h];rfl
theorem r9 {p:Prim} {x:Int×Int} (h:¬x.1<1099511627776):ir p x=false:=by unfold ir;rw [aP h];simp
theorem r_ {p:Prim} {x:Int×Int} (h1:¬x.2≥5) (h2:nh (p.at x)=false):ir p x=false:=by unfold ir;rw [aP h1,h2];simp
theorem ym {p:Prim} {x:Int×Int} (h:dx p x.1=true) (h1:x.1<1099511627776) (h2:x.2≥5):ir p x=true:=by unfold ir;rw [h,cz h1,cz h2];rfl
theorem pc {p:Prim} {x:Int×Int} (h:dx p x.1=true) (h1:x.1<1099511627776) (h2:nh (p.at x)=true):ir p x=true:=by unfold ir;rw [h,cz h1,h2];simp
theorem agf (p:Prim) (out:List aW) (hv:Valid p.aq) (hn:jA p.nodes=true) (hr:1<=p.round/\p.round<=1099511627776):zA 151 [.ptr 0 0] (p.st out) (pQ (.tup []) ((wK p).st out)):=by
 have QL:=GG hv;have h1:=Yq p.aq hv.fit.aU;refine dB func151 ntmps151 ?_;refine mU aF bf aG (σ:=(Int×Int)×Int) (agd p out) (λk s=>k=0/\(1<=s.1.1/\s.1.1<=1099511627776)/\(-1<=s.2/\s.2<=1099511627776)/\p.at (xf p (u_ s.1 s.2+1) s.1 s.2)=wK p) (λ_ s=>u_ s.1 s.2) ?_ ?_
 ·rintro k rest hk ⟨⟨rd,ag⟩,r⟩ ⟨rfl,hx,Tt,nA⟩;have e:=Hl (show some _=some rest from hk);subst e;clear hk;replace hx:1<=rd/\rd<=1099511627776:=hx;replace Tt : -1<=r/\r<=1099511627776:=Tt;replace nA:p.at (xf p (u_ (rd,ag) r+1) (rd,ag) r)=wK p:=nA
  conv=>whnf
  by_cases lp:r>rd
  ·by_cases ri:r>p.aq.low
   ·refine iA (λ_=>?_) (λh=>absurd lp h)
    conv=>whnf
    refine iA (λ_=>?_) (λh=>absurd ri h)
    conv=>whnf
    refine ay.mono (post:=λav L=>av = .d (.bool (dx p r))/\L=[]) (wD (p.at (rd,ag)) hv.fit hn r ⟨oM,oM⟩) ?_;rintro _ _ ⟨rfl,rfl⟩
    cases BE:dx p r with
    | false =>
      have bR:js p (rd,ag) r=true:=by unfold js;rw [BE,cz ⟨lp,ri⟩];rfl
      refine rdv ?_;refine cV [0,2] ?_
      conv=>whnf
      exact ⟨((rd,ag),r - 1),rfl,rfl,⟨rfl,hx,⟨by show -1<=r - 1;omega,by show r - 1<=_;omega⟩,Vj nA hx.1 bR⟩,by show (1099511627776 - rd).toNat+(r - 1).toNat<(1099511627776 - rd).toNat+r.toNat;omega⟩
    | true =>
      have bR:js p (rd,ag) r=false:=by unfold js;rw [BE];simp
      have iO:lift p (rd,ag) r=(r,0):=bp ⟨lp,ri⟩;have OJ:1<=r/\r<=1099511627776:=⟨oM,oM⟩
      conv=>whnf
      refine iA (λ_=>?_) (λh=>absurd lp h)
      conv=>whnf
      refine iA (λ_=>?_) (λh=>absurd ri h);refine rdv ?_;refine cP Gf ?_;refine ay.mono (post:=λav L=>av = .d (.bool (dx p r))/\L=[]) (wD (p.at (r,0)) hv.fit hn r ⟨oM,oM⟩) ?_;rintro _ _ ⟨rfl,rfl⟩
      cases WN:dx p r with
      | false =>
        refine rdv ?_;exact ⟨rfl,by rw [qm nA bR iO (r8 WN)];rfl⟩
      | true =>
        refine rdv ?_;repeat' (apply tw<;>intro _)
        ·have k1:r<1099511627776:=aM;have k2:¬(0:Int)≥5:=dC;refine ay.mono (post:=λav L=>av = .d (.bool (nh (p.at (r,0))))/\L=[]) (GC (p.at (r,0)) hv ⟨OJ.1,OJ.2⟩) ?_;rintro _ _ ⟨rfl,rfl⟩
         cases WM:nh (p.at (r,0)) with
         | false =>
           refine rdv ?_;exact ⟨rfl,by rw [qm nA bR iO (r_ (x:=(r,0)) k2 WM)];rfl⟩
         | true =>
           refine rdv ?_;have hg:=pc (x:=(r,0)) WN k1 WM
           try
            refine eU (oM:-9223372036854775808<=r+1/\r+1<9223372036854775808) ?_;refine rdv ?_;repeat' (apply tw<;>intro _)
           have hm:=JS (x:=(rd,ag)) hx.1 iO hg;refine cV [0,2] ?_
           conv=>whnf
           exact ⟨((r+1,0),r),rfl,rfl,⟨rfl,⟨by show 1<=r+1;omega,by show r+1<=_;omega⟩,Tt,wL nA hx.1 bR iO hg⟩,hm⟩
        ·have k1:¬r<1099511627776:=aM;exact ⟨rfl,by rw [qm nA bR iO (r9 (x:=(r,0)) k1)];rfl⟩
   ·have bR:js p (rd,ag) r=false:=by unfold js;rw [aP (λh=>ri h.2)];rfl
    have iO:lift p (rd,ag) r=(rd,ag):=aR (λh=>ri h.2);have OJ:=hx;refine iA (λ_=>?_) (λh=>absurd lp h)
    conv=>whnf
    refine iA (λh=>absurd h ri) (λ_=>?_)
    conv=>whnf
    refine iA (λ_=>?_) (λh=>absurd lp h)
    conv=>whnf
    refine iA (λh=>absurd h ri) (λ_=>?_)
    conv=>whnf
    refine cP Gf ?_;refine ay.mono (post:=λav L=>av = .d (.bool (dx p rd))/\L=[]) (wD (p.at (rd,ag)) hv.fit hn rd ⟨oM,oM⟩) ?_;rintro _ _ ⟨rfl,rfl⟩
    cases WN:dx p rd with
    | false =>
      refine rdv ?_;exact ⟨rfl,by rw [qm nA bR iO (r8 WN)];rfl⟩
    | true =>
      refine rdv ?_;repeat' (apply tw<;>intro _)
      ·have k1:rd<1099511627776:=aM;have k2:ag≥5:=aM;have hg:=ym (x:=(rd,ag)) WN k1 k2
       try
        refine eU (oM:-9223372036854775808<=rd+1/\rd+1<9223372036854775808) ?_;refine rdv ?_
       have hm:=JS (x:=(rd,ag)) hx.1 iO hg;refine cV [0,2] ?_
       conv=>whnf
       exact ⟨((rd+1,0),r),rfl,rfl,⟨rfl,⟨by show 1<=rd+1;omega,by show rd+1<=_;omega⟩,Tt,wL nA hx.1 bR iO hg⟩,hm⟩
      ·have k1:rd<1099511627776:=aM;have k2:¬ag≥5:=aM;refine ay.mono (post:=λav L=>av = .d (.bool (nh (p.at (rd,ag))))/\L=[]) (GC (p.at (rd,ag)) hv ⟨OJ.1,OJ.2⟩) ?_;rintro _ _ ⟨rfl,rfl⟩
       cases WM:nh (p.at (rd,ag)) with
       | false =>
         refine rdv ?_;exact ⟨rfl,by rw [qm nA bR iO (r_ (x:=(rd,ag)) k2 WM)];rfl⟩
       | true =>
         refine rdv ?_;have hg:=pc (x:=(rd,ag)) WN k1 WM
         try
          refine eU (oM:-9223372036854775808<=rd+1/\rd+1<9223372036854775808) ?_;refine rdv ?_
         have hm:=JS (x:=(rd,ag)) hx.1 iO hg;refine cV [0,2] ?_
         conv=>whnf
         exact ⟨((rd+1,0),r),rfl,rfl,⟨rfl,⟨by show 1<=rd+1;omega,by show rd+1<=_;omega⟩,Tt,wL nA hx.1 bR iO hg⟩,hm⟩
      ·have k1:¬rd<1099511627776:=aM;exact ⟨rfl,by rw [qm nA bR iO (r9 (x:=(rd,ag)) k1)];rfl⟩
  ·have bR:js p (rd,ag) r=false:=by unfold js;rw [aP (λh=>lp h.1)];rfl
   have iO:lift p (rd,ag) r=(rd,ag):=aR (λh=>lp h.1);have OJ:=hx;refine iA (λh=>absurd h lp) (λ_=>?_)
   conv=>whnf
   refine iA (λh=>absurd h lp) (λ_=>?_)
   conv=>whnf
   refine cP Gf ?_;refine ay.mono (post:=λav L=>av = .d (.bool (dx p rd))/\L=[]) (wD (p.at (rd,ag)) hv.fit hn rd ⟨oM,oM⟩) ?_;rintro _ _ ⟨rfl,rfl⟩
   cases WN:dx p rd with
   | false =>
     refine rdv ?_;exact ⟨rfl,by rw [qm nA bR iO (r8 WN)];rfl⟩
   | true =>
     refine rdv ?_;repeat' (apply tw<;>intro _)
     ·have k1:rd<1099511627776:=aM;have k2:ag≥5:=aM;have hg:=ym (x:=(rd,ag)) WN k1 k2
      try
       refine eU (oM:-9223372036854775808<=rd+1/\rd+1<9223372036854775808) ?_;refine rdv ?_;repeat' (apply tw<;>intro _)
      have hm:=JS (x:=(rd,ag)) hx.1 iO hg;refine cV [0,2] ?_
      conv=>whnf
      exact ⟨((rd+1,0),r),rfl,rfl,⟨rfl,⟨by show 1<=rd+1;omega,by show rd+1<=_;omega⟩,Tt,wL nA hx.1 bR iO hg⟩,hm⟩
     ·have k1:rd<1099511627776:=aM;have k2:¬ag≥5:=aM;refine ay.mono (post:=λav L=>av = .d (.bool (nh (p.at (rd,ag))))/\L=[]) (GC (p.at (rd,ag)) hv ⟨OJ.1,OJ.2⟩) ?_;rintro _ _ ⟨rfl,rfl⟩
      cases WM:nh (p.at (rd,ag)) with
      | false =>
        refine rdv ?_;exact ⟨rfl,by rw [qm nA bR iO (r_ (x:=(rd,ag)) k2 WM)];rfl⟩
      | true =>
        refine rdv ?_;have hg:=pc (x:=(rd,ag)) WN k1 WM
        try
         refine eU (oM:-9223372036854775808<=rd+1/\rd+1<9223372036854775808) ?_;refine rdv ?_
        have hm:=JS (x:=(rd,ag)) hx.1 iO hg;refine cV [0,2] ?_
        conv=>whnf
        exact ⟨((rd+1,0),r),rfl,rfl,⟨rfl,⟨by show 1<=rd+1;omega,by show rd+1<=_;omega⟩,Tt,wL nA hx.1 bR iO hg⟩,hm⟩
     ·have k1:¬rd<1099511627776:=aM;exact ⟨rfl,by rw [qm nA bR iO (r9 (x:=(rd,ag)) k1)];rfl⟩
 ·intro pass
  conv=>whnf
  refine ay.mono (post:=λav L=>av = .k (jR p.aq.aa)/\L=[]) h1 ?_;rintro _ _ ⟨rfl,rfl⟩;refine rdv ?_;refine fq (σ:=Unit) (λ_=>agd p out ((p.round,p.iq),jR p.aq.aa)) (λ_=>True) [0,2] ?_ ?_
  ·conv=>whnf
   exact ⟨(),rfl,rfl,trivial⟩
  ·intro _ _;exact pass 0 _ rfl ((p.round,p.iq),jR p.aq.aa) ⟨rfl,hr,⟨by show -1<=jR _;omega,QL.2⟩,rfl⟩
end Go.Proofs.YtolkmjfkkkiboaaGreat
namespace Go.Proofs.YtolkmjfkkkiboaaGreat
open Go.Ab Go.RowKit Go.MapKept Tryz
attribute [local irreducible] ay AW cw eA eo bL
attribute [local irreducible] CH
def OZ:Nat->Go.Code->List Go.Code
 | k+1,.seq x y=>x :: OZ k y
 | _,_=>[]
def O0:Nat->Go.Code->Go.Code
 | k+1,.seq x y=>O0 k y
 | _,c=>c
theorem B4:∀ (k:Nat) (c:Go.Code),c=XN (OZ k c) (O0 k c)
 | 0,c=>by cases c<;>rfl
 | k+1,c=>by
   cases c with
   | seq x y=>exact lM (Go.Code.seq x) (B4 k y)
   | _=>rfl
def qD (p:Prim):Prim:={ p with iq:=min (p.iq+1) 1099511627776 }
def gv (p:Prim):Prim:=wK (qD p)
theorem za (l:List Cert):zA 152 [.d (.sl 6 (ah l))] [] (pQ (.fn 186 [.ptr 0 0]) [.cells [.d (.sl 6 (ah l))]]):=by
 refine Qa func152 ntmps152 ?_;exact ⟨rfl,rfl⟩
theorem Ev {x y:AV} {m n:Nat} (F:AF) (h1:bt F m=x) (h2:bt F n=y) (s:Nat):bt [(m,x),(n,y)] s=bt F s∨bt [(m,x),(n,y)] s = .d .any:=by
 simp only [b_,du]
 cases hb:Nat.beq m s with
 | true=>left;rw [<-ie hb,h1];rfl
 | false =>
   cases iR:Nat.beq n s with
   | true=>left;rw [<-ie iR,h2];rfl
   | false=>right;rfl
theorem JT {x y:AV} {m n:Nat} (s:Nat):(s=m/\bt [(m,x),(n,y)] s=x)∨(s=n/\bt [(m,x),(n,y)] s=y)∨bt [(m,x),(n,y)] s = .d .any:=by
 simp only [b_,du]
 cases hb:Nat.beq m s with
 | true=>left;exact ⟨(ie hb).symm,rfl⟩
 | false =>
   cases iR:Nat.beq n s with
   | true=>right;left;exact ⟨(ie iR).symm,rfl⟩
   | false=>right;right;rfl
def gM:List AV:=[.k 0,.k 0,.k 0,.k 0,.k 0,.k 0,.k 0,.d .nils,.d .nils,.k 0,.d .nils,.d .nils,.k 0,.k 0,.d .nils,.d .nils]
def bF:AF:=[(4,.ptr 5 0),(2,.ptr 1 0)]
end Go.Proofs.YtolkmjfkkkiboaaGreat
namespace Go.Proofs.YtolkmjfkkkiboaaGreat
open Go.Ab Go.RowKit Go.MapKept Tryz
attribute [local irreducible] ay AW cw eA eo bL
end Go.Proofs.YtolkmjfkkkiboaaGreat
namespace Go.Proofs.YtolkmjfkkkiboaaGreat
open Go.Ab Go.RowKit Go.MapKept Tryz
attribute [local irreducible] ay AW cw eA eo bL
attribute [local irreducible] CH
def fm (q:Prim):aW:=⟨4,0,0,q.dD,0,0,[],q.aK,kb,[]⟩
def ou (q:Prim):Option Cert:=q.aq.aa.reverse.find? λc=>c.af == q.id
def qE (q:Prim):List aW:=if q.dD>0 then cM q (fm q) q.aL q.nodes.toNat else []
def gN (q:Prim):List aW:=match ou q with|some c=>cM q (cn c) [] q.nodes.toNat|none=>[]
def gw (q:Prim):List aW:=if q.iq=0∨q.iq % 3≠0 then [] else qE q++gN q
structure O1 (p:Prim):Prop where
 valid:Valid p.aq
 fl:jA p.nodes=true
 same:p.aq.nodes=p.nodes
 round:1<=p.round/\p.round<=1099511627776
 iq:0<=p.iq/\p.iq<=1099511627776
 aJ:p.aK.aJ
 aL:aU p.aL
theorem zb {q:Prim} {xs:List (Fin q.aq.aa.length)} (hd:lR xs) (hl:xs.length=q.aq.aa.length) (hG:∀ y∈xs,q.aq.aa[y].af≠q.id):ou q=none:=by
 unfold ou;rw [ZH];intro c hc;rw [zfM] at hc;obtain ⟨k,hk,rfl⟩:=List.getElem_of_mem hc;have hm:k∈xs.map (·.val):=by
  rw [hd,hl];exact px.2 ⟨q.aq.aa.length - 1 - k,by simp;omega,oM⟩
 obtain ⟨y,hy,hyk⟩:=px.1 hm;have:=hG y hy;subst hyk;simpa using this
theorem ze {q:Prim} {pre:List (Fin q.aq.aa.length)} {x:Fin q.aq.aa.length} (hd:lR (pre++[x])) (hG:∀ y∈pre,q.aq.aa[y].af≠q.id) (hx:q.aq.aa[x].af=q.id):ou q=some q.aq.aa[x]:=by
 have bK:∀ k (hk:k<(pre++[x]).length),(pre++[x])[k].val=q.aq.aa.length - 1 - k:=by
  intro k hk;have:=lM (λl=>l[k]?) hd;simp only [CD,ff hk,WB,zdZ hk] at this;exact Hl this
 have hxv:x.val=q.aq.aa.length - 1 - pre.length:=by
  have:=bK pre.length (by simp);simpa using this
 have xw:=x.isLt;have fT:pre.length<q.aq.aa.length:=by
  have hm:((pre++[x]).map (·.val)).length=pre.length+1:=by simp
  rcases qZ pre.length q.aq.aa.length with h|h
  ·exact h
  ·exfalso;have h0:=bK 0 (by simp);have h1:=bK (q.aq.aa.length) (by simp;omega);have h2:=bK (q.aq.aa.length - 1) (by simp;omega);have e:(pre++[x])[q.aq.aa.length - 1]'(by simp;omega)∈pre:=by
    rw [List.getElem_append_left oM];exact zeM _
   have h3:=hG _ e;have hx0:x.val=0:=oM;have:(pre++[x])[q.aq.aa.length - 1]'(by simp;omega)=x:=Fin.ext oM;rw [this] at h3;exact h3 hx
 unfold ou;rw [List.find?_eq_some_iff_getElem];refine ⟨by simpa using hx,pre.length,by rw [List.length_reverse];exact fT,?_,?_⟩
 ·rw [List.getElem_reverse];show q.aq.aa[_]=q.aq.aa[x.val];congr 1;omega
 ·intro k hk;rw [List.getElem_reverse];have e:(pre++[x])[k]'(by simp;omega)∈pre:=by
   rw [List.getElem_append_left hk];exact zeM _
  have h3:=hG _ e;have h4:=bK k (by simp;omega);have h5:q.aq.aa[(pre++[x])[k]'(by simp;omega)]=q.aq.aa[q.aq.aa.length - 1 - k]' oM:=by
   show q.aq.aa[((pre++[x])[k]'(by simp;omega)).val]=_;congr 1
  rw [h5] at h3;simpa using h3
theorem yn (p:Prim):∀ (n:Nat) (x:Int×Int) (r:Int),1<=x.1/\x.1<=1099511627776->r<=1099511627776->0<=x.2/\x.2<=1099511627776->x.1<=(xf p n x r).1/\(xf p n x r).1<=1099511627776/\0<=(xf p n x r).2/\(xf p n x r).2<=1099511627776
 | 0,x,r,h1,h2,h3=>⟨G8 _,h1.2,h3⟩
 | n+1,x,r,h1,h2,h3=>by
   have hl:x.1<=(lift p x r).1/\(lift p x r).1<=1099511627776/\0<=(lift p x r).2/\(lift p x r).2<=1099511627776:=by
    unfold lift;split
    ·exact ⟨by show x.1<=r;omega,h2,by show (0:Int)<=0;omega,by show (0:Int)<=_;omega⟩
    ·exact ⟨G8 _,h1.2,h3⟩
   unfold xf;split
   ·exact yn p n x (r - 1) h1 oM h3
   ·split
    ·rename_i hg;have h4:=ot hg;have h5:=yn p n ((lift p x r).1+1,0) r ⟨by show 1<=(lift p x r).1+1;omega,by show (lift p x r).1+1<=_;omega⟩ h2 ⟨by show (0:Int)<=0;omega,by show (0:Int)<=_;omega⟩;have h6:(lift p x r).1+1<=(xf p n ((lift p x r).1+1,0) r).1:=h5.1;exact ⟨oM,h5.2⟩
    ·exact hl
theorem Ew {p:Prim} (hv:Valid p.aq) (h1:1<=p.round/\p.round<=1099511627776) (h3:0<=p.iq/\p.iq<=1099511627776):p.round<=(wK p).round/\(wK p).round<=1099511627776/\0<=(wK p).iq/\(wK p).iq<=1099511627776 :=
 yn p _ (p.round,p.iq) _ h1 (GG hv).2 h3
def cL (p q:Prim) (o:List aW) (j:Bool):List AB:=if j then [.cells (p.cs.map AV.d),.cells gM,.row 49 18 [] false,.dead,.cells (q.cs.map AV.d++[.arr 6]),.cells [.ptr 4 0],.row 49 18 (bZ o) false]
 else [.cells (p.cs.map AV.d),.cells gM,.row 49 18 [] false,.row 49 18 (bZ o) false,.cells (q.cs.map AV.d++[.arr 3]),.cells [.ptr 4 0]]
def cX (p q:Prim) (c:Cert) (o:List aW) (j0 j:Bool):List AB:=match j0,j with
 | false,true=>[.cells (p.cs.map AV.d),.cells gM,.row 49 18 [] false,.dead,.cells (q.cs.map AV.d++[.arr 7]),.cells [.ptr 4 0],.cells (c.cs.map AV.d),.row 49 18 (bZ o) false]
 | false,false=>[.cells (p.cs.map AV.d),.cells gM,.row 49 18 [] false,.row 49 18 (bZ o) false,.cells (q.cs.map AV.d++[.arr 3]),.cells [.ptr 4 0],.cells (c.cs.map AV.d)]
 | true,true=>[.cells (p.cs.map AV.d),.cells gM,.row 49 18 [] false,.dead,.cells (q.cs.map AV.d++[.arr 8]),.cells [.ptr 4 0],.dead,.cells (c.cs.map AV.d),.row 49 18 (bZ o) false]
 | true,false=>[.cells (p.cs.map AV.d),.cells gM,.row 49 18 [] false,.dead,.cells (q.cs.map AV.d++[.arr 6]),.cells [.ptr 4 0],.row 49 18 (bZ o) false,.cells (c.cs.map AV.d)]
theorem QM (p:Prim) (h:O1 p):zA 98 [p.av] [] (pQ (.tup [(gv p).av,.d (.sl 18 (bZ (gw (gv p))))]) []):=by
 have CJ:=h.iq;have nA:=agf (qD p) [] h.valid h.fl h.round;have hqt:(wK (qD p)).aK.aJ:=h.aJ;have hqa:aU (wK (qD p)).aL:=h.aL;have hqv:Valid (wK (qD p)).aq:=h.valid;have Ta:jA (wK (qD p)).nodes=true:=h.fl;have hqr:=Ew (p:=qD p) h.valid h.round ⟨by show 0<=min (p.iq+1) 1099511627776;omega,by show min (p.iq+1) 1099511627776<=_;omega⟩;obtain ⟨q,hq⟩:∃ q,wK (qD p)=q:=⟨_,rfl⟩;rw [hq] at hqr;rw [hq] at nA hqt hqa hqv Ta;rw [show gv p=q from hq];have kx:=gQ Ta;have MF:=wu q ⟨oM,oM⟩ [] dC (fm q) hqt fJ q.aL hqa;rw [tC] at MF;refine vU aF func98 rfl ntmps98 rfl false rfl ?_;intro c a hc dS TZ hs;rw [B4 6 (Go.Code.seq _ _)];refine F7 (K:=λF L=>bt F 4 = .ptr 5 0/\bt F 2 = .ptr 1 0/\∃ j,L=cL p q (qE q) j/\¬(q.iq=0∨q.iq % 3≠0)) aF bf aG hc dS TZ ?_ (λE' F' L' a' w' hr bP=>⟨.inl rfl,E',F',L',hr,.inl bP⟩) _ ?_ hs
 ·rintro E' F' L' a' w' ⟨k1,k2,j,rfl,agh⟩ bP;have ho1:(qE q).length<=16:=by
   unfold qE;split
   ·exact fS (ej ..) oM
   ·simp
  obtain ⟨o,ho⟩:∃ o,qE q=o:=⟨_,rfl⟩;have hS:gw q=o++gN q:=by rw [gw,aR agh,ho]
  rw [ho] at bP ho1;rw [hS]
  cases j
  ·have ui:eE c E' bF (cL p q o false) a' w':=bP.vg (Ev F' k1 k2);show (Go.Code.seq (Go.Code.seq _ _) _).wpIn _ _ _ _ _ _;refine wpIn_seq (wpIn_seq (wpIn_mono (wpIn_wide.2 (T1 (bH aF bf aG (Q:=λe F L=>e = .normal/\bt F 4 = .ptr 5 0/\bt F 2 = .ptr 1 0/\bt F 76 = .fn 186 [.ptr 6 0]/\L=cL p q o false++[.cells [.d (.sl 6 (ah q.aq.aa))]]) ?h8) hc dS TZ ui)) ?_))
   case h8 =>
    refine rdv ?_;refine (za q.aq.aa).mono ?_;rintro _ _ ⟨rfl,rfl⟩
    conv=>whnf
    exact ⟨rfl,rfl,rfl,rfl,rfl⟩
   rintro e a8 w8 ⟨E8,F8,L8,MG,rfl,j1,j2,j3,rfl⟩;have MH:=MG.dL 76;rw [j3] at MH;simp only [VR,cD] at MH;obtain ⟨us,yD,u0,r0,acZ,⟨Bs,⟨ab6,_,_,hE6⟩,rfl⟩,rfl⟩:=MH;have ac0:us = #[.pointer (some ⟨Bs,0,none⟩)]:=by rw [<-uX (xs:=us),acZ]
   rw [ac0] at yD;have He:c.L0.length<=(cL p q o false).length:=by rw [TZ];exact br _
   obtain ⟨E9,h9,hl,pp,cap,b,off,el,ga,gT,C0,P_⟩:=D6 hc MG.h rfl He rfl hE6;have YQ:eE c E9 bF (cL p q o false) a8 w8:=⟨h9,λs=>by
    rcases JT (x := .ptr 5 0) (y := .ptr 1 0) (m:=4) (n:=2) s with ⟨rfl,e⟩|⟨rfl,e⟩|e
    ·show VR _ (bt [(4,.ptr 5 0),(2,.ptr 1 0)] 4) _;rw [e];exact jJ hl (.ptr 5 0) (.ptr 5 0) rfl _ (by have:=MG.dL 4;rw [j1] at this;exact this)
    ·show VR _ (bt [(4,.ptr 5 0),(2,.ptr 1 0)] 2) _;rw [e];exact jJ hl (.ptr 1 0) (.ptr 1 0) rfl _ (by have:=MG.dL 2;rw [j2] at this;exact this)
    ·show VR _ (bt [(4,.ptr 5 0),(2,.ptr 1 0)] s) _;rw [e];simp only [VR,VD],MG.nt,MG.df⟩
   have hlen:(ah q.aq.aa).length<=1000000:=by rw [ak];have:=hqv.len;omega
   have T3:=qC (aj c.M0 E9 (cL p q o false) w8) Bs pp b off (ah q.aq.aa).length cap C0 gT hlen el (λk=>(P_ k).1) w8 (λx u hsx hx=>(f_ hx hsx).1) ga (λk j v hv=>(P_ k).2.2 j v hv);have ov:=ak q.aq.aa;obtain ⟨pd,Vk,wM⟩:∃ pd:Fin (ah q.aq.aa).length->Cert,(∀ x:Fin (ah q.aq.aa).length,(ah q.aq.aa)[x]=(pd x).cs/\pd x∈q.aq.aa)/\∀ x:Fin (ah q.aq.aa).length,q.aq.aa[(x.cast ov)]=pd x :=
    ⟨λx=>q.aq.aa[x.val]'(by have:=x.isLt;omega),λx=>⟨zfN ..,zeM ..⟩,λx=>rfl⟩
   refine wpIn_block (wpIn_mono (D7 hc YQ rfl He (g := .tmp 76) (lb := #[.pointer (some ⟨Bs,0,none⟩)]) yD (enters_of func186 kR rfl) T3 (λ_=>rfl)
    (λx=>(78,.agg ((pd x).cs.map AV.d)) :: (77,.k (x.val:Nat)) :: bF)
    (λx=>cu (cu ((78,.agg ((pd x).cs.map AV.d)) :: (77,.k (x.val:Nat)) :: bF) (some 6) (.ptr 6 0)) none (.d .any))
    (λx=>cL p q o false++[.cells ((pd x).cs.map AV.d)]) (λx=>(pd x).af≠q.id) ?hpar (λx=>rfl) (λx=>rfl) ?hA (λx id L=>id=0/\(pd x).af=q.id/\∃ j,L=cX p q (pd x) (o++cM q (cn (pd x)) [] q.nodes.toNat) false j) ?hB) ?_)
   case hpar =>
    intro x R hle s;have da:a8.tmps.size=100:=YQ.nt.trans dS;have Vl:((#[77,78].zip #[Value.j (x.val:Nat),Value.agg (el x).toArray]).foldl (λt (p,v)=>t.setIfInBounds p v) a8.tmps)=(a8.tmps.setIfInBounds 77 (.j (x.val:Nat))).setIfInBounds 78 (.agg (el x).toArray):=by simp [Array.zip,Array.zipWith,Array.zipWithMAux]
    show VR R _ (Array.getD ((#[77,78].zip #[Value.j (x.val:Nat),Value.agg (el x).toArray]).foldl (λt (p,v)=>t.setIfInBounds p v) a8.tmps) s undef);rw [Vl];by_cases h78:s=78
    ·subst h78;rw [show bt ((78,AV.agg ((pd x).cs.map AV.d)) :: (77,.k (x.val:Nat)) :: bF) 78=AV.agg ((pd x).cs.map AV.d) from rfl,
      show Array.getD ((a8.tmps.setIfInBounds 77 (.j (x.val:Nat))).setIfInBounds 78 (.agg (el x).toArray)) 78 undef = .agg (el x).toArray by simp [Array.getD,da]]
     simp only [VR];refine ⟨_,rfl,?_⟩;have:=(P_ x).2.1;rw [(Vk x).1] at this;exact tD.2 (cR.mono hle.rd this)
    ·by_cases h77:s=77
     ·subst h77;rw [show bt ((78,AV.agg ((pd x).cs.map AV.d)) :: (77,.k (x.val:Nat)) :: bF) 77 = .k (x.val:Nat) from rfl,
       show Array.getD ((a8.tmps.setIfInBounds 77 (.j (x.val:Nat))).setIfInBounds 78 (.agg (el x).toArray)) 77 undef = .j (x.val:Nat) by simp [Array.getD,da]]
      simp only [VR,VD]
     ·have e1:bt ((78,AV.agg ((pd x).cs.map AV.d)) :: (77,.k (x.val:Nat)) :: bF) s=bt bF s:=by
       simp only [b_];rw [show Nat.beq 78 s=false from zfI.2 λh=>h78 (ie h).symm,show Nat.beq 77 s=false from zfI.2 λh=>h77 (ie h).symm];rfl
      have e2:Array.getD ((a8.tmps.setIfInBounds 77 (.j (x.val:Nat))).setIfInBounds 78 (.agg (el x).toArray)) s undef=a8.tmps.getD s undef:=by
       simp only [zc7];rw [zcQ oM,zcQ oM]
      rw [e1,e2];exact VR.mono hle _ _ (YQ.dL s)
   case hA =>
    intro l x;rw [dS];refine qb aF bf aG rfl ?_;refine rdv ?_;exact ⟨rfl,rfl,rfl⟩
   case hB =>
    intro l x;rw [dS];refine D5 (vS (II aF bf aG cB rfl Ow kR ?_));refine rdv ?_;refine IJ ?_;refine rdv ?_;repeat' (apply tw<;>intro _)
    ·have Eo:(pd x).af=q.id:=aM;refine vS ?_;refine qb aF bf aG rfl ?_;refine rdv ?_;have kx:=gQ Ta;have Ml:(pd x).aJ:=dG hqv.nodes (hqv.aa _ (Vk x).2);have BX:=wu q ⟨oM,oM⟩ o oM (cn (pd x)) fJ Ml [] fc;refine (bz BX (.cons (.refl _) (.cons (.agg ?_) (.cons (.refl _) .nil)))).mono ?_
     ·repeat (first|exact .nil|refine .cons (.refl _) ?_|refine .cons (.nils _ dC) ?_)
     ·rintro _ _ ⟨rfl,j,rfl⟩
      cases j
      ·refine rdv ?_;refine ⟨rfl,vT ?_⟩;exact .inr (.inl ⟨0,rfl,dC,rfl,.inr ⟨0,rfl,rfl,Eo,false,rfl⟩⟩)
      ·refine rdv ?_;refine ⟨rfl,vT ?_⟩;exact .inr (.inl ⟨0,rfl,dC,rfl,.inr ⟨0,rfl,rfl,Eo,true,rfl⟩⟩)
    ·have Eo:(pd x).af≠q.id:=aM;refine IK ?_;exact .inl ⟨rfl,rfl,.inl ⟨rfl,Eo,rfl⟩⟩
   rintro e a9 w9 ⟨D,rfl,hD,hK,oC⟩;have hsh:∃ E3 L3,eE c E3 bF L3 a8 w9/\jb L3=true/\((L3=cL p q o false/\gN q=[])∨∃ cc j,L3=cX p q cc (o++gN q) false j):=by
    rcases oC with ⟨rfl,⟨E3,h1,_⟩,xs,⟨hd,kj⟩,hG⟩|⟨id,x,pre,rfl,hd,hG,E3,L3,h1,_,h2,_,h3,h4⟩
    ·refine ⟨E3,_,h1,rfl,.inl ⟨rfl,?_⟩⟩;have:=zb (q:=q) (xs:=xs.map (Fin.cast ov)) (by
      unfold lR at hd ⊢;rw [List.map_map,tg];rw [show ((λx:Fin q.aq.aa.length=>x.val) ∘ Fin.cast ov)=λx:Fin (ah q.aq.aa).length=>x.val from rfl,hd];exact ze8 λi _=>oM) (by rw [tg,kj,ov]) (λy hy=>by
      obtain ⟨z,hz,rfl⟩:=px.1 hy;rw [wM z];exact hG z hz)
     rw [gN,this]
    ·obtain ⟨j,rfl⟩:=h4;have:=ze (q:=q) (pre:=pre.map (Fin.cast ov)) (x:=x.cast ov) (by
      unfold lR at hd ⊢;rw [show pre.map (Fin.cast ov)++[x.cast ov]=(pre++[x]).map (Fin.cast ov) by simp,List.map_map,tg];rw [show ((λx:Fin q.aq.aa.length=>x.val) ∘ Fin.cast ov)=λx:Fin (ah q.aq.aa).length=>x.val from rfl,hd];exact ze8 λi _=>oM) (λy hy=>by
      obtain ⟨z,hz,rfl⟩:=px.1 hy;rw [wM z];exact hG z hz) (by rw [wM x];exact h3)
     rw [wM x] at this;exact ⟨E3,_,h1,h2,.inr ⟨pd x,j,by rw [gN,this]⟩⟩
   have he:e = .normal∨e = .exit 0:=by
    rcases oC with ⟨rfl,_⟩|⟨id,x,pre,rfl,_,_,E3,L3,_,_,_,rfl,_⟩
    ·exact .inl rfl
    ·exact .inr rfl
   obtain ⟨E3,L3,h3,ac1,AK⟩:=hsh;have fD:=vR h3.h;rw [MG.df];rcases he with rfl|rfl
   all_goals
    show (Go.Code.seq (Go.Code.region _ _ true) Go.Code.ret).wpIn Fence.wide 5 _ _ { a8 with defers:=[{ target := .collected D,args := #[] }] } w9;refine Od aF bf aG cB (n:=100) rfl Ox kR (K:=λF L=>xL tt false 0 [ResultVar.cell 2 30,ResultVar.tmp 3] (pQ (.tup [q.av,.d (.sl 18 (bZ (o++gN q)))]) []) .ret F L/\jb L=true) (F:=bF) (L:=L3) ?_ (z6 hc h3.h) dS ⟨fD.1,λs=>VR.mono fD.2 _ _ (h3.dL s),h3.nt,h3.df⟩ [{ target := .collected D,args := #[] }] ?_
    ·rcases AK with ⟨rfl,iR⟩|⟨cc,j,rfl⟩
     ·rw [iR,gR];refine rdv ?_;exact ⟨⟨rfl,rfl⟩,rfl⟩
     ·cases j
      ·refine rdv ?_;exact ⟨⟨rfl,rfl⟩,rfl⟩
      ·refine rdv ?_;exact ⟨⟨rfl,rfl⟩,rfl⟩
    ·exact λE4 F4 L4 a4 w4 hr h4=>⟨.inl rfl,E4,F4,L4,hr.1,.inr ⟨D,rfl,(h4.h.gS D ⟨(ud.1 hK).1,nL h3.h ac1 hK rfl⟩).trans hK,fS YQ.h.size hD,⟨(oX hc h3.h h4.h).1,λs=>VR.mono (oX hc h3.h h4.h).2.2 _ _ (h4.dL s),h4.nt,rfl⟩,hr.2⟩⟩
  ·have ui:eE c E' bF (cL p q o true) a' w':=bP.vg (Ev F' k1 k2);show (Go.Code.seq (Go.Code.seq _ _) _).wpIn _ _ _ _ _ _;refine wpIn_seq (wpIn_seq (wpIn_mono (wpIn_wide.2 (T1 (bH aF bf aG (Q:=λe F L=>e = .normal/\bt F 4 = .ptr 5 0/\bt F 2 = .ptr 1 0/\bt F 76 = .fn 186 [.ptr 7 0]/\L=cL p q o true++[.cells [.d (.sl 6 (ah q.aq.aa))]]) ?h8) hc dS TZ ui)) ?_))
   case h8 =>
    refine rdv ?_;refine (za q.aq.aa).mono ?_;rintro _ _ ⟨rfl,rfl⟩
    conv=>whnf
    exact ⟨rfl,rfl,rfl,rfl,rfl⟩
   rintro e a8 w8 ⟨E8,F8,L8,MG,rfl,j1,j2,j3,rfl⟩;have MH:=MG.dL 76;rw [j3] at MH;simp only [VR,cD] at MH;obtain ⟨us,yD,u0,r0,acZ,⟨Bs,⟨ab6,_,_,hE6⟩,rfl⟩,rfl⟩:=MH;have ac0:us = #[.pointer (some ⟨Bs,0,none⟩)]:=by rw [<-uX (xs:=us),acZ]
   rw [ac0] at yD;have He:c.L0.length<=(cL p q o true).length:=by rw [TZ];exact br _
   obtain ⟨E9,h9,hl,pp,cap,b,off,el,ga,gT,C0,P_⟩:=D6 hc MG.h rfl He rfl hE6;have YQ:eE c E9 bF (cL p q o true) a8 w8:=⟨h9,λs=>by
    rcases JT (x := .ptr 5 0) (y := .ptr 1 0) (m:=4) (n:=2) s with ⟨rfl,e⟩|⟨rfl,e⟩|e
    ·show VR _ (bt [(4,.ptr 5 0),(2,.ptr 1 0)] 4) _;rw [e];exact jJ hl (.ptr 5 0) (.ptr 5 0) rfl _ (by have:=MG.dL 4;rw [j1] at this;exact this)
    ·show VR _ (bt [(4,.ptr 5 0),(2,.ptr 1 0)] 2) _;rw [e];exact jJ hl (.ptr 1 0) (.ptr 1 0) rfl _ (by have:=MG.dL 2;rw [j2] at this;exact this)
    ·show VR _ (bt [(4,.ptr 5 0),(2,.ptr 1 0)] s) _;rw [e];simp only [VR,VD],MG.nt,MG.df⟩
   have hlen:(ah q.aq.aa).length<=1000000:=by rw [ak];have:=hqv.len;omega
   have T3:=qC (aj c.M0 E9 (cL p q o true) w8) Bs pp b off (ah q.aq.aa).length cap C0 gT hlen el (λk=>(P_ k).1) w8 (λx u hsx hx=>(f_ hx hsx).1) ga (λk j v hv=>(P_ k).2.2 j v hv);have ov:=ak q.aq.aa;obtain ⟨pd,Vk,wM⟩:∃ pd:Fin (ah q.aq.aa).length->Cert,(∀ x:Fin (ah q.aq.aa).length,(ah q.aq.aa)[x]=(pd x).cs/\pd x∈q.aq.aa)/\∀ x:Fin (ah q.aq.aa).length,q.aq.aa[(x.cast ov)]=pd x :=
    ⟨λx=>q.aq.aa[x.val]'(by have:=x.isLt;omega),λx=>⟨zfN ..,zeM ..⟩,λx=>rfl⟩
   refine wpIn_block (wpIn_mono (D7 hc YQ rfl He (g := .tmp 76) (lb := #[.pointer (some ⟨Bs,0,none⟩)]) yD (enters_of func186 kR rfl) T3 (λ_=>rfl)
    (λx=>(78,.agg ((pd x).cs.map AV.d)) :: (77,.k (x.val:Nat)) :: bF)
    (λx=>cu (cu ((78,.agg ((pd x).cs.map AV.d)) :: (77,.k (x.val:Nat)) :: bF) (some 6) (.ptr 7 0)) none (.d .any))
    (λx=>cL p q o true++[.cells ((pd x).cs.map AV.d)]) (λx=>(pd x).af≠q.id) ?hpar (λx=>rfl) (λx=>rfl) ?hA (λx id L=>id=0/\(pd x).af=q.id/\∃ j,L=cX p q (pd x) (o++cM q (cn (pd x)) [] q.nodes.toNat) true j) ?hB) ?_)
   case hpar =>
    intro x R hle s;have da:a8.tmps.size=100:=YQ.nt.trans dS;have Vl:((#[77,78].zip #[Value.j (x.val:Nat),Value.agg (el x).toArray]).foldl (λt (p,v)=>t.setIfInBounds p v) a8.tmps)=(a8.tmps.setIfInBounds 77 (.j (x.val:Nat))).setIfInBounds 78 (.agg (el x).toArray):=by simp [Array.zip,Array.zipWith,Array.zipWithMAux]
    show VR R _ (Array.getD ((#[77,78].zip #[Value.j (x.val:Nat),Value.agg (el x).toArray]).foldl (λt (p,v)=>t.setIfInBounds p v) a8.tmps) s undef);rw [Vl];by_cases h78:s=78
    ·subst h78;rw [show bt ((78,AV.agg ((pd x).cs.map AV.d)) :: (77,.k (x.val:Nat)) :: bF) 78=AV.agg ((pd x).cs.map AV.d) from rfl,
      show Array.getD ((a8.tmps.setIfInBounds 77 (.j (x.val:Nat))).setIfInBounds 78 (.agg (el x).toArray)) 78 undef = .agg (el x).toArray by simp [Array.getD,da]]
     simp only [VR];refine ⟨_,rfl,?_⟩;have:=(P_ x).2.1;rw [(Vk x).1] at this;exact tD.2 (cR.mono hle.rd this)
    ·by_cases h77:s=77
     ·subst h77;rw [show bt ((78,AV.agg ((pd x).cs.map AV.d)) :: (77,.k (x.val:Nat)) :: bF) 77 = .k (x.val:Nat) from rfl,
       show Array.getD ((a8.tmps.setIfInBounds 77 (.j (x.val:Nat))).setIfInBounds 78 (.agg (el x).toArray)) 77 undef = .j (x.val:Nat) by simp [Array.getD,da]]
      simp only [VR,VD]
     ·have e1:bt ((78,AV.agg ((pd x).cs.map AV.d)) :: (77,.k (x.val:Nat)) :: bF) s=bt bF s:=by
       simp only [b_];rw [show Nat.beq 78 s=false from zfI.2 λh=>h78 (ie h).symm,show Nat.beq 77 s=false from zfI.2 λh=>h77 (ie h).symm];rfl
      have e2:Array.getD ((a8.tmps.setIfInBounds 77 (.j (x.val:Nat))).setIfInBounds 78 (.agg (el x).toArray)) s undef=a8.tmps.getD s undef:=by
       simp only [zc7];rw [zcQ oM,zcQ oM]
      rw [e1,e2];exact VR.mono hle _ _ (YQ.dL s)
   case hA =>
    intro l x;rw [dS];refine qb aF bf aG rfl ?_;refine rdv ?_;exact ⟨rfl,rfl,rfl⟩
   case hB =>
    intro l x;rw [dS];refine D5 (vS (II aF bf aG cB rfl Ow kR ?_));refine rdv ?_;refine IJ ?_;refine rdv ?_;repeat' (apply tw<;>intro _)
    ·have Eo:(pd x).af=q.id:=aM;refine vS ?_;refine qb aF bf aG rfl ?_;refine rdv ?_;have kx:=gQ Ta;have Ml:(pd x).aJ:=dG hqv.nodes (hqv.aa _ (Vk x).2);have BX:=wu q ⟨oM,oM⟩ o oM (cn (pd x)) fJ Ml [] fc;refine (bz BX (.cons (.refl _) (.cons (.agg ?_) (.cons (.refl _) .nil)))).mono ?_
     ·repeat (first|exact .nil|refine .cons (.refl _) ?_|refine .cons (.nils _ dC) ?_)
     ·rintro _ _ ⟨rfl,j,rfl⟩
      cases j
      ·refine rdv ?_;refine ⟨rfl,vT ?_⟩;exact .inr (.inl ⟨0,rfl,dC,rfl,.inr ⟨0,rfl,rfl,Eo,false,rfl⟩⟩)
      ·refine rdv ?_;refine ⟨rfl,vT ?_⟩;exact .inr (.inl ⟨0,rfl,dC,rfl,.inr ⟨0,rfl,rfl,Eo,true,rfl⟩⟩)
    ·have Eo:(pd x).af≠q.id:=aM;refine IK ?_;exact .inl ⟨rfl,rfl,.inl ⟨rfl,Eo,rfl⟩⟩
   rintro e a9 w9 ⟨D,rfl,hD,hK,oC⟩;have hsh:∃ E3 L3,eE c E3 bF L3 a8 w9/\jb L3=true/\((L3=cL p q o true/\gN q=[])∨∃ cc j,L3=cX p q cc (o++gN q) true j):=by
    rcases oC with ⟨rfl,⟨E3,h1,_⟩,xs,⟨hd,kj⟩,hG⟩|⟨id,x,pre,rfl,hd,hG,E3,L3,h1,_,h2,_,h3,h4⟩
    ·refine ⟨E3,_,h1,rfl,.inl ⟨rfl,?_⟩⟩;have:=zb (q:=q) (xs:=xs.map (Fin.cast ov)) (by
      unfold lR at hd ⊢;rw [List.map_map,tg];rw [show ((λx:Fin q.aq.aa.length=>x.val) ∘ Fin.cast ov)=λx:Fin (ah q.aq.aa).length=>x.val from rfl,hd];exact ze8 λi _=>oM) (by rw [tg,kj,ov]) (λy hy=>by
      obtain ⟨z,hz,rfl⟩:=px.1 hy;rw [wM z];exact hG z hz)
     rw [gN,this]
    ·obtain ⟨j,rfl⟩:=h4;have:=ze (q:=q) (pre:=pre.map (Fin.cast ov)) (x:=x.cast ov) (by
      unfold lR at hd ⊢;rw [show pre.map (Fin.cast ov)++[x.cast ov]=(pre++[x]).map (Fin.cast ov) by simp,List.map_map,tg];rw [show ((λx:Fin q.aq.aa.length=>x.val) ∘ Fin.cast ov)=λx:Fin (ah q.aq.aa).length=>x.val from rfl,hd];exact ze8 λi _=>oM) (λy hy=>by
      obtain ⟨z,hz,rfl⟩:=px.1 hy;rw [wM z];exact hG z hz) (by rw [wM x];exact h3)
     rw [wM x] at this;exact ⟨E3,_,h1,h2,.inr ⟨pd x,j,by rw [gN,this]⟩⟩
   have he:e = .normal∨e = .exit 0:=by
    rcases oC with ⟨rfl,_⟩|⟨id,x,pre,rfl,_,_,E3,L3,_,_,_,rfl,_⟩
    ·exact .inl rfl
    ·exact .inr rfl
   obtain ⟨E3,L3,h3,ac1,AK⟩:=hsh;have fD:=vR h3.h;rw [MG.df];rcases he with rfl|rfl
   all_goals
    show (Go.Code.seq (Go.Code.region _ _ true) Go.Code.ret).wpIn Fence.wide 5 _ _ { a8 with defers:=[{ target := .collected D,args := #[] }] } w9;refine Od aF bf aG cB (n:=100) rfl Ox kR (K:=λF L=>xL tt false 0 [ResultVar.cell 2 30,ResultVar.tmp 3] (pQ (.tup [q.av,.d (.sl 18 (bZ (o++gN q)))]) []) .ret F L/\jb L=true) (F:=bF) (L:=L3) ?_ (z6 hc h3.h) dS ⟨fD.1,λs=>VR.mono fD.2 _ _ (h3.dL s),h3.nt,h3.df⟩ [{ target := .collected D,args := #[] }] ?_
    ·rcases AK with ⟨rfl,iR⟩|⟨cc,j,rfl⟩
     ·rw [iR,gR];refine rdv ?_;exact ⟨⟨rfl,rfl⟩,rfl⟩
     ·cases j
      ·refine rdv ?_;exact ⟨⟨rfl,rfl⟩,rfl⟩
      ·refine rdv ?_;exact ⟨⟨rfl,rfl⟩,rfl⟩
    ·exact λE4 F4 L4 a4 w4 hr h4=>⟨.inl rfl,E4,F4,L4,hr.1,.inr ⟨D,rfl,(h4.h.gS D ⟨(ud.1 hK).1,nL h3.h ac1 hK rfl⟩).trans hK,fS YQ.h.size hD,⟨(oX hc h3.h h4.h).1,λs=>VR.mono (oX hc h3.h h4.h).2.2 _ _ (h4.dL s),h4.nt,rfl⟩,hr.2⟩⟩
 ·refine rdv ?_;refine cP acB ?_;refine ay.mono (post:=λav L=>av = .tup []/\L=q.st []) nA ?_;rintro _ _ ⟨rfl,rfl⟩;refine rdv ?_;repeat' (apply tw<;>intro _)
  ·have h0:q.iq=0:=aM;have hS:gw q=[]:=by rw [gw,bp (.inl h0)]
   refine cP Um ?_;exact ⟨by rw [hS];rfl,rfl⟩
  ·have h0:q.iq≠0:=aM;refine ⟨dC,λz hz=>?_⟩;replace hz:=jS hqr.2.2.1 hz;subst hz;refine rdv ?_;repeat' (apply tw<;>intro _)
   ·have h3:q.iq % 3≠0:=aM;have hS:gw q=[]:=by rw [gw,bp (.inr h3)]
    refine cP Um ?_;exact ⟨by rw [hS];rfl,rfl⟩
   ·have h4:q.dD>0:=aM;have h3:q.iq % 3=0:=aM;have fu:¬(q.iq=0∨q.iq % 3≠0):=λh=>h.elim (λh=>h0 h) (λh=>h h3);have eS:qE q=cM q (fm q) q.aL q.nodes.toNat:=by rw [qE,bp h4]
    rw [<-eS] at MF;refine cP acC ?_;refine (bz MF (.cons (.refl _) (.cons (.agg ?_) (.cons (.refl _) .nil)))).mono ?_
    ·repeat (first|exact .nil|refine .cons (.refl _) ?_|refine .cons (.nils _ dC) ?_)
    ·rintro _ _ ⟨rfl,j,rfl⟩
     cases j
     ·refine rdv ?_;exact ⟨rfl,rfl,false,rfl,fu⟩
     ·refine rdv ?_;exact ⟨rfl,rfl,true,rfl,fu⟩
   ·have h4:¬q.dD>0:=aM;have h3:q.iq % 3=0:=aM;have fu:¬(q.iq=0∨q.iq % 3≠0):=λh=>h.elim (λh=>h0 h) (λh=>h h3);have eS:qE q=[]:=by rw [qE,aR h4]
    exact ⟨rfl,rfl,false,by rw [eS];rfl,fu⟩
end Go.Proofs.YtolkmjfkkkiboaaGreat
namespace Go.Proofs.YtolkmjfkkkiboaaGreat
open Go.Ab Go.RowKit Go.MapKept Tryz
attribute [local irreducible] ay AW cw eA eo bL
def lone:Prim:=QA 1 1
def lS:Cert:=⟨1,1,[],[],0,[]⟩
theorem yp:Gu lone:=JH dC dC
theorem wN:lone.aq.fit:=by
 exact ⟨by show (0:Nat)<=_;decide,List.Pairwise.nil,λc h=>(by cases h),λc h=>(by cases h)⟩
theorem Ex:wE lone []=lS:=by
 simp only [wE,fY,lone,QA,lS,mW,dm,List.foldl,List.filter,List.map,dE];simp
theorem agk:zA 44 [lone.av,.d (.sl 1 [])] [] (pQ (.tup [lS.pD,.k 0]) []):=by
 have h1:=qj lone yp;have h2:=oo [] fc;have h3:=rY lone wN dC dC;have h4:=wF lone wN dC dC [] fc;rw [Ex] at h4;refine y0 func44 ntmps44 ?_;refine ay.mono (post:=λav L=>av = .d (.bool true)/\L=[]) h1 ?_;rintro _ _ ⟨rfl,rfl⟩;refine cm ?_;refine ay.mono (post:=λav L=>av = .d (.bool false)/\L=[]) h2 ?_;rintro _ _ ⟨rfl,rfl⟩;refine cm ?_;refine ay.mono (post:=λav L=>av = .d (.bool true)/\L=[]) h3 ?_;rintro _ _ ⟨rfl,rfl⟩;refine cm ?_;refine ay.mono (post:=λav L=>av=lS.pD/\L=[]) h4 ?_;rintro _ _ ⟨rfl,rfl⟩;refine cm ?_;exact ⟨rfl,rfl⟩
def Vm:a_:=⟨[[],[],[],[],[],[],[],[6],[6,7],[7,6,8],[8,6,7,9],[],[11],[],[],[14],[14,15],[15,14,16],[16,14,15,17],[17,15,14,16,18],[17,15,14,16,18,11,12,9,7,6,8,10,5,0],[0,5,10,8,6,7,9,12,11,18,16,14,15,17,20],[20,17,15,14,16,18,11,12,9,7,6,8,10,5,0,21],[21,0,5,10,8,6,7,9,12,11,18,16,14,15,17,20,22],[23,22,21,20,17,15,14,16,18,11,12,10,9,8,7,6,5,0,1],[1,0,5,6,7,8,9,10,12,11,18,16,14,15,17,20,21,22,23,24],[24,23,22,21,20,17,15,14,16,18,11,12,10,9,8,7,6,5,0,1,25],[25,1,0,5,6,7,8,9,10,12,11,18,16,14,15,17,20,21,22,23,24,26],[27,26,25,24,23,22,21,20,17,15,14,16,18,12,11,10,9,8,7,6,5,1,0,2],[2,0,1,5,6,7,8,9,10,11,12,18,16,14,15,17,20,21,22,23,24,25,26,27,28],[28,27,26,25,24,23,22,21,20,17,15,14,16,18,12,11,10,9,8,7,6,5,1,0,2,29],[29,2,0,1,5,6,7,8,9,10,11,12,18,16,14,15,17,20,21,22,23,24,25,26,27,28,30],[31,30,29,28,27,26,25,24,23,22,21,20,17,15,14,16,18,13,12,11,10,9,8,7,6,5,2,1,0,3],[3,0,1,2,5,6,7,8,9,10,11,12,13,18,16,14,15,17,20,21,22,23,24,25,26,27,28,29,30,31,32],[32,31,30,29,28,27,26,25,24,23,22,21,20,17,15,14,16,18,13,12,11,10,9,8,7,6,5,2,1,0,3,33],[33,3,0,1,2,5,6,7,8,9,10,11,12,13,18,16,14,15,17,20,21,22,23,24,25,26,27,28,29,30,31,32,34],[35,34,33,32,31,30,29,28,27,26,25,24,23,22,21,20,19,18,17,16,15,14,13,12,11,10,9,8,7,6,5,3,2,1,0,4],[4,0,1,2,3,5,6,7,8,9,10,11,12,13,14,15,16,17,18,19,20,21,22,23,24,25,26,27,28,29,30,31,32,33,34,35,36],[36,35,34,33,32,31,30,29,28,27,26,25,24,23,22,21,20,19,18,17,16,15,14,13,12,11,10,9,8,7,6,5,3,2,1,0,4,37],[37,4,0,1,2,3,5,6,7,8,9,10,11,12,13,14,15,16,17,18,19,20,21,22,23,24,25,26,27,28,29,30,31,32,33,34,35,36,38]],[0,1,2,3,4,5,6,7,8,9,10,11,13,14,15,16,17,18,19],[(12,[20,21,22]),(23,[24,25,26]),(27,[28,29,30]),(31,[32,33,34]),(35,[36,37,38]),(39,[])]⟩
def wO:Prim:={ lone with aA:=[⟨1,1,5⟩],said:=1,aK:=lS,dD:=5,aL:=[1] }
def Vn:Cert:=⟨1,1,[],[],5,[1]⟩
def JU:Prim:=⟨1,1,1,0,1,kb,0,[],[⟨1,1,5⟩],⟨1,0,[Vn]⟩,[]⟩
theorem Vo:jV wO=JU:=by rfl
def aaC:aW:=⟨4,0,0,5,0,0,[],lS,kb,[]⟩
theorem QN:cM wO aaC [] wO.nodes.toNat=[]:=by rfl
theorem MI:(if eJ wO then cM (dQ wO) (cn (dN wO)) [] wO.nodes.toNat else [])=[]:=by rfl
theorem fM {α:Type}:aJ ([]:List α):=by show 0<=_;decide
theorem Vp {α:Type} (x:α):aJ [x]:=by show 1<=_;decide
theorem sa (a b:Int):dh [] a b:=⟨List.Pairwise.nil,λx h=>(by cases h)⟩
theorem ajh:eB 1 lS:=⟨by rfl,dC,dC,⟨dC,sa 1 65536⟩,⟨dC,sa 1 65536⟩,λ_=>rfl,λh=>absurd rfl h⟩
theorem aji:bM 1 Vn:=⟨⟨by rfl,dC,dC,⟨dC,sa 1 65536⟩,⟨dC,sa 1 65536⟩,λ_=>rfl,λh=>absurd rfl h⟩,dC,⟨zeL ..,λx h=>(by have:=Hj.1 h;subst this;decide)⟩,dC⟩
theorem Vq:lS.aJ:=⟨fM,fM,fM⟩
theorem ac2:Vn.aJ:=⟨fM,fM,Vp 1⟩
theorem agl:zA 92 [lS.pD,.k 1] [] (pQ (.d (.bool true)) []):=by
 refine (wg lS ⟨fc,fc,fc⟩ 1).mono ?_;rintro _ _ ⟨rfl,rfl⟩;exact ⟨by simp [ajh],rfl⟩
theorem ajj:zA 93 [lone.av,lS.pD,.k 5] [] (pQ (.tup [JU.av,.d (.sl 1 []),.d (.sl 18 []),.k 0]) []):=by
 have h1:=rY lone wN dC dC;have h2:=wF lone wN dC dC [] fc;rw [Ex] at h2;have h3:=Jv [] [] fc;have h4:=JK ⟨1,1,5⟩;have h5:=Me lS Vq;have h6:=wu wO dC [] dC aaC Vq fJ [] fc;rw [QN] at h6;have h7:=mi wO [] dC dC (λ_=>⟨aji,ac2,⟨yp.aq,dC,λc h=>(by cases h)⟩,dC,List.Pairwise.nil⟩);rw [MI,Vo] at h7;refine dB func93 ntmps93 ?_;refine cP Ul ?_;refine ay.mono (post:=λav L=>av = .d (.bool true)/\L=[]) h1 ?_;rintro _ _ ⟨rfl,rfl⟩;refine rdv ?_;refine ay.mono (post:=λav L=>av=lS.pD/\L=[]) h2 ?_;rintro _ _ ⟨rfl,rfl⟩;refine rdv ?_;refine ay.mono (post:=λav L=>av = .d (.bool true)/\L=[]) h3 ?_;rintro _ _ ⟨rfl,rfl⟩;refine rdv ?_;refine ay.mono (post:=λav L=>av = .tup [.d (.sl 3 (ax [⟨1,1,5⟩])),.k 0]/\L=[]) h4 ?_;rintro _ _ ⟨rfl,rfl⟩;refine rdv ?_;refine ay.mono (post:=λav L=>av = .d (.sl 1 [])/\L=[]) (sR [] dC) ?_;rintro _ _ ⟨rfl,rfl⟩;refine rdv ?_
 (with_reducible refine nK aF bf aG cB Vm ?_ ?_)
 focus kernel_rfl
 refine rdv ?_;refine ay.mono (post:=λav L=>av=lS.pD/\L=[]) h5 ?_;rintro _ _ ⟨rfl,rfl⟩;refine rdv ?_;refine (bz h6 (.cons (.refl _) (.cons (.agg ?_) (.cons (.refl _) .nil)))).mono ?_
 ·repeat (first|exact .nil|refine .cons (.refl _) ?_|refine .cons (.nils _ dC) ?_)
 rintro _ _ ⟨rfl,j,rfl⟩
 cases j
 all_goals
  refine rdv ?_;refine h7.mono ?_;rintro _ _ ⟨rfl,j,rfl⟩
  cases j
  all_goals
   refine rdv ?_;refine cP Ov ?_;exact ⟨rfl,rfl⟩
theorem Vr {l:List Int} {x y:Int}:y∈kL l x↔y=x∨y∈l:=by
 unfold kL;split
 ·rename_i h;exact ⟨.inr,λh2=>h2.elim (λe=>e▸h) id⟩
 ·rw [gA,jy];constructor
  ·rintro (h|h|h)
   ·exact .inr (Fc h)
   ·exact .inl h
   ·exact .inr (G5 h)
  ·rintro (h|h)
   ·exact .inr (.inl h)
   ·rw [<-KG (jY l x) l] at h;rcases gA.1 h with h|h
    ·exact .inl h
    ·exact .inr (.inr h)
theorem B5 {x:Int}:∀ {l:List Int} {m:Nat} {y:Int},bq l->l[m]? = some y->(y<x↔m<jY l x)
 | [],m,c,_,h=>by simp at h
 | a :: t,m,c,hs,h=>by
   have bP:=Sb.1 hs;by_cases ha:a<x
   ·have hp:jY (a :: t) x=jY t x+1:=by simp [jY,ha]
    cases m with
    | zero =>
      simp only [KF,ke] at h;subst h;rw [hp];simp [ha]
    | succ m =>
      rw [ue] at h;rw [B5 bP.2 h,hp];omega
   ·have hp:jY (a :: t) x=0:=by
     unfold jY;rw [Nr.2]
     ·rfl
     ·intro y hy;rcases jy.1 hy with rfl|hy
      ·simpa using ha
      ·have:=bP.1 y hy;simp;omega
    have hc:¬c<x:=by
     cases m with
     | zero =>
       simp only [KF,ke] at h;subst h;exact ha
     | succ m =>
       rw [ue] at h;have:=bP.1 c (fU h);omega
    rw [hp];exact ⟨λh=>absurd h hc,λh=>oM⟩
theorem JV {l:List Int} (h:bq l) (x:Int):bq (kL l x):=by
 unfold kL;split
 ·exact h
 ·rename_i hx;have gK:=h;unfold bq at gK ⊢;rw [<-KG (jY l x) l,Hi] at gK;rw [Hi];have h1:∀ y∈l.take (jY l x),y<x:=by
   intro y hy;obtain ⟨j,hj⟩:=Ds hy;rw [nX] at hj;split at hj
   ·rename_i bB;exact (B5 h hj).2 bB
   ·cases hj
  refine ⟨gK.1,Sb.2 ⟨λy hy=>?_,gK.2.1⟩,λa ha y hy=>?_⟩
  ·obtain ⟨j,hj⟩:=Ds hy;rw [Dt] at hj;have h2:=B5 (x:=x) h hj;have h3:y≠x:=λe=>hx (e▸fU hj);have:¬y<x:=λh=>by have:=h2.1 h;omega
   omega
  ·rcases jy.1 hy with rfl|hy
   ·exact h1 a ha
   ·exact gK.2.2 a ha y hy
theorem Ey {l:List Int} {n x:Int} (h:dh l 1 n) (hx:1<=x/\x<=n):dh (kL l x) 1 n:=⟨JV h.1 x,λy hy=>by
 rcases Vr.1 hy with rfl|hy
 ·exact hx
 ·exact h.2 y hy⟩
theorem ec.cY {p:Prim} (h:ec p) (hr:p.aq.aa.length+p.late.length<=60000):lr p.aq p.late:=⟨h.aq,hr,λc hc=>by
 rw [h.same];exact ⟨h.late.aa c hc,dG h.fl (h.late.aa c hc)⟩⟩
theorem JW {n:Int} {c:Cert} (h:eB n c):aJ c.aE/\aJ c.ao:=by
 have kx:=gQ h.fl;have h1:=h.aE.1;have h2:=h.ao.1;exact ⟨by unfold aJ;omega,by unfold aJ;omega⟩
theorem ec.aL {p:Prim} (h:ec p):dh p.aL 1 p.nodes/\p.aL.length<=65536:=by
 have kx:=gQ h.fl;by_cases h0:p.dD=0
 ·rw [(h.aK.none h0).2.2.2.2];exact ⟨sa _ _,by simp⟩
 ·exact ⟨h.aK.aL h0,sW (h.aK.aL h0) ⟨oM,oM⟩⟩
theorem ec.aJ {p:Prim} (h:ec p) (hs:p.aK.sigs.length<=1099511627776):p.aJ:=by
 have kx:=gQ h.fl;have ha:=h.aL;have hv:=h.aA.len;have hd:=h.aq.len;have hl:=h.late.len;refine ⟨?_,oM,oM,⟨?_,λc hc=>dG h.aq.nodes (h.aq.aa c hc)⟩,⟨?_,λc hc=>dG h.fl (h.late.aa c hc)⟩⟩
 ·by_cases h0:p.dD=0
  ·obtain ⟨_,_,e1,e2,_⟩:=h.aK.none h0;refine ⟨?_,?_,hs⟩
   ·rw [e1];exact fM
   ·rw [e2];exact fM
  ·have:=JW (h.aK.head h0);exact ⟨this.1,this.2,hs⟩
 ·show p.aq.aa.length<=_;omega
 ·show p.late.length<=_;omega
theorem qn {p:Prim} (h:ec p) (hr:p.aq.aa.length+p.late.length<60000) (x:Int) (hx:1<=x/\x<=p.nodes) (h0:p.dD≠0) (hd:eJ { p with aL:=kL p.aL x }=true):GB { p with aL:=kL p.aL x }:=by
 have kx:=gQ h.fl;have bw:bM p.nodes (dN { p with aL:=kL p.aL x }):=by
  have hh:=h.aK.head h0;refine ⟨⟨hh.fl,hh.af,hh.round,hh.aE,hh.ao,hh.one,hh.many⟩,h.aK.dD h0,Ey (h.aK.aL h0) hx,?_⟩;simp only [eJ,G6,ze1,zeK] at hd;have:=hd.2;show ((kL p.aL x).length:Int)≥quo p.nodes;omega
 exact ⟨by rw [show ({ p with aL:=kL p.aL x }:Prim).aq.nodes=p.nodes from h.same];exact bw,dG h.fl bw,h.cY (WX hr),hr,h.late.Dh⟩
def iE (p:Prim) (m:aW) (held:List Int):Prim:=if m.kind=4 then eC p m held else if m.kind=5 then rZ p m else if m.kind=6 then mB p m.cert else p
def fw (p:Prim) (m:aW) (held:List Int):List aW:=if m.kind=4 then fK p m held else if m.kind=5 then oq p m else if m.kind=6 then tz p m.cert m.src else dg p m m.aT.length
theorem wP (k:Int):zA 116 [.k k] [] (pQ (.d (.bool (decide (k∈[4,5,6,8])))) []):=by
 have h:=gX [4,5,6,8] (by simp [aU]) k;refine gG func116 ntmps116 ?_
 (refine Or.inl ?_;(conv=>whnf))
 refine h.mono ?_;rintro _ _ ⟨rfl,rfl⟩
 conv=>whnf
 exact ⟨rfl,rfl⟩
structure dn (p:Prim) (m:aW) (held:List Int):Prop where
 may:ec p
 msg:aX p.nodes m
 dst:m.dst=p.id
 held:dh held 1 65536
def pe (m:aW):Prop:=m.kind∈[(4:Int),5,6,8]
def nj (e:Int):AV := .tup [.agg gM,.d (.sl 18 []),.k e]
def sb (q:Prim) (o:List aW):AV := .tup [q.av,.d (.sl 18 (bZ o)),.k 0]
theorem ec.ajk {p:Prim} (h:ec p) (hs:p.aK.sigs.length<=1099511627776):O1 p:=⟨h.aq,h.fl,h.same,h.round,h.iq,(h.aJ hs).aK,by have:=h.aL.2;unfold aU;omega⟩
theorem ia (n:Int):zA 17 [.k n] [] (pQ (.k n) []):=by
 refine gG func17 ntmps17 ?_;exact ⟨rfl,rfl⟩
theorem QO:lone.aJ:=⟨⟨fM,fM,fM⟩,dC,dC,⟨fM,λc h=>(by cases h)⟩,⟨fM,λc h=>(by cases h)⟩⟩
theorem QP:zA 49 [lone.av,lS.pD,.k 5] [] (pQ (.tup [JU.av,.d (.sl 1 []),.d (.sl 18 []),.k 0]) []):=by
 have h1:=qj lone yp;have h2:=agl;have h3:=BW lone QO;have h4:=ajj;refine gG func49 ntmps49 ?_;refine ay.mono (post:=λav L=>av = .d (.bool true)/\L=[]) h1 ?_;rintro _ _ ⟨rfl,rfl⟩;refine rdv ?_;refine aQ (fG 5) ?_;refine ay.mono (post:=λav L=>av = .d (.bool true)/\L=[]) h2 ?_;rintro _ _ ⟨rfl,rfl⟩;refine rdv ?_;refine cP Ug ?_;refine ay.mono (post:=λav L=>av=lone.av/\L=[]) h3 ?_;rintro _ _ ⟨rfl,rfl⟩;refine rdv ?_;refine ay.mono (post:=λav L=>av = .tup [JU.av,.d (.sl 1 []),.d (.sl 18 []),.k 0]/\L=[]) h4 ?_;rintro _ _ ⟨rfl,rfl⟩;refine rdv ?_;exact ⟨rfl,rfl⟩
theorem JX:zA 20 [] [] (pQ (.d (.bool true)) []):=by
 have h1:=acV 1 1 dC dC;have h2:=agk;have h3:=QP;refine gG func20 ntmps20 ?_;refine ay.mono (post:=λav L=>av = .tup [lone.av,.k 0]/\L=[]) h1 ?_;rintro _ _ ⟨rfl,rfl⟩;refine rdv ?_;refine ay.mono (post:=λav L=>av = .tup [lS.pD,.k 0]/\L=[]) h2 ?_;rintro _ _ ⟨rfl,rfl⟩;refine rdv ?_;refine ay.mono (post:=λav L=>av = .tup [JU.av,.d (.sl 1 []),.d (.sl 18 []),.k 0]/\L=[]) h3 ?_;rintro _ _ ⟨rfl,rfl⟩;refine rdv ?_
 iterate 3
  refine aQ (ia 0) ?_
 intro z hz;have vr:z=0:=hz;subst vr;refine rdv ?_;exact ⟨rfl,rfl⟩
end Go.Proofs.YtolkmjfkkkiboaaGreat
