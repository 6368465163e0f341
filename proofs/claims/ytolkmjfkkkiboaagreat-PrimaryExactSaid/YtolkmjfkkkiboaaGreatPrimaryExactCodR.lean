/- PrimaryExact: contracts. -/
import Derived.Test.YtolkmjfkkkiboaaGreatPrimaryExactCodP
set_option linter.all false
set_option maxHeartbeats 8000000
set_option maxRecDepth 100000
namespace Go.Proofs.YtolkmjfkkkiboaaGreat
open Go.Ab Go.RowKit Go.MapKept Tryz
attribute [local irreducible] ay AW cw eA eo bL
theorem ade (l:List Tx):TP (.slo 4 (dr l)) (.sl 4 (dr l)) := .slo (.refl _)
def aW.O5 (m:aW):List DV:=[.j m.kind,.j m.src,.j m.dst,.j m.ae,.j m.ba,.j m.bn,.slo 4 (dr m.dX),.j m.head.af,.j m.head.round,.slo 1 (nums m.head.aE),.slo 1 (nums m.head.ao),.j m.cert.af,.j m.cert.round,.slo 1 (nums m.cert.aE),.slo 1 (nums m.cert.ao),.j m.cert.ae,.slo 1 (nums m.cert.sigs),.slo 1 (nums m.aT)]
def aW.nk (m:aW):AV := .agg (m.O5.map AV.d)
theorem Al (m:aW):yV [] m.nk m.av := .inr ⟨_,_,rfl,rfl,aw (bG _) (aw (bG _) (aw (bG _) (aw (bG _) (aw (bG _) (aw (bG _) (aw (iP (ade _)) (aw (bG _) (aw (bG _) (aw (iP (dV _)) (aw (iP (dV _)) (aw (bG _) (aw (bG _) (aw (iP (dV _)) (aw (iP (dV _)) (aw (bG _) (aw (iP (dV _)) (aw (iP (dV _)) nT)))))))))))))))))⟩
def Ze (p:Prim) (out:List aW) (m:aW) (j:Bool):List AB:=if j then [.cells (p.cs.map AV.d++[.arr 3]),.dead,.cells (m.O5.map AV.d),.row 49 18 (bZ out) false] else [.cells (p.cs.map AV.d++[.arr 1]),.row 49 18 (bZ out) false,.cells (m.O5.map AV.d)]
theorem Rb (p:Prim) (out:List aW) (ho:out.length<=100000) (hn:jA p.nodes=true) (m:aW) (hr:bq p.aL) (Mz:p.aL.length<=65536)
  (hd:¬(p.dD=0∨m.ae≠p.dD)->eJ { p with aL:=kL p.aL m.src }=true->GB { p with aL:=kL p.aL m.src }) :
  zA 167 [.ptr 0 0,m.nk] (p.st out) (λav L=>av = .tup []/\∃ j,L=(rZ p m).sj j (out++oq p m)):=by
 refine gG func167 ntmps167 ?_;refine cP Yl ?_;repeat' (apply tw<;>intro _)
 all_goals first
  | (have fu:p.dD=0∨m.ae≠p.dD:=by first|exact .inl ‹_›|exact .inr ‹_›
     refine ⟨rfl,false,?_⟩;rw [rZ,bp fu,oq,bp fu,gR];rfl)
  | skip
 all_goals
  have zF:¬(p.dD=0∨m.ae≠p.dD):=λh=>h.elim (λh=>absurd h ‹p.dD≠0›) (λh=>absurd ‹m.ae=p.dD› h);have Pb:=hd zF;rw [rZ,aR zF,oq,aR zF];refine cP Ym ?_;refine (wH p.aL (by unfold aU;omega) hr m.src).mono ?_;rintro _ _ ⟨rfl,rfl⟩;by_cases fD:m.src∈p.aL
  ·rw [cz fD];have e:({ p with aL:=kL p.aL m.src }:Prim)=p:=by rw [kL,bp fD]
   rw [e] at Pb ⊢;have hc:=mi p out ho hn (λh=>⟨(Pb h).cert,(Pb h).aJ,(Pb h).cY,(Pb h).room,(Pb h).Dh⟩);refine rdv ?_;refine hc.mono ?_;rintro _ _ ⟨rfl,j,rfl⟩
   cases j
   all_goals
    refine rdv ?_
    first
     | exact ⟨rfl,false,rfl⟩
     | exact ⟨rfl,true,rfl⟩
  ·rw [aP fD];have e:kL p.aL m.src=p.aL.take (jY p.aL m.src)++m.src :: p.aL.drop (jY p.aL m.src):=by rw [kL,aR fD]
   have hc:=mi { p with aL:=kL p.aL m.src } out ho hn (λh=>⟨(Pb h).cert,(Pb h).aJ,(Pb h).cY,(Pb h).room,(Pb h).Dh⟩);have Pc:=MD p.aL m.src (jY p.aL m.src) (YO ..) oM;rw [<-e] at Pc;refine rdv ?_
   (with_reducible refine oW aF bf aG cB Vi QJ ?_ ?_)
   focus kernel_rfl
   refine rdv ?_;constructor
   all_goals
    refine rdv ?_;refine aQ (o5 p.aL oM) ?_
    (refine Or.inr ?_;(conv=>whnf))
    refine aQ Pc ?_;refine hc.mono ?_;rintro _ _ ⟨rfl,j,rfl⟩
    cases j
    all_goals
     refine rdv ?_
     first
      | exact ⟨rfl,false,rfl⟩
      | exact ⟨rfl,true,rfl⟩
def Zf (p:Prim) (out:List aW) (m:aW) (j:Bool) (k:Nat):AF×List AB:=([(0,.ptr 0 0),(3,.ptr 2 0),(8,.d (.slo 1 (nums m.aT))),(9,.k m.aT.length),(10,.k k)],Ze p (out++dg p m k) m j)
theorem MX (p:Prim) (hv:Valid p.aq) (out:List aW) (ho:out.length<=100000) (m:aW) (hl:m.aT.length<=100000):zA 169 [.ptr 0 0,m.nk] (p.st out) (λav L=>av = .tup []/\∃ j,L=p.sj j (out++dg p m m.aT.length)):=by
 have eM:=nums_length m.aT;have zx:=hv.len;refine gG func169 ntmps169 ?_;refine dw aF bf aG (σ:=Bool) (ρ:=Nat) (Zf p out m) (λj k=>k<=m.aT.length) (λj k=>m.aT.length - k) [0,3,8,9,10] ?_ ?_
 ·conv=>whnf
  exact ⟨false,0,by rw [eM];rfl,by simp only [Zf,dg,wI,zeO,List.flatMap_nil,zfK,gR];rfl,br _⟩
 ·rintro j k hk;have hwl:=nS p m k
  cases j
  all_goals
   refine rdv ?_;repeat' (apply tw<;>intro _)
   ·have yd:(k:Int)<m.aT.length:=aM;refine eG m.aT k λx hx=>?_;have dq:=qk p m hx;refine ⟨oM,[.j x],bD hx,?_⟩;refine rdv ?_;refine (acE p.aq (by unfold aU;omega) x).mono ?_;rintro _ _ ⟨rfl,rfl⟩;unfold lI
    cases hg:fk p.aq.aa x with
    | none =>
      rw [hg] at dq;replace dq:dg p m (k+1)=dg p m k:=dq.trans (gR _);refine rdv ?_
      first
       | exact ⟨false,k+1,rfl,by simp only [Zf];rw [dq];rfl,oM,oM⟩
       | exact ⟨true,k+1,rfl,by simp only [Zf];rw [dq];rfl,oM,oM⟩
    | some i =>
      have hi:i<p.aq.aa.length:=by
       rw [fk,KU] at hg;exact hg.1
      refine nu (⟨_,ff hi⟩:∃ c,p.aq.aa[i]? = some c) λc hc=>?_;rw [hg] at dq;replace dq:dg p m (k+1)=dg p m k++[(cn c).told p m.src]:=by rw [dq,show (some i).bind (λi=>p.aq.aa[i]?)=some c from hc];rfl
      have lK:=dG hv.nodes (hv.aa c (fU hc));have lJ:=yf p (out++dg p m k) (by rw [iQ];omega) m.src (cn c) fJ lK;rw [uf,<-dq] at lJ;refine rdv ?_;refine cP Yn ?_
      ((with_reducible apply aC);(focus (intro K hK;(conv=>whnf);exact iB hc (by first|rfl|omega) hK));(conv=>whnf))
      (refine eF ?_)
      refine (bz lJ (.cons (.refl _) (.cons (.refl _) (.cons (.agg ?_) .nil)))).mono ?_
      ·repeat (first|exact .nil|refine .cons (.refl _) ?_|refine .cons (.nils _ dC) ?_)
      ·rintro _ _ ⟨rfl,rfl⟩;refine rdv ?_;exact ⟨true,k+1,rfl,rfl,oM,oM⟩
   ·have yd:¬(k:Int)<m.aT.length:=aM;obtain rfl:k=m.aT.length:=oM
    first
     | exact ⟨rfl,false,rfl⟩
     | exact ⟨rfl,true,rfl⟩
theorem Zg (p:Prim) (h:ec p) (hr:p.aq.aa.length+p.late.length<60000) (m:aW) (hm:aX p.nodes m) (hk:m.kind=5∨m.kind=8) (held:List Int) :
  zA 117 [p.av,m.nk,.d (.slo 1 (nums held))] [] (pQ (.tup [(iE p m held).av,.d (.sl 18 (bZ (fw p m held)))]) []):=by
 have gD:=hm.src;have k4:¬m.kind=4:=oM;by_cases k5:m.kind=5
 ·have gi:=Rb p [] (by simp) h.fl m h.aL.1.1 h.aL.2 (λh1 h2=>qn h hr m.src gD (λe=>h1 (.inl e)) h2);rw [iE,aR k4,bp k5,fw,aR k4,bp k5];refine cF aF bf aG func117 rfl ntmps117 rfl false rfl ?_;refine rdv ?_;repeat' (apply tw<;>intro _)
  all_goals first|exact absurd k5 (by assumption)|exact absurd (show m.kind=4 by assumption) k4|skip
  refine gi.mono ?_;rintro _ _ ⟨rfl,j,rfl⟩;rw [tC]
  cases j
  all_goals
   refine rdv ?_;refine cP wa ?_;exact ⟨rfl,rfl⟩
 ·have k6:¬m.kind=6:=oM;have WL:=hm.ok.kind;have hdg:m.aT.length<=100000:=by
   rcases Int.lt_or_le m.kind 7 with h7|h7
   ·rw [hm.only.aT oM];simp
   ·have:=(hm.ok.aT h7).1;omega
  have gi:=MX p h.aq [] (by simp) m hdg;rw [iE,aR k4,aR k5,aR k6,fw,aR k4,aR k5,aR k6];refine cF aF bf aG func117 rfl ntmps117 rfl false rfl ?_;refine rdv ?_;repeat' (apply tw<;>intro _)
  all_goals first|exact absurd (show m.kind=4 by assumption) k4|exact absurd (show m.kind=5 by assumption) k5|exact absurd (show m.kind=6 by assumption) k6|skip
  refine gi.mono ?_;rintro _ _ ⟨rfl,j,rfl⟩;rw [tC]
  cases j
  all_goals
   refine rdv ?_;refine cP wa ?_;exact ⟨rfl,rfl⟩
open Classical in
theorem Kl (p:Prim) (bw:p.ok) (hr:p.aq.aa.length+p.late.length<60000) (m:aW) (hf:m.cY) (hk:m.kind=5∨m.kind=8) (held:List Int) (hl:aU held) :
  zA 58 [p.nk,m.nk,.d (.slo 1 (nums held))] [] (λav L=>((dn p m held/\pe m/\av=sb (iE p m held) (fw p m held))∨(dn p m held/\¬pe m/\av=nj 10)∨(¬dn p m held/\av=nj 1))/\L=[]):=by
 have h1:=ic p bw;have h2:zA 114 [m.nk,.k p.nodes] [] (pQ (.d (.bool (decide (aX p.nodes m)))) []):=bS (cG _) ⟨_,_,rfl,Al m,_,_,rfl,.inl (bG _),rfl⟩ (nR m hf p.nodes);have h3:zA 115 [.d (.slo 1 (nums held))] [] (pQ (.d (.bool (decide (dh held 1 65536)))) []):=bS (cG _) ⟨_,_,rfl,.inl (iP (dV held)),rfl⟩ (gY held hl);have h4:=wP m.kind;refine gG func58 ntmps58 ?_;refine h1.mono ?_;rintro _ _ ⟨rfl,rfl⟩;by_cases k1:ec p
 ·rw [cz k1];refine rdv ?_;refine h2.mono ?_;rintro _ _ ⟨rfl,rfl⟩;by_cases k2:aX p.nodes m
  ·rw [cz k2];refine rdv ?_;repeat' (apply tw<;>intro _)
   ·rename_i k3;exact ⟨.inr (.inr ⟨λh=>k3 h.dst,rfl⟩),rfl⟩
   ·rename_i k3;refine h3.mono ?_;rintro _ _ ⟨rfl,rfl⟩;by_cases k4:dh held 1 65536
    ·rw [cz k4];have hC:dn p m held:=⟨k1,k2,k3,k4⟩;refine rdv ?_;refine h4.mono ?_;rintro _ _ ⟨rfl,rfl⟩;by_cases k5:m.kind∈[(4:Int),5,6,8]
     ·rw [cz k5];have rL:=ly p (k1.aJ bw.sigs);have V2:=Zg p k1 hr m k2 hk held;refine rdv ?_;refine cP LS ?_;refine aQ rL ?_;refine aQ V2 ?_;exact ⟨.inl ⟨hC,k5,rfl⟩,rfl⟩
     ·rw [aP k5];refine rdv ?_;exact ⟨.inr (.inl ⟨hC,k5,rfl⟩),rfl⟩
    ·rw [aP k4];refine rdv ?_;exact ⟨.inr (.inr ⟨λh=>k4 h.held,rfl⟩),rfl⟩
  ·rw [aP k2];refine rdv ?_;exact ⟨.inr (.inr ⟨λh=>k2 h.msg,rfl⟩),rfl⟩
 ·rw [aP k1];refine rdv ?_;exact ⟨.inr (.inr ⟨λh=>k1 h.may,rfl⟩),rfl⟩
end Go.Proofs.YtolkmjfkkkiboaaGreat
open Go Go.Claim Go.Proofs Tryz
namespace Go.Proofs.YtolkmjfkkkiboaaGreat
open Go.Ab Go.RowKit Go.MapKept Tryz
attribute [local irreducible] ay AW cw eA eo bL
theorem aY.adf {lo n:Nat} {w x:World} (h:aY lo n w x) (jl:∀ b,lo<=b->b<lo+n->b<w.heap.size) {b o:Nat} {u:Value} (hb:w.heap.size<=b):aY lo n w (x.setCell ⟨b,o,none⟩ u):=by
 refine ⟨h.os,h.tape,h.output,by rw [vW];exact h.size,λy hy hn=>by rw [kF oM];exact h.block y hy hn,λk m v hv=>?_,h.CQ.trans ?_⟩
 ·refine ve (λy g1 g2 cur e m hh=>?_) k m v (h.sl _ _ _ hv);have:=jl y g1 g2;rw [kF oM];exact hh
 ·intro y c1 e1 m1 k1 k2;by_cases hx:y=b
  ·subst hx;exact ⟨_,_,kD k1,by simp,by rw [zdV];exact k2⟩
  ·exact ⟨c1,m1,by rw [kF hx];exact k1,rfl,k2⟩
theorem aY.Pd {lo n:Nat} {w:World} (jl:∀ b,lo<=b->b<lo+n->b<w.heap.size) {b:Nat} (hb:w.heap.size<=b):∀ (us:List Value) (o:Nat) (x:World),aY lo n w x->aY lo n w (x.setCells b o us)
 | [],_,_,h=>h
 | u :: r,o,x,h=>aY.Pd jl hb r (o+1) _ (aY.adf h jl hb)
theorem zl {b:Nat} {e:TypeId} {mk:Nat×Nat}:∀ (us:List Value) (o:Nat) (x:World) (cur:Array Value),x.heap[b]? = some (.cells cur e mk)->o+us.length<=cur.size ->
  ∃ cur',(x.setCells b o us).heap[b]? = some (.cells cur' e mk)/\cur'.toList=cur.toList.take o++us++cur.toList.drop (o+us.length)
 | [],o,x,cur,h,_=>⟨cur,h,by simp⟩
 | u :: r,o,x,cur,h,hl=>by
   rw [CE] at hl;obtain ⟨c',k1,k2⟩:=zl r (o+1) (x.setCell ⟨b,o,none⟩ u) (cur.setIfInBounds o u) (kD h) (by rw [zdV];omega);refine ⟨c',k1,?_⟩;rw [k2,Array.toList_setIfInBounds,CE,List.drop_set_of_lt oM,show o+1+r.length=o+(r.length+1) by omega];congr 1;rw [iu,List.getElem?_set_self (by rw [lU];omega),List.take_set_of_le (eQ _)];simp
def Rc:List Value:=[.j (-9),.j 0,.j 0,.j 0,.j 0,.j 0,.slice none 0 0,.j 0,.j 0,.slice none 0 0,.slice none 0 0,.j 0,.j 0,.slice none 0 0,.slice none 0 0,.j 0,.slice none 0 0,.slice none 0 0]
set_option maxRecDepth 100000 in
theorem GP (lo n k:Nat) (w:World) (z0 z1 z2 z3 z4 z5 z7 z8 KP KQ KR:Int) (v6 v9 v10 v13 v14 v16 v17:Value) (h6:SL lo n w (k+2) 4 v6) (h9:SL lo n w (k+2) 1 v9) (Ke:SL lo n w (k+2) 1 v10) (h13:SL lo n w (k+2) 1 v13) (Q3:SL lo n w (k+2) 1 v14) (Pe:SL lo n w (k+2) 1 v16) (h17:SL lo n w (k+2) 1 v17) (jl:∀ b,lo<=b->b<lo+n->b<w.heap.size) :
  Calls prog 60 #[.slice (some ⟨w.heap.size,0,none⟩) 1 1] (w.alloc (.cells #[.j z0,.j z1,.j z2,.j z3,.j z4,.j z5,v6,.j z7,.j z8,v9,v10,.j KP,.j KQ,v13,v14,.j KR,v16,v17] 49)) λe w'=>e = .returned (.tuple #[])/\aY lo n w w':=by
 obtain ⟨p6,l6,k6,rfl⟩:=dO h6;obtain ⟨p9,l9,k9,rfl⟩:=dO h9;obtain ⟨Oa,l10,Ve,rfl⟩:=dO Ke;obtain ⟨p13,l13,k13,rfl⟩:=dO h13;obtain ⟨p14,l14,k14,rfl⟩:=dO Q3;obtain ⟨p16,l16,k16,rfl⟩:=dO Pe;obtain ⟨p17,l17,k17,rfl⟩:=dO h17;obtain ⟨cs,ck⟩:∃ cs:Array Value,cs = #[.j z0,.j z1,.j z2,.j z3,.j z4,.j z5,.slice p6 l6 k6,.j z7,.j z8,.slice p9 l9 k9,.slice Oa l10 Ve,.j KP,.j KQ,.slice p13 l13 k13,.slice p14 l14 k14,.j KR,.slice p16 l16 k16,.slice p17 l17 k17]:=⟨_,rfl⟩;rw [<-ck];have hA:=aY.keeps jl (aO.alloc w (.cells cs 49));have gd:=heap_alloc_new w (.cells cs 49);obtain ⟨w1,Ag⟩:∃ w1,w.alloc (.cells cs 49)=w1:=⟨_,rfl⟩;have j8:w.heap.size<w1.heap.size:=by rw [<-Ag];simp
 rw [Ag] at hA gd ⊢;have MS:∀ b,lo<=b->b<lo+n->b<w1.heap.size:=λb g1 g2=>kO (jl b g1 g2) hA.size;have jN:¬(lo<=w.heap.size/\w.heap.size<lo+n):=wT jl (eQ _);replace h6:=hA.sl _ _ _ h6;replace h9:=hA.sl _ _ _ h9;replace Ke:=hA.sl _ _ _ Ke;replace h13:=hA.sl _ _ _ h13;replace Q3:=hA.sl _ _ _ Q3;replace Pe:=hA.sl _ _ _ Pe;replace h17:=hA.sl _ _ _ h17
 go_enter func60,ntmps60
 go_wp2
 go_loopw [2] (λi wr=>∃ j:Nat,i = .j j/\((j=0/\aY lo n w1 wr)∨(j=1/\aY lo n w wr/\∃ cur,wr.heap[w.heap.size]? = some (.cells cur 49 (0,0))/\cur.toList=Rc)))
  (λi _=>1 - (intOf i).toNat)
 case atStart=>exact ⟨0,rfl,.inl ⟨rfl,aY.refl _ _ _⟩⟩
 case round =>
  obtain ⟨j,rfl,⟨rfl,hS⟩|⟨rfl,hS,cur,gE,bR⟩⟩:=hrel
  ·have Zh:∀ b,lo<=b->b<lo+n->b<wr.heap.size:=λb h1 h2=>kO (MS b h1 h2) hS.size;have hh0:wr.heap[w.heap.size]? = some (.cells cs 49 (0,0)):=(hS.block _ j8 jN).trans gd;have c6:wr.cell? ⟨w.heap.size,6,none⟩=some (.slice p6 l6 k6):=by rw [cell_of_row _ _ 6 _ _ _ hh0,ck];rfl
   have hT0:=hS
   go_wp2_with (go_at_call 120;(with_reducible refine (VJ lo n (k+1) _ _ (hT0.sl _ _ _ h6) Zh).mono ?_);rintro e w2 ⟨rfl,ub⟩;clear c6;have hT1:=hT0.trans ub;have jg:∀ b,lo<=b->b<lo+n->b<w2.heap.size:=λb h1 h2=>kO (MS b h1 h2) hT1.size;have KH:w2.heap[w.heap.size]? = some (.cells cs 49 (0,0)):=(hT1.block _ j8 jN).trans gd;have c7:w2.cell? ⟨w.heap.size,7,none⟩=some (.j z7):=(by rw [cell_of_row _ _ 7 _ _ _ KH,ck];rfl);have c8:w2.cell? ⟨w.heap.size,8,none⟩=some (.j z8):=(by rw [cell_of_row _ _ 8 _ _ _ KH,ck];rfl);have c9:w2.cell? ⟨w.heap.size,9,none⟩=some (.slice p9 l9 k9):=(by rw [cell_of_row _ _ 9 _ _ _ KH,ck];rfl);have QX:w2.cell? ⟨w.heap.size,10,none⟩=some (.slice Oa l10 Ve):=(by rw [cell_of_row _ _ 10 _ _ _ KH,ck];rfl))
   go_wp2_with (go_at_call 47;(with_reducible refine (sZ lo n (k+1) _ z7 z8 _ _ (hT1.sl _ _ _ h9) (hT1.sl _ _ _ Ke) jg).mono ?_);rintro e w3 ⟨rfl,tA⟩;clear c7 c8 c9 QX;have hT2:=hT1.trans tA;have MQ:∀ b,lo<=b->b<lo+n->b<w3.heap.size:=λb h1 h2=>kO (MS b h1 h2) hT2.size;have DX:w3.heap[w.heap.size]? = some (.cells cs 49 (0,0)):=(hT2.block _ j8 jN).trans gd;have QY:w3.cell? ⟨w.heap.size,11,none⟩=some (.j KP):=(by rw [cell_of_row _ _ 11 _ _ _ DX,ck];rfl);have YW:w3.cell? ⟨w.heap.size,12,none⟩=some (.j KQ):=(by rw [cell_of_row _ _ 12 _ _ _ DX,ck];rfl);have YX:w3.cell? ⟨w.heap.size,13,none⟩=some (.slice p13 l13 k13):=(by rw [cell_of_row _ _ 13 _ _ _ DX,ck];rfl);have QZ:w3.cell? ⟨w.heap.size,14,none⟩=some (.slice p14 l14 k14):=(by rw [cell_of_row _ _ 14 _ _ _ DX,ck];rfl);have Q0:w3.cell? ⟨w.heap.size,15,none⟩=some (.j KR):=(by rw [cell_of_row _ _ 15 _ _ _ DX,ck];rfl);have YY:w3.cell? ⟨w.heap.size,16,none⟩=some (.slice p16 l16 k16):=(by rw [cell_of_row _ _ 16 _ _ _ DX,ck];rfl))
   go_wp2_with (go_at_call 121;(with_reducible refine (GK lo n (k+1) _ KP KQ KR _ _ _ (hT2.sl _ _ _ h13) (hT2.sl _ _ _ Q3) (hT2.sl _ _ _ Pe) MQ).mono ?_);rintro e w4 ⟨rfl,Q2⟩;clear QY YW YX QZ Q0 YY;have hT3:=hT2.trans Q2;have Q1:∀ b,lo<=b->b<lo+n->b<w4.heap.size:=λb h1 h2=>kO (MS b h1 h2) hT3.size;have hh3:w4.heap[w.heap.size]? = some (.cells cs 49 (0,0)):=(hT3.block _ j8 jN).trans gd;have YZ:w4.cell? ⟨w.heap.size,17,none⟩=some (.slice p17 l17 k17):=(by rw [cell_of_row _ _ 17 _ _ _ hh3,ck];rfl))
   go_wp2_with (go_at_call 50;(with_reducible refine (je lo n (k+1) _ _ (hT3.sl _ _ _ h17) Q1).mono ?_);rintro e w5 ⟨rfl,Y4⟩;clear YZ;have hT4:=hT3.trans Y4;have qX:w5.heap[w.heap.size]? = some (.cells cs 49 (0,0)):=(hT4.block _ j8 jN).trans gd;have c0:w5.cell? ⟨w.heap.size,0,none⟩=some (.j z0):=(by rw [cell_of_row _ _ 0 _ _ _ qX,ck];rfl);have c1:w5.cell? ⟨w.heap.size,1,none⟩=some (.j z1):=(by rw [cell_of_row _ _ 1 _ _ _ qX,ck];rfl);have c2:w5.cell? ⟨w.heap.size,2,none⟩=some (.j z2):=(by rw [cell_of_row _ _ 2 _ _ _ qX,ck];rfl);have c3:w5.cell? ⟨w.heap.size,3,none⟩=some (.j z3):=(by rw [cell_of_row _ _ 3 _ _ _ qX,ck];rfl);have c4:w5.cell? ⟨w.heap.size,4,none⟩=some (.j z4):=(by rw [cell_of_row _ _ 4 _ _ _ qX,ck];rfl);have c5:w5.cell? ⟨w.heap.size,5,none⟩=some (.j z5):=(by rw [cell_of_row _ _ 5 _ _ _ qX,ck];rfl);have c6:w5.cell? ⟨w.heap.size,6,none⟩=some (.slice p6 l6 k6):=(by rw [cell_of_row _ _ 6 _ _ _ qX,ck];rfl);have c7:w5.cell? ⟨w.heap.size,7,none⟩=some (.j z7):=(by rw [cell_of_row _ _ 7 _ _ _ qX,ck];rfl);have c8:w5.cell? ⟨w.heap.size,8,none⟩=some (.j z8):=(by rw [cell_of_row _ _ 8 _ _ _ qX,ck];rfl);have c9:w5.cell? ⟨w.heap.size,9,none⟩=some (.slice p9 l9 k9):=(by rw [cell_of_row _ _ 9 _ _ _ qX,ck];rfl);have QX:w5.cell? ⟨w.heap.size,10,none⟩=some (.slice Oa l10 Ve):=(by rw [cell_of_row _ _ 10 _ _ _ qX,ck];rfl);have QY:w5.cell? ⟨w.heap.size,11,none⟩=some (.j KP):=(by rw [cell_of_row _ _ 11 _ _ _ qX,ck];rfl);have YW:w5.cell? ⟨w.heap.size,12,none⟩=some (.j KQ):=(by rw [cell_of_row _ _ 12 _ _ _ qX,ck];rfl);have YX:w5.cell? ⟨w.heap.size,13,none⟩=some (.slice p13 l13 k13):=(by rw [cell_of_row _ _ 13 _ _ _ qX,ck];rfl);have QZ:w5.cell? ⟨w.heap.size,14,none⟩=some (.slice p14 l14 k14):=(by rw [cell_of_row _ _ 14 _ _ _ qX,ck];rfl);have Q0:w5.cell? ⟨w.heap.size,15,none⟩=some (.j KR):=(by rw [cell_of_row _ _ 15 _ _ _ qX,ck];rfl);have YY:w5.cell? ⟨w.heap.size,16,none⟩=some (.slice p16 l16 k16):=(by rw [cell_of_row _ _ 16 _ _ _ qX,ck];rfl);have YZ:w5.cell? ⟨w.heap.size,17,none⟩=some (.slice p17 l17 k17):=(by rw [cell_of_row _ _ 17 _ _ _ qX,ck];rfl);have f0:w5.frozen? ⟨w.heap.size,0,none⟩=false:=(by unfold World.frozen?;rw [qX];rfl);have f1:w5.frozen? ⟨w.heap.size,1,none⟩=false:=(by unfold World.frozen?;rw [qX];rfl);have f2:w5.frozen? ⟨w.heap.size,2,none⟩=false:=(by unfold World.frozen?;rw [qX];rfl);have f3:w5.frozen? ⟨w.heap.size,3,none⟩=false:=(by unfold World.frozen?;rw [qX];rfl);have f4:w5.frozen? ⟨w.heap.size,4,none⟩=false:=(by unfold World.frozen?;rw [qX];rfl);have f5:w5.frozen? ⟨w.heap.size,5,none⟩=false:=(by unfold World.frozen?;rw [qX];rfl);have f6:w5.frozen? ⟨w.heap.size,6,none⟩=false:=(by unfold World.frozen?;rw [qX];rfl);have f7:w5.frozen? ⟨w.heap.size,7,none⟩=false:=(by unfold World.frozen?;rw [qX];rfl);have f8:w5.frozen? ⟨w.heap.size,8,none⟩=false:=(by unfold World.frozen?;rw [qX];rfl);have f9:w5.frozen? ⟨w.heap.size,9,none⟩=false:=(by unfold World.frozen?;rw [qX];rfl);have f10:w5.frozen? ⟨w.heap.size,10,none⟩=false:=(by unfold World.frozen?;rw [qX];rfl);have f11:w5.frozen? ⟨w.heap.size,11,none⟩=false:=(by unfold World.frozen?;rw [qX];rfl);have f12:w5.frozen? ⟨w.heap.size,12,none⟩=false:=(by unfold World.frozen?;rw [qX];rfl);have f13:w5.frozen? ⟨w.heap.size,13,none⟩=false:=(by unfold World.frozen?;rw [qX];rfl);have f14:w5.frozen? ⟨w.heap.size,14,none⟩=false:=(by unfold World.frozen?;rw [qX];rfl);have f15:w5.frozen? ⟨w.heap.size,15,none⟩=false:=(by unfold World.frozen?;rw [qX];rfl);have f16:w5.frozen? ⟨w.heap.size,16,none⟩=false:=(by unfold World.frozen?;rw [qX];rfl);have f17:w5.frozen? ⟨w.heap.size,17,none⟩=false:=(by unfold World.frozen?;rw [qX];rfl))
   have hg:aY lo n w (w5.setCells w.heap.size 0 Rc):=aY.Pd jl (eQ _) Rc 0 w5 (hA.trans hT4);have hcz:cs.size=18:=by rw [ck];rfl
   obtain ⟨c',g1,g2⟩:=zl Rc 0 w5 cs qX (by rw [hcz];decide);have g3:c'.toList=Rc:=by
    have bR:cs.toList.length=18:=by rw [lU,hcz]
    rw [g2,zdE (by rw [bR];decide)];simp
   exact ⟨⟨1,by go_num,.inr ⟨rfl,hg,c',g1,g3⟩⟩,by simp [intOf]⟩
  ·have Zh:∀ b,lo<=b->b<lo+n->b<wr.heap.size:=λb h1 h2=>kO (jl b h1 h2) hS.size;obtain ⟨i0,hi,vr,pB,oA⟩:=info_parts VK
   go_wp2_with (at_builtin;refine wpList_append_grows _ rfl (.tmp 38) (.tmp 40) 71 rfl 49 i0 (.agg #[.j 0,.j 0,.j 0,.j 0,.j 0,.j 0,.slice none 0 0,.j 0,.j 0,.slice none 0 0,.slice none 0 0,.j 0,.j 0,.slice none 0 0,.slice none 0 0,.j 0,.slice none 0 0,.slice none 0 0]) 18 256 Tryz.underlying71 hi vr pB oA rfl dC (some ⟨w.heap.size,0,none⟩) 1 1 Rc rfl (λh=>by cases h) rfl ?holds ⟨wr.heap.size,0,none⟩ 1 1 [.j 0,.j 0,.j 0,.j 0,.j 0,.j 0,.slice none 0 0,.j 0,.j 0,.slice none 0 0,.slice none 0 0,.j 0,.j 0,.slice none 0 0,.slice none 0 0,.j 0,.slice none 0 0,.slice none 0 0] rfl rfl ?c1 ?c2 dC dC dC ?go)
   case holds =>
    intro b hb j u hu
    cases hb
    rw [add_lit _ rfl,gP];refine (aO.alloc wr _).cell ?_;rw [cell_of_row wr _ _ _ _ _ gE];rw [<-bR] at hu;simpa using hu
   case c1=>intro j u hj;rw [pg];simpa using hj
   case c2=>intro u hu;simp at hu;rcases hu with rfl|rfl|rfl|rfl|rfl|rfl|rfl|rfl|rfl|rfl|rfl|rfl|rfl|rfl|rfl|rfl|rfl|rfl<;>rfl
   case go =>
    intro v' w' _ oO;have hkp:aO (wr.alloc (.cells #[.j 0,.j 0,.j 0,.j 0,.j 0,.j 0,.slice none 0 0,.j 0,.j 0,.slice none 0 0,.slice none 0 0,.j 0,.j 0,.slice none 0 0,.slice none 0 0,.j 0,.slice none 0 0,.slice none 0 0] 49)) w':=⟨oO.os,oO.tape,oO.output,oO.size,λb hb=>oO.block b hb (λh=>by cases h)⟩;have tA:=aY.keeps Zh (aO.alloc wr (.cells #[.j 0,.j 0,.j 0,.j 0,.j 0,.j 0,.slice none 0 0,.j 0,.j 0,.slice none 0 0,.slice none 0 0,.j 0,.j 0,.slice none 0 0,.slice none 0 0,.j 0,.slice none 0 0,.slice none 0 0] 49))
    go_wp2
    go_end0
    exact ⟨rfl,(hS.trans tA).trans (aY.keeps (λb h1 h2=>kO (Zh b h1 h2) tA.size) hkp)⟩
theorem EO (d:Dag) (l:List Cert):∀ j,j<=l.length->(bd d (l.take j)).2.length=j->(bd d (l.take j)).2=l.take j
 | 0,_,_=>rfl
 | j+1,hj,h=>by
   obtain ⟨c,hc⟩:=eH l j;have hl:=wy d l j;have ih:=EO d l j oM;rw [hZ hc,tZ] at h ⊢;simp only at h ⊢;split at h
   ·rename_i h7;rw [bp h7];rw [iQ,RF] at h;rw [ih oM,iu,hc];rfl
   ·omega
def ajU (p:Prim) (out:List aW) (s:Bool×Dag×List Cert):AF×List AB:=([(0,.ptr 0 0),(2,.d (.bool s.1))],(p.jc s.2).st out)
def laI (p:Prim) (out:List aW) (d:Dag) (l:List Cert) (s:Bool×Nat):AF×List AB:=([(0,.ptr 0 0),(2,.d (.bool s.1)),(3,.arr 2),(4,.k s.2)],(p.jc ((bd d (l.take s.2)).1,l)).st out++[.row 47 6 (ah (bd d (l.take s.2)).2) false])
theorem EP (p:Prim) (out:List aW) (hf:lr p.aq p.late):zA 101 [.ptr 0 0] (p.st out) (pQ (.tup []) ((p.jc (cT p.aq p.late)).st out)):=by
 refine gG func101 ntmps101 ?_;refine T9 aF bf aG (σ:=Bool×Dag×List Cert) (ajU p out) (λs=>lr s.2.1 s.2.2/\(s.1=true->cT s.2.1 s.2.2=cT p.aq p.late)/\(s.1=false->s.2=cT p.aq p.late)) (λs=>if s.1 then s.2.2.length+1 else 0) ?_ ?_
 ·refine cV [0,2] ?_
  conv=>whnf
  exact ⟨(true,p.aq,p.late),rfl,rfl,hf,λ_=>rfl,λh=>by cases h⟩
 ·rintro ⟨b,d,l⟩ ⟨tx,CJ,uR⟩;replace tx:lr d l:=tx
  cases b with
  | false =>
    replace uR:(d,l)=cT p.aq p.late:=uR rfl;refine rdv ?_;rw [<-uR];exact ⟨rfl,rfl⟩
  | true =>
    replace CJ:cT d l=cT p.aq p.late:=CJ rfl;have bR:=ak l;have hr:=tx.room;refine rdv ?_;refine dw aF bf aG (σ:=Bool) (ρ:=Nat) (λb j=>laI p out d l (b,j)) (λb j=>j<=l.length/\b=decide ((bd d (l.take j)).2.length<j)) (λ_ j=>l.length - j) [0,2,3,4] ?_ ?_
    ·conv=>whnf
     exact ⟨false,0,rfl,rfl,br _,rfl⟩
    ·rintro b j ⟨hj,hb⟩;obtain ⟨k1,k2,k3,k4,k5⟩:=sU tx j hj;have fT:=wy d l j;have kj:=ak (bd d (l.take j)).2;refine rdv ?_;repeat' (apply tw<;>intro _)
     ·have dM:(j:Int)<((ah l).length:Int):=aM;refine eG l j λc hc=>?_;obtain ⟨bw,lK⟩:=tx.late c (fU hc);have dq:=hZ (d:=d) hc;have I0:=OV (bd d (l.take j)).1 k1 c lK (uN tx.valid.nodes bw) (by rw [k2];exact bw);refine uH XY ?_
      repeat' (first|(refine jz ?_;repeat' (apply tw<;>intro _))|((with_reducible apply aC);(focus (intro K hK;(conv=>whnf);exact ⟨oM,c.cs,aB hc,hK⟩));(conv=>whnf))|((with_reducible apply aC);(focus (intro K hK;(conv=>whnf);exact iB hc (by first|rfl|omega) hK));(conv=>whnf))|(refine tU I0 ?_)|((with_reducible apply eT);(focus ((conv=>whnf);intro K hK;(conv=>whnf);exact ⟨oM,c.cs,aB hc,hK⟩));(conv=>whnf))|(refine tV I0 ?_)|fail)
      ·have h7:cJ (bd d (l.take j)).1 c=7:=aM;have hd7:gH (bd d (l.take j)).1 c=(bd d (l.take j)).1:=by unfold gH;rw [aR oM]
       rw [tZ,bp h7,hd7] at dq;refine ⟨oM,c.cs,aB hc,?_⟩;refine rdv ?_;refine ⟨by simp;omega,?_⟩;refine rdv ?_;refine ⟨b,j+1,rfl,?_,⟨oM,?_⟩,oM⟩
       ·simp only [laI];rw [dq];simp only;rw [show ah ((bd d (l.take j)).2++[c])=ah (bd d (l.take j)).2++[c.cs] by simp [ah]];rfl
       ·rw [hb,dq];simp only [iQ,RF];rw [zd4];omega
      ·have h7:¬cJ (bd d (l.take j)).1 c=7:=aM;rw [tZ,aR h7] at dq;refine ⟨true,j+1,rfl,?_,⟨oM,?_⟩,oM⟩
       ·simp only [laI];rw [dq];rfl
       ·rw [dq];simp only;rw [cz oM]
     ·have dM:¬(j:Int)<((ah l).length:Int):=aM;obtain rfl:j=l.length:=oM;rw [lD] at k1 k2 k3 k4 k5 fT kj hb;refine DY [(0,15)] rfl ?_;refine cV [0,2] ?_
      conv=>whnf
      by_cases bB:(bd d l).2.length<l.length
      ·rw [cz bB] at hb;subst hb;refine ⟨(true,(bd d l).1,(bd d l).2),rfl,by rw [lD];rfl,⟨⟨k1,by show (bd d l).1.aa.length+(bd d l).2.length<=_;omega,λc hc=>by rw [k2];exact tx.late c (k5 c hc)⟩,λ_=>?_,λh=>by cases h⟩,by show (bd d l).2.length+1<l.length+1;omega⟩;show cT (bd d l).1 (bd d l).2=_;have e1:cT d l=iC l.length (bd d l).1 (bd d l).2:=by
        rw [cT,iC,bp bB]
       rw [<-CJ,e1,cT];exact rX _ _ _ _ oM oM
      ·rw [aP bB] at hb;subst hb;have bK:=EO d l l.length (eQ _) (by rw [lD];omega);rw [lD] at bK;have e1:cT d l=((bd d l).1,l):=by rw [cT,iC,aR bB]
       refine ⟨(false,(bd d l).1,l),rfl,by rw [lD,bK];rfl,⟨⟨k1,by show (bd d l).1.aa.length+l.length<=_;omega,λc hc=>by rw [k2];exact tx.late c hc⟩,⟨λh=>(by cases h),λ_=>(by rw [<-CJ,e1])⟩⟩,by show 0<l.length+1;omega⟩
def Cl (l:List Int) (k:Nat):Nat:=(((List.range k).map λn:Nat=>(n:Int)+1).filter λx=>decide (x∈l)).length
theorem Re (l:List Int) (k:Nat):Cl l (k+1)=Cl l k+(if (k:Int)+1∈l then 1 else 0):=by
 unfold Cl;rw [zfE,RH,CC,iQ];congr 1;by_cases h:(k:Int)+1∈l
 ·simp [h]
 ·simp [h]
theorem Zi (l:List Int) (k:Nat):Cl l k<=k:=by
 unfold Cl;exact fS (mv ..) (by simp)
theorem V3 {l:List Int} {n:Nat} (h:dh l 1 n):Cl l n=l.length:=by
 have fh:((List.range n).map λn:Nat=>(n:Int)+1).Nodup:=by
  rw [List.nodup_iff_pairwise_ne,List.pairwise_map];exact List.nodup_range.imp λh e=>h oM
 have h1:Cl l n<=l.length:=sO (fh.filter _) λx hx=>by
  have:=(G7.1 hx).2;simpa using this
 have h2:l.length<=Cl l n:=sO (ik h.1) λx hx=>by
  have:=h.2 x hx;exact G7.2 ⟨px.2 ⟨(x - 1).toNat,by simp;omega,oM⟩,by simpa using hx⟩
 omega
theorem Rf (n:Int) (hn:0<=n/\n<=16) (l:List Int) (hl:aU l):zA 139 [.k n,.d (.sl 1 (nums l))] [] (pQ (.k (Cl l n.toNat)) []):=by
 refine dB func139 ntmps139 ?_;refine aH aF bf aG (σ:=Nat) (λk=>([(0,.k n),(1,.d (.sl 1 (nums l))),(5,.k (Cl l k)),(6,.k ((k:Int)+1))],[])) (λk=>k<=n.toNat) (λk=>n.toNat - k) [0,1,5,6] ?_ ?_
 ·conv=>whnf
  exact ⟨0,rfl,rfl,br _⟩
 ·intro k hk;have bR:=Zi l k;have dq:=Re l k;refine cm ?_;repeat' (apply tw<;>intro _)
  ·have k1:(k:Int)+1<=n:=aM;refine qR (Ep l hl ((k:Int)+1)) ?_;repeat' (apply tw<;>intro _)
   ·have k2:KN l ((k:Int)+1)≥0:=aM;rw [bp (sV.1 k2)] at dq;exact ⟨k+1,by rw [dq];rfl,rfl,oM,oM⟩
   ·have k2:¬KN l ((k:Int)+1)≥0:=aM;rw [aR (λh=>k2 (sV.2 h)),RJ] at dq;exact ⟨k+1,by rw [dq];rfl,rfl,oM,oM⟩
  ·have k1:¬(k:Int)+1<=n:=aM;rw [show n.toNat=k by omega];exact ⟨rfl,rfl⟩
theorem zm (p:Prim) (out:List aW) (hl:aU p.late) (d:Int):zA 162 [.ptr 0 0,.k d] (p.st out) (pQ (.d (.bool (fI p.late d))) (p.st out)):=by
 have bR:=ak p.late;unfold aU at hl;refine gG func162 ntmps162 ?_;refine aH aF bf aG (σ:=Nat) (λk=>([(0,.ptr 0 0),(1,.k d),(5,.k k)],p.st out)) (λk=>k<=p.late.length/\fI (p.late.take k) d=false) (λk=>p.late.length - k) [0,1,5] ?_ ?_
 ·conv=>whnf
  exact ⟨0,rfl,rfl,br _,rfl⟩
 ·rintro k ⟨hk,fu⟩;refine rdv ?_;repeat' (apply tw<;>intro _)
  ·have k1:(k:Int)<((ah p.late).length:Int):=aM;refine eG p.late k λc hc=>?_;refine ⟨oM,c.cs,aB hc,?_⟩;refine rdv ?_;repeat' (apply tw<;>intro _)
   ·have k2:c.ae=d:=aM;refine ⟨?_,rfl⟩;rw [show fI p.late d=true from by
     rw [fI,zeN];exact ⟨c,fU hc,by simpa using k2⟩]
    rfl
   ·have k2:c.ae≠d:=aM;refine ⟨k+1,rfl,rfl,⟨oM,?_⟩,oM⟩;unfold fI at fu ⊢;rw [iu,hc,List.any_append,fu];simpa using k2
  ·have k1:¬(k:Int)<((ah p.late).length:Int):=aM;rw [gx oM] at fu;rw [fu];exact ⟨rfl,rfl⟩
theorem Km (late:List Cert) {l:List Int} {j:Nat} {x:Int} (hx:l[j]? = some x):bU late (l.take (j+1))=bU late (l.take j)++(if fI late x then [] else [x]):=by
 unfold bU;rw [iu,hx,CC]
 cases hb:fI late x<;>simp [Ff,hb]
theorem qs (p:Prim) (out:List aW) (hv:Valid p.aq) (hl:aU p.late) (c:Cert) (hc:c.ao.length<=1000000) (hr:1<=c.round/\c.round<=1099511627776):zA 161 [.ptr 0 0,c.pD] (p.st out) (pQ (.d (.sl 1 (nums (bU p.late (bm p.aq c))))) (p.st out)):=by
 have zx:=hv.len;have pA:=kI p.aq (by unfold aU;omega) c oM hr;rw [uM hv] at pA;obtain ⟨l,eM⟩:∃ l,bm p.aq c=l:=⟨_,rfl⟩;rw [eM] at pA ⊢;have hlen:l.length<=1000000:=by
  rw [<-eM];unfold bm;split
  ·exact br _
  ·exact fS (mv ..) hc
 have Jm:=nums_length l;have Gg:=λx=>zm p out hl x;refine gG func161 ntmps161 ?_;refine uH Yg ?_
 repeat' (first|(refine jz ?_)|(refine tU pA ?_)|(refine tV pA ?_)|(refine uB pA ?_)|fail)
 refine aH aF bf aG (σ:=Nat) (λj=>([(0,.ptr 0 0),(5,.arr 2),(6,.d (.sl 1 (nums l))),(7,.k j)],p.st out++[.row 3 1 (nums (bU p.late (l.take j))) false])) (λj=>j<=l.length) (λj=>l.length - j) [0,5,6,7] ?_ ?_
 ·conv=>whnf
  exact ⟨0,rfl,rfl,br _⟩
 ·intro j hj;have KM:(nums (bU p.late (l.take j))).length<=l.length:=by rw [nums_length];exact fS (mv ..) (CB ..)
  refine rdv ?_;repeat' (apply tw<;>intro _)
  ·have dM:(j:Int)<((nums l).length:Int):=aM;refine eG l j λx hx=>?_;have dq:=Km p.late hx;refine ⟨oM,[.j x],bD hx,?_⟩
   conv=>whnf
   refine (Gg x).mono ?_;rintro _ _ ⟨rfl,rfl⟩;obtain ⟨b,hb⟩:∃ b,fI p.late x=b:=⟨_,rfl⟩;rw [hb] at dq ⊢
   cases b with
   | true =>
     refine rdv ?_;refine ⟨j+1,rfl,?_,oM,oM⟩;rw [dq];simp;rfl
   | false =>
     refine rdv ?_;refine ⟨oM,[.j x],bD hx,?_⟩;refine rdv ?_;refine ⟨by simp;omega,?_⟩;refine rdv ?_;refine ⟨j+1,rfl,?_,oM,oM⟩;rw [dq,aR dC,<-db];rfl
  ·have dM:¬(j:Int)<((nums l).length:Int):=aM;have:l.take j=l:=gx oM;rw [this];exact ⟨rfl,rfl⟩
theorem V4 {n k:Nat}:k<qV n↔16 * k<n:=by unfold qV;omega
def Zj (p:Prim) (out:List aW) (kind to:Int) (l:List Int) (j:Bool) (k:Nat):AF×List AB:=([(0,.ptr 0 0),(1,.k kind),(2,.k to),(3,.d (.sl 1 (nums (l.drop (16 * k)))))],p.sj j (out++((cj l).take k).map (o7 p to kind)))
theorem nr (p:Prim) (out:List aW) (ho:out.length<=1000000) (kind to:Int) (l:List Int) (hl:l.length<=1000000):zA 160 [.ptr 0 0,.k kind,.k to,.d (.sl 1 (nums l))] (p.st out) (λav L=>av = .tup []/\∃ j,L=p.sj j (if to=p.id then out else out++jq p to kind l)):=by
 have bR:=d_ l;refine y0 func160 ntmps160 ?_;repeat' (apply tw<;>intro _)
 ·have k0:to=p.id:=aM;rw [bp k0];exact ⟨rfl,false,rfl⟩
 ·have k0:to≠p.id:=aM;rw [aR k0];refine dw aF bf aG (σ:=Bool) (ρ:=Nat) (Zj p out kind to l) (λ_ k=>k<=qV l.length) (λ_ k=>qV l.length - k) [0,1,2,3] ?_ ?_
  ·conv=>whnf
   exact ⟨false,0,rfl,by unfold Zj;rw [zeO,zfK,gR];rfl,br _⟩
  ·intro j k hk;have Jm:=nums_length (l.drop (16 * k));have OW:(out++((cj l).take k).map (o7 p to kind)).length<=100000000:=by
    rw [iQ,tg,mw,bR];unfold qV at *;omega
   cases j
   all_goals
    refine cm ?_;repeat' (apply tw<;>intro _)
    ·have k1:((nums (l.drop (16 * k))).length:Int)>0:=aM;rw [tf] at Jm;have hkc:k<qV l.length:=V4.2 oM;have hx:(cj l)[k]? = some (m8 l k):=by
      unfold cj;rw [CD,zdZ hkc];rfl
     have UR:(nums (l.drop (16 * k))).take (min ((nums (l.drop (16 * k))).length:Int) 16).toNat=nums (m8 l k):=by
      rw [BS,m8];congr 1;by_cases Pe:(l.drop (16 * k)).length<=16
      ·rw [gx Pe,gx (by rw [tf] at *;omega)]
      ·rw [show (min ((nums (l.drop (16 * k))).length:Int) 16).toNat=16 by rw [tf] at Pe;omega]
     have QR:(nums (l.drop (16 * k))).drop (min ((nums (l.drop (16 * k))).length:Int) 16).toNat=nums (l.drop (16 * (k+1))):=by
      rw [BT,List.drop_drop];congr 1;by_cases Pe:(l.drop (16 * k)).length<=16
      ·rw [tf] at Pe;rw [zdE oM,zdE oM]
      ·rw [tf] at Pe;rw [show (min ((nums (l.drop (16 * k))).length:Int) 16).toNat=16 by omega,show 16 * k+16=16 * (k+1) by omega]
     have fT:(m8 l k).length<=16:=ze7 ..;have dS:=dZ (m8 l k) (by unfold aJ;omega);have KS:=kM p (out++((cj l).take k).map (o7 p to kind)) oM (⟨kind,0,to,0,0,0,[],kb,kb,m8 l k⟩:aW);refine ⟨dC,oM,oM,?_⟩;refine cm ?_;rw [show (nums (l.drop (16 * k))).take (min ((nums (l.drop (16 * k))).length:Int) 16).toNat=nums (m8 l k) from UR];refine qR dS ?_;refine (bz KS (.cons (.refl _) (.cons (.agg ?_) .nil))).mono ?_
     ·repeat (first|exact .nil|refine .cons (.refl _) ?_|refine .cons (.nils _ dC) ?_)
     ·rintro _ _ ⟨rfl,rfl⟩;refine cm ?_;refine ⟨oM,oM,oM,?_⟩;refine cm ?_;have CV:(nums (l.drop (16 * k))).take ((nums (l.drop (16 * k))).length:Int).toNat=nums (l.drop (16 * k)):=gx oM;have jN:out++((cj l).take (k+1)).map (o7 p to kind)=out++((cj l).take k).map (o7 p to kind)++[(⟨kind,0,to,0,0,0,[],kb,kb,m8 l k⟩:aW).from p]:=by
       rw [iu,hx];simp [o7,aW.from]
      refine ⟨true,k+1,?_,?_,(oM:k+1<=qV l.length),(oM:qV l.length - (k+1)<qV l.length - k)⟩
      ·unfold Zj;rw [CV,QR]
      ·unfold Zj;rw [jN];rfl
    ·have k1:¬((nums (l.drop (16 * k))).length:Int)>0:=aM;rw [tf] at Jm;have:¬k<qV l.length:=λh=>by have:=V4.1 h;omega
     rw [gx oM]
     first
      | exact ⟨rfl,false,rfl⟩
      | exact ⟨rfl,true,rfl⟩
def Zk (p:Prim) (c:Cert) (src:Int):List aW:=if cJ p.aq c=7/\src≠p.id then jq p src 8 (bU (bN p.late c) (bm p.aq c)) else []
def ajW (p:Prim) (out:List aW) (c:Cert) (src:Int) (i:Nat):AF×List AB:=([(0,.ptr 0 0),(2,.k src),(4,.ptr 2 0),(8,.k i)],p.st out++[.cells (c.cs.map AV.d)])
theorem Cm (p:Prim) (out:List aW) (ho:out.length<=1000000) (c:Cert) (bw:bM p.aq.nodes c) (lK:c.aJ) (hf:lr p.aq p.late) (eh:p.aq.aa.length+p.late.length<60000) (bB:∀ x∈p.late,x.aJ) (hs:ct p.late) (src:Int) :
  zA 111 [.ptr 0 0,c.av,.k src] (p.st out) (λav L=>av = .tup []/\∃ j,L=(mB p c).sj j (out++Zk p c src)):=by
 have bR:=ak p.late;have hr:=hf.room;have Db:aU p.late:=by unfold aU;omega
 have I0:=OV p.aq hf.valid c lK (uN hf.valid.nodes bw) bw;have fT:=bw.head.ao.1;have ga:=bw.head.round;have kx:=gQ hf.valid.nodes;have pA:(bm p.aq c).length<=1000000:=by
  unfold bm;split
  ·exact br _
  ·exact fS (mv ..) oM
 have BE:∀ l,(bU l (bm p.aq c)).length<=1000000:=λl=>fS (mv ..) pA;refine oe ?_;refine Qa func111 ntmps111 ?_;refine uH X6 ?_
 repeat' (first|(refine jz ?_;repeat' (apply tw<;>intro _))|(refine tU I0 ?_)|(refine tV I0 ?_)|(refine uB I0 ?_)|fail)
 ·have h0:cJ p.aq c=0:=aM;have hfp:lr (gH p.aq c) p.late:=⟨na hf.valid bw oM,by have:=o9 p.aq c;omega,λx hx=>by rw [kK];exact hf.late x hx⟩;have CJ:=EP (p.jc (gH p.aq c,p.late)) out hfp;refine aQ CJ ?_;refine ⟨2,[],_,_,_,eQ _,rfl,rfl,rfl,rfl,false,?_⟩;rw [mB,bp h0,Zk,aR (λh=>by have:=h.1;omega),gR];rfl
 ·have h0:cJ p.aq c≠0:=aM;have h7:cJ p.aq c=7:=aM;refine (zm p out Db c.ae).mono ?_;rintro _ _ ⟨rfl,rfl⟩;obtain ⟨b,hb⟩:∃ b,fI p.late c.ae=b:=⟨_,rfl⟩;rw [hb];have Pf:out++Zk p c src=if src=p.id then out else out++jq p src 8 (bU (bN p.late c) (bm p.aq c)):=by
   unfold Zk;by_cases hsi:src=p.id
   ·rw [bp hsi,aR (λh=>h.2 hsi),gR]
   ·rw [aR hsi,bp ⟨h7,hsi⟩]
  have Rg:=qs p out hf.valid Db c oM ⟨oM,oM⟩;have Rh:=nr p out ho 8 src (bU p.late (bm p.aq c)) (BE _)
  cases b with
  | true =>
    have qS:bN p.late c=p.late:=by rw [bN,aR (λh=>by rw [hb] at h;exact absurd h.1 dC)]
    have jN:=Pf;rw [qS] at jN;refine rdv ?_;refine aQ Rg ?_;refine Rh.mono ?_;rintro _ _ ⟨rfl,j,rfl⟩;rw [mB,aR h0,bp h7,qS,jN]
    cases j
    ·refine rdv ?_;refine ⟨2,[],_,_,_,eQ _,rfl,rfl,rfl,rfl,false,rfl⟩
    ·refine rdv ?_;refine ⟨3,[],_,_,_,by show 2<=3;omega,rfl,rfl,rfl,rfl,true,rfl⟩
  | false =>
    refine rdv ?_;repeat' (apply tw<;>intro _)
    ·have ajX:((ah p.late).length:Int)<256:=aM;have hi:=wq p.late c.ae;have qS:bN p.late c=p.late.take (bA p.late c.ae)++c :: p.late.drop (bA p.late c.ae):=by rw [bN,bp ⟨hb,oM⟩]
     refine aH aF bf aG (σ:=Nat) (ajW p out c src) (λi=>i<=bA p.late c.ae) (λi=>p.late.length - i) [0,2,4,8] ?_ ?_
     ·conv=>whnf
      exact ⟨0,rfl,rfl,br _⟩
     ·intro i hii
      conv=>whnf
      refine uH X7 ?_
      repeat' (first|(refine jz ?_;repeat' (apply tw<;>intro _))|fail)
      ·have k1:(i:Int)<((ah p.late).length:Int):=aM;refine eG p.late i λx hx=>?_;have Ri:=kJ (d:=c.ae) hs hx
       repeat' (first|(refine jz ?_;repeat' (apply tw<;>intro _))|((with_reducible apply aC);(focus (intro K hK;(conv=>whnf);exact ⟨oM,x.cs,aB hx,hK⟩));(conv=>whnf))|((with_reducible apply aC);(focus (intro K hK;(conv=>whnf);exact iB hx (by first|rfl|omega) hK));(conv=>whnf))|fail)
       ·have k2:x.ae<c.ae:=aM;have:=Ri.1 k2;exact ⟨i+1,rfl,rfl,(oM:i+1<=bA p.late c.ae),(oM:p.late.length - (i+1)<p.late.length - i)⟩
       ·have k2:¬x.ae<c.ae:=aM;have Sy:i=bA p.late c.ae:=by
         have:¬i<bA p.late c.ae:=λh=>k2 (Ri.2 h);omega
        subst Sy;clear hii;have Ju:ct (bN p.late c):=jU hs c;have BQ:aU (bN p.late c):=by unfold aU;have:=o_ p.late c;omega
        have Rg:=qs { p with late:=bN p.late c } out hf.valid BQ c oM ⟨oM,oM⟩;have Rh:=nr { p with late:=bN p.late c } out ho 8 src (bU (bN p.late c) (bm p.aq c)) (BE _);have wj:=kU (p.late.take (bA p.late c.ae)) (by unfold aJ;simp;omega) (λc hc=>bB c (Fc hc));have dR:List.drop (Int.toNat 0) (List.take ((bA p.late c.ae:Int)).toNat (ah p.late))=ah (p.late.take (bA p.late c.ae)):=by
         rw [show (Int.toNat 0)=0 from rfl,RI,show ((bA p.late c.ae:Int)).toNat=bA p.late c.ae from rfl];simp [ah]
        have e_:List.drop ((bA p.late c.ae:Int)).toNat (List.take ((ah p.late).length:Int).toNat (ah p.late))=ah (p.late.drop (bA p.late c.ae)):=by
         rw [show ((bA p.late c.ae:Int)).toNat=bA p.late c.ae from rfl,show ((ah p.late).length:Int).toNat=(ah p.late).length from rfl,lD];simp [ah]
        have sy:=ak (p.late.take (bA p.late c.ae));have kj:=ak (p.late.drop (bA p.late c.ae));have WH:(p.late.take (bA p.late c.ae)).length<=65536:=fS (CB ..) oM;have hl4:(p.late.drop (bA p.late c.ae)).length<=65536:=by rw [tf];omega
        have MY:ah (p.late.take (bA p.late c.ae))++[[DV.j c.af,.j c.round,.sl 1 (nums c.aE),.sl 1 (nums c.ao),.j c.ae,.sl 1 (nums c.sigs)]]++ah (p.late.drop (bA p.late c.ae))=ah (bN p.late c):=by rw [qS];simp [ah,Cert.cs]
        refine cP I1 ?_
        ((with_reducible apply aC);(focus (intro K hK;(conv=>whnf);exact ⟨oM,oM,oM,hK⟩));(conv=>whnf))
        (refine eF ?_)
        rw [dR];refine aQ wj ?_;refine aQ (dF c lK) ?_;refine ⟨by simp;omega,?_⟩;refine rdv ?_;refine ⟨oM,oM,oM,?_⟩
        conv=>whnf
        rw [e_];refine ⟨by simp [ah];omega,?_⟩
        conv=>whnf
        refine mV [(0,15)] rfl ?_
        conv=>whnf
        rw [MY];refine aQ Rg ?_;refine Rh.mono ?_;rintro _ _ ⟨rfl,j,rfl⟩;rw [mB,aR h0,bp h7,Pf]
        cases j
        ·refine rdv ?_;refine ⟨2,[],_,_,_,eQ _,rfl,rfl,rfl,rfl,false,rfl⟩
        ·refine rdv ?_;refine ⟨3,[],_,_,_,by show 2<=3;omega,rfl,rfl,rfl,rfl,true,rfl⟩
      ·have k1:¬(i:Int)<((ah p.late).length:Int):=aM;have Sy:i=bA p.late c.ae:=oM;subst Sy;clear hii;have Ju:ct (bN p.late c):=jU hs c;have BQ:aU (bN p.late c):=by unfold aU;have:=o_ p.late c;omega
       have Rg:=qs { p with late:=bN p.late c } out hf.valid BQ c oM ⟨oM,oM⟩;have Rh:=nr { p with late:=bN p.late c } out ho 8 src (bU (bN p.late c) (bm p.aq c)) (BE _);have wj:=kU (p.late.take (bA p.late c.ae)) (by unfold aJ;simp;omega) (λc hc=>bB c (Fc hc));have dR:List.drop (Int.toNat 0) (List.take ((bA p.late c.ae:Int)).toNat (ah p.late))=ah (p.late.take (bA p.late c.ae)):=by
        rw [show (Int.toNat 0)=0 from rfl,RI,show ((bA p.late c.ae:Int)).toNat=bA p.late c.ae from rfl];simp [ah]
       have e_:List.drop ((bA p.late c.ae:Int)).toNat (List.take ((ah p.late).length:Int).toNat (ah p.late))=ah (p.late.drop (bA p.late c.ae)):=by
        rw [show ((bA p.late c.ae:Int)).toNat=bA p.late c.ae from rfl,show ((ah p.late).length:Int).toNat=(ah p.late).length from rfl,lD];simp [ah]
       have sy:=ak (p.late.take (bA p.late c.ae));have kj:=ak (p.late.drop (bA p.late c.ae));have WH:(p.late.take (bA p.late c.ae)).length<=65536:=fS (CB ..) oM;have hl4:(p.late.drop (bA p.late c.ae)).length<=65536:=by rw [tf];omega
       have MY:ah (p.late.take (bA p.late c.ae))++[[DV.j c.af,.j c.round,.sl 1 (nums c.aE),.sl 1 (nums c.ao),.j c.ae,.sl 1 (nums c.sigs)]]++ah (p.late.drop (bA p.late c.ae))=ah (bN p.late c):=by rw [qS];simp [ah,Cert.cs]
       refine cP I1 ?_
       ((with_reducible apply aC);(focus (intro K hK;(conv=>whnf);exact ⟨oM,oM,oM,hK⟩));(conv=>whnf))
       (refine eF ?_)
       rw [dR];refine aQ wj ?_;refine aQ (dF c lK) ?_;refine ⟨by simp;omega,?_⟩;refine rdv ?_;refine ⟨oM,oM,oM,?_⟩
       conv=>whnf
       rw [e_];refine ⟨by simp [ah];omega,?_⟩
       conv=>whnf
       refine mV [(0,15)] rfl ?_
       conv=>whnf
       rw [MY];refine aQ Rg ?_;refine Rh.mono ?_;rintro _ _ ⟨rfl,j,rfl⟩;rw [mB,aR h0,bp h7,Pf]
       cases j
       ·refine rdv ?_;refine ⟨2,[],_,_,_,eQ _,rfl,rfl,rfl,rfl,false,rfl⟩
       ·refine rdv ?_;refine ⟨3,[],_,_,_,by show 2<=3;omega,rfl,rfl,rfl,rfl,true,rfl⟩
    ·have ajX:¬((ah p.late).length:Int)<256:=aM;have qS:bN p.late c=p.late:=by rw [bN,aR (λh=>by have:=h.2;omega)]
     have jN:=Pf;rw [qS] at jN;refine aQ Rg ?_;refine Rh.mono ?_;rintro _ _ ⟨rfl,j,rfl⟩;rw [mB,aR h0,bp h7,qS,jN]
     cases j
     ·refine rdv ?_;refine ⟨2,[],_,_,_,eQ _,rfl,rfl,rfl,rfl,false,rfl⟩
     ·refine rdv ?_;refine ⟨3,[],_,_,_,by show 2<=3;omega,rfl,rfl,rfl,rfl,true,rfl⟩
 ·have h0:cJ p.aq c≠0:=aM;have h7:cJ p.aq c≠7:=aM;refine ⟨2,[],_,_,_,eQ _,rfl,rfl,rfl,rfl,false,?_⟩;rw [mB,aR h0,aR h7,Zk,aR (λh=>h7 h.1),gR];rfl
end Go.Proofs.YtolkmjfkkkiboaaGreat
