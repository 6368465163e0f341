/- PrimaryExact: abstract runs. -/
import Derived.Test.YtolkmjfkkkiboaaGreatPrimaryExactLyk
set_option linter.all false
namespace Go.Ab
noncomputable section
open Go.RowKit
theorem rR {M0:MZ} {E:Nat->Option Nat} {L:List AB} {w w':World} {row:Option Nat} (hg:w.grownBy w' row) (qT:∀ r,row=some r->∃ o:Obj,w.heap[r]? = some o/\o.isCells=false):(aj M0 E L w).le (aj M0 E L w'):=by
 refine ⟨ug rfl (λb cur e m h1 h2=>⟨cur,m,by rw [grownBy_keeps_cells hg qT h1 rfl];exact h1,rfl,h2⟩) λa u h1 h2=>⟨cell_kept h1 hg qT,h2⟩,λi b h=>h,?_,λi j o v h=>h,λi x v ⟨ab,h1,h2⟩=>⟨ab,h1,vf (λb _ cur e m h=>by rw [grownBy_keeps_cells hg qT h rfl];exact h) h2⟩⟩;rintro i v ⟨ab,h1,h2⟩;refine ⟨ab,h1,?_⟩
 cases ab with
 | cells cs=>exact h2
 | map es=>exact h2
 | cK b cs=>exact h2
 | obj o=>exact h2
 | qJ o n cap=>exact h2
 | aN lo n ok=>exact h2.elim
 | dead=>exact h2
 | row e n xs sh =>
   simp only [bj] at h2 ⊢
   cases hE:E i with
   | none=>rw [hE] at h2;exact h2
   | some b =>
     rw [hE] at h2;obtain ⟨cap,cur,h3,h4,h5⟩:=h2;exact ⟨cap,cur,h3,by rw [grownBy_keeps_cells hg qT h4 rfl];exact h4,h5⟩
theorem aI.other {c:Ctx} (hc:c.wf) {E:Nat->Option Nat} {L:List AB} {w w':World} {row:Option Nat} (h:aI c E L w) (hg:w.grownBy w' row) (qT:∀ r,row=some r->∃ o:Obj,w.heap[r]? = some o/\o.isCells=false)
  (hp:∀ r,row=some r->¬c.P0 r) (ho:∀ r,row=some r->∀ i ab,L[i]? = some ab->(ab.live=true->E i≠some r)/\r∉ab.boxes):aI c E L w':=by
 have hle:=rR (M0:=c.M0) (E:=E) (L:=L) hg qT;refine ⟨hg.os.trans h.os,hg.tape.trans h.tape,hg.output.trans h.output,fS h.size hg.size,λb hb=>?_,λi ab hi=>?_,h.low,h.inj,h.q_.trans hle,h.bx⟩
 ·rw [hg.block b (kO (hc.low b hb) h.size) (λe=>hp b e.symm hb)];exact h.gS b hb
 ·refine BR.mono hle (h.fQ i ab hi) (λb he hl=>hg.block b (h.lt hi hl he) (λe=>(ho b e.symm i ab hi).1 hl he)) (λb hb=>hg.block b (h.blt hi hb) (λe=>(ho b e.symm i ab hi).2 hb))
def jb (L:List AB):Bool:=L.all λab=>match ab with
 | .cells _=>true
 | .row _ _ _ _=>true
 | .dead=>true
 | _=>false
theorem nL {c:Ctx} {E:Nat->Option Nat} {L:List AB} {w:World} (h:aI c E L w) (hp:jb L=true) {r:Nat} {o:Obj} (hr:w.heap[r]? = some o) (ho:o.isCells=false):∀ i ab,L[i]? = some ab->(ab.live=true->E i≠some r)/\r∉ab.boxes:=by
 intro i ab hi;have fT:=Fe.1 hp ab (fU hi);have hb:=h.fQ i ab hi
 cases ab with
 | cells cs =>
   refine ⟨λ_ he=>?_,by simp [AB.boxes]⟩;obtain ⟨b,cur,e,h1,h2,_⟩:=hb;rw [he] at h1
   cases h1
   rw [hr] at h2
   cases h2
   cases ho
 | row e n xs sh =>
   refine ⟨λ_ he=>?_,by simp [AB.boxes]⟩;obtain ⟨_,_,h3⟩:=hb;rw [he] at h3;obtain ⟨cap,cur,h4,_⟩:=h3;rw [hr] at h4
   cases h4
   cases ho
 | dead=>exact ⟨λh=>(by cases h),by simp [AB.boxes]⟩
 | map es=>cases fT
 | cK b cs=>cases fT
 | obj o=>cases fT
 | qJ o n cap=>cases fT
 | aN lo n ok=>cases fT
def xX (c:Ctx) (E:Nat->Option Nat) (L:List AB) (w:World):Ctx :=
 { w0:=w,P0:=λb=>b<w.heap.size/\∀ (i:Nat) (ab:AB),L[i]? = some ab->(ab.live=true->E i≠some b)/\b∉ab.boxes,
   M0:=⟨λb o=>(b<w.heap.size/\∀ (i:Nat) (ab:AB),L[i]? = some ab->(ab.live=true->E i≠some b)/\b∉ab.boxes)/\G_ c.M0 E L b o,c.M0.s⟩,E0:=E,L0:=L,n:=c.n }
theorem vQ {c:Ctx} (hc:c.wf) {E:Nat->Option Nat} {L:List AB} {w:World} (h:aI c E L w) {b:Nat} (hb:c.P0 b):(xX c E L w).P0 b :=
 ⟨kO (hc.low b hb) h.size,λi ab hi=>⟨λhl he=>h.low i ab b hi hl he hb,λhx=>h.bx.low i ab b hi hx hb⟩⟩
theorem z6 {c:Ctx} (hc:c.wf) {E:Nat->Option Nat} {L:List AB} {w:World} (h:aI c E L w):(xX c E L w).wf:=⟨λb hb=>hb.1,λb o h=>h.1,λs hs b hb=>vQ hc h (hc.st s hs b hb)⟩
theorem IH {M0 M1:MZ} {E:Nat->Option Nat} {L:List AB} {w:World} (hS:M1.s=M0.s) (h:∀ b o,G_ M1 E L b o->G_ M0 E L b o):(aj M0 E L w).le (aj M1 E L w) :=
 ⟨ug hS (.refl _) λa u h1 h2=>⟨h1,λhm=>h2 (h _ _ hm)⟩,λi b h=>h,λi v h=>h,λi j o v h=>h,λi x v h=>h⟩
theorem vR {c:Ctx} {E:Nat->Option Nat} {L:List AB} {w:World} (h:aI c E L w):aI (xX c E L w) E L w/\(aj c.M0 E L w).le (aj (xX c E L w).M0 E L w):=by
 have hle:(aj c.M0 E L w).le (aj (xX c E L w).M0 E L w):=IH rfl λb o hm=>by
  rcases hm with hm|hm|hm
  ·exact hm.2
  ·exact .inr (.inl hm)
  ·exact .inr (.inr hm)
 refine ⟨⟨rfl,rfl,rfl,eQ _,λ_ _=>rfl,λi ab hi=>BR.mono hle (h.fQ i ab hi) (λ_ _ _=>rfl) (λ_ _=>rfl),λi ab b hi hl he hp=>(hp.2 i ab hi).1 hl he,h.inj,.refl _,⟨λi ab b hi hb hp=>(hp.2 i ab hi).2 hb,h.bx.own,h.bx.nd,h.bx.dj⟩⟩,hle⟩
theorem oX {c:Ctx} (hc:c.wf) {E E':Nat->Option Nat} {L L':List AB} {w w':World} (h:aI c E L w) (h':aI (xX c E L w) E' L' w'):aI c E' L' w'/\(aj c.M0 E L w).le (aj c.M0 E' L' w')/\(aj (xX c E L w).M0 E' L' w').le (aj c.M0 E' L' w'):=by
 have hle:(aj (xX c E L w).M0 E' L' w').le (aj c.M0 E' L' w'):=IH rfl λb o hm=>by
  rcases hm with hm|hm|hm
  ·exact .inl ⟨vQ hc h (hc.sub b o hm),.inl hm⟩
  ·exact .inr (.inl hm)
  ·exact .inr (.inr hm)
 have bK:=((vR h).2.trans h'.q_).trans hle;refine ⟨⟨h'.os.trans h.os,h'.tape.trans h.tape,h'.output.trans h.output,fS h.size h'.size,λb hb=>(h'.gS b (vQ hc h hb)).trans (h.gS b hb),λi ab hi=>BR.mono hle (h'.fQ i ab hi) (λ_ _ _=>rfl) (λ_ _=>rfl),λi ab b hi hl he hp=>h'.low i ab b hi hl he (vQ hc h hp),h'.inj,h.q_.trans bK,⟨λi ab b hi hb hp=>h'.bx.low i ab b hi hb (vQ hc h hp),h'.bx.own,h'.bx.nd,h'.bx.dj⟩⟩,bK,hle⟩
end
noncomputable section
open Go.RowKit
section
variable {P:Program} {tt:TypeId->Option TI} {fo:FuncId->Bool} {n:Nat}
theorem D4 (ht:cp P tt) (hz:jL tt) (eZ:jx P fo) {ops:Array Oper} (pl:a_) (fT:vF ops.toList pl=true) {K:AF->List AB->Prop} {F:AF} {L:List AB}
  (h:rI P tt fo n ops.toList pl.r0 F L [] λF D=>rK P tt fo n ops.toList pl.lf pl.ph F L D K) {c:Ctx} {E:Nat->Option Nat} {a:Act} {w:World} (hc:c.wf) (dS:c.n=n) (hs:eE c E F L a w) :
  wpAny P .any ops (λx a' w'=>∃ E' F' L',eE c E' F' L' a' w'/\x = .normal/\K F' L') ops.size (Array.replicate ops.size false) a { w with drawn:=w.drawn+1 }:=by
 unfold vF at fT;simp only [oB,Fe,G6] at fT;obtain ⟨⟨⟨⟨⟨⟨⟨⟨p1,p2⟩,p3⟩,p4⟩,p5⟩,p6⟩,p7⟩,p8⟩,p9⟩:=fT;have fh:=kr p1;have hlen:=ie p2.1;have bK:∀ i,i<ops.toList.length->i∈pl.r0++later pl.ph:=λi hi=>by
  have:=mf p3 i ops.toList[i] (by rw [ff hi]);rw [gP] at this;exact dP this
 have C0:Bg ops.toList pl.lf (pl.ph.map (·.1)):=⟨vL p8,FY p5,λj o ho m hm=>by
  have:=mf p9 j o ho;simp only [Fe,gP] at this;exact kO (Nt _) (Hh (this m hm))⟩
 -- all DE numbers are in range
 have Bm:∀ i∈pl.r0++later pl.ph,i<ops.toList.length:=by
  intro i hi;exact kO (Nt _) (Hh (p2.2 i hi))
 have ui:eE c E F L a { w with drawn:=w.drawn+1 }:=hs.keeps hc (aO.drew w);obtain ⟨F',D',pre',k1,k2,XC,k3,k4,k5,k6⟩:=vH (A:=pl.lf) (es:=pl.ph.map (·.1)) (rest:=later pl.ph) C0.dst h (oP p4) fh (by simp) (λr hr=>lZ (p7 r hr)) (by simp);have e:ops=ops.toList.toArray:=by simp
 rw [e];refine Bj ht hz eZ C0 hc dS (K:=K) ?_ _ pl.ph pl.r0 pre' F' L D' _ a _ ⟨by simp,?_,?_,?_,k3,k4,k2,fh,XC,⟨none,oQ p6⟩,k1⟩ ?_
 ·intro E F L a w hK hs;exact ⟨E,F,L,hs,rfl,hK⟩
 ·intro i;rw [<-gA];constructor
  ·intro hi;by_cases bB:i<ops.toList.length
   ·exact bK i bB
   ·simp at bB;simp [zfO.2 bB] at hi
  ·intro hi;have:=Bm i hi;simp at this;simp [this]
 ·intro j o ho pK lA;exact absurd (bK j (dW.1 ho).1) (by simp [pK,lA])
 ·refine ⟨E,ui.vg λs=>?_⟩;by_cases fD:s∈dstsOf ops.toList pl.r0
  ·right;exact dU fD
  ·left;rw [bk fD,k6 s fD]
 ·have:ops.toList.toArray.size=(pl.r0++later pl.ph).length:=by rw [hlen];simp
  rw [this];simp
end
def CH (l:Nat) (P:Program) (n k0:Nat) (code:Code) (Q:Exit->AF->List AB->Prop) (F:AF) (L:List AB):Prop :=
 ∀ (c:Ctx) (E:Nat->Option Nat) (a:Act) (w:World) (m:Nat),c.wf->c.n=n->c.L0.length=k0->eE c E F L a w ->
   code.wpIn (rf l) m P (λx a' w'=>∃ E' F' L',eE c E' F' L' a' w'/\Q x F' L') a w
section
variable {P:Program} {tt:TypeId->Option TI} {fo:FuncId->Bool} {n k0 l:Nat}
theorem CH.mono {code:Code} {Q Q':Exit->AF->List AB->Prop} {F:AF} {L:List AB} (h:CH l P n k0 code Q F L) (hq:∀ x F L,Q x F L->Q' x F L):CH l P n k0 code Q' F L :=
 λc E a w m h1 h2 h3 h4=>wpIn_mono (h c E a w m h1 h2 h3 h4) λ_ _ _ ⟨E',F',L',k1,k2⟩=>⟨E',F',L',k1,hq _ _ _ k2⟩
theorem LM {c:Ctx} {K:AF->List AB->Prop}:¬LetsOut (λ(x:Exit) (a':Act) (w':World)=>∃ E' F' L',eE c E' F' L' a' w'/\x=Exit.normal/\K F' L'):=by
 rintro ⟨a,w,E,F,L,_,h,_⟩
 cases h
theorem qb (ht:cp P tt) (hz:jL tt) (eZ:jx P fo) {id:Nat} {ops:Array Oper} (hd:ops.toList.all (λo => !zZ o)=true) {K:AF->List AB->Prop} {F:AF} {L:List AB}
  (h:dI P tt fo n k0 (.region id ops false) (λe F' L'=>e = .normal/\K F' L') F L):CH l P n k0 (.region id ops false) (λe F' L'=>e = .normal/\K F' L') F L:=by
 rw [eW] at h;simp only [dY] at h;intro c E a w m hc dS _ hs;refine wpIn_region_list ?_;have h0:=oL (Q:=λx a' w'=>∃ E' F' L',eE c E' F' L' a' w'/\x = .normal/\K F' L') ht hz eZ hc dS h hs (λE' F' L' a' w' hk bP=>⟨E',F',L',bP,rfl,hk.2⟩);rw [uX] at h0;exact D2 LM (Bw hd) h0
theorem II (ht:cp P tt) (hz:jL tt) (eZ:jx P fo) (hm:P.follows .mixedOrders=true) {id:Nat} {ops:Array Oper} (hd:ops.toList.all (λo => !zZ o)=true) (pl:a_) (fT:vF ops.toList pl=true) {K:AF->List AB->Prop} {F:AF} {L:List AB}
  (h:nJ P tt fo n ops.toList pl.r0 F L [] λF D=>rN P tt fo n ops.toList pl.lf pl.ph F L D K):CH l P n k0 (.region id ops true) (λe F' L'=>e = .normal/\K F' L') F L:=by
 simp only [oS,rO] at h;intro c E a w m hc dS _ hs;exact wpIn_region_any hm (IG LM (Bw hd) (D4 ht hz eZ pl fT h hc dS hs))
theorem XL {x y:Code} {Q:Exit->AF->List AB->Prop} {F:AF} {L:List AB} (h:CH l P n k0 x (λe F' L'=>(e = .normal/\CH l P n k0 y Q F' L')∨((∃ id,e = .exit id)/\Q e F' L')) F L):CH l P n k0 (.seq x y) Q F L:=by
 intro c E a w m hc dS hk hs;refine wpIn_seq (wpIn_mono (h c E a w m hc dS hk hs) ?_);rintro e a' w' ⟨E',F',L',h1,(⟨rfl,h2⟩|⟨⟨id,rfl⟩,h2⟩)⟩
 ·exact h2 c E' a' w' m hc dS hk h1
 ·exact ⟨E',F',L',h1,h2⟩
theorem vS {x y:Code} {Q:Exit->AF->List AB->Prop} {F:AF} {L:List AB} (h:CH l P n k0 x (λe F' L'=>e = .normal/\CH l P n k0 y Q F' L') F L):CH l P n k0 (.seq x y) Q F L :=
 XL (h.mono λ_ _ _ h => .inl h)
theorem IJ {x:Operand} {A B:Code} {Q:Exit->AF->List AB->Prop} {F:AF} {L:List AB} (h:A5 F x (λF=>CH l P n k0 A Q F L) (λF=>CH l P n k0 B Q F L)):CH l P n k0 (.cond x A B) Q F L:=by
 intro c E a w m hc dS hk hs;obtain ⟨t,F',h1,h2,h3⟩:=A6 h hs;refine wpIn_cond h1 ?_
 cases t with
 | true=>exact h3 c E a w m hc dS hk h2
 | false=>exact h3 c E a w m hc dS hk h2
theorem IK {Q:Exit->AF->List AB->Prop} {F:AF} {L:List AB} (h:Q .normal F L):CH l P n k0 .skip Q F L:=λc E a w m _ _ _ hs=>wpIn_skip ⟨E,F,L,hs,h⟩
theorem vT {id:Nat} {Q:Exit->AF->List AB->Prop} {F:AF} {L:List AB} (h:Q (.exit id) F L):CH l P n k0 (.exit id) Q F L:=λc E a w m _ _ _ hs=>wpIn_exit ⟨E,F,L,hs,h⟩
theorem D5 {id:Nat} {x:Code} {Q:Exit->AF->List AB->Prop} {F:AF} {L:List AB} (h:CH l P n k0 x (λe F' L'=>(e = .normal/\Q .normal F' L')∨(∃ Hd,e = .exit Hd/\Hd≠id/\Q (.exit Hd) F' L')∨(e = .exit id/\Q .normal F' L')) F L):CH l P n k0 (.block id x) Q F L:=by
 intro c E a w m hc dS hk hs;refine wpIn_block (wpIn_mono (h c E a w m hc dS hk hs) ?_);rintro e a' w' ⟨E',F',L',h1,(⟨rfl,h2⟩|⟨Hd,rfl,ef,h2⟩|⟨rfl,h2⟩)⟩
 ·exact ⟨E',F',L',h1,h2⟩
 ·simp only [Exit.inBlock];rw [aR ef];exact ⟨E',F',L',h1,h2⟩
 ·simp only [Exit.inBlock,Hm];exact ⟨E',F',L',h1,h2⟩
end
end
noncomputable section
open Go.RowKit
theorem Ob:∀ {k i:Nat},i∈upto k->i<k
 | 0,i,h=>by cases h
 | k+1,i,h=>by
   rcases gA.1 h with h|h
   ·have:=Ob h;omega
   ·have:=Hj.1 h;omega
theorem qc:∀ (k:Nat),(upto k).Nodup
 | 0=>List.nodup_nil
 | k+1=>by
   refine CN.2 ⟨qc k,by simp,λa ha b hb e=>?_⟩;have:=Ob ha;have:=Hj.1 hb;omega
theorem Oc {c:Ctx} {E:Nat->Option Nat} {L:List AB} {w:World} (He:c.L0.length<=L.length) {E2:Nat->Option Nat} {L2:List AB} {W:World} (h2:aI c E2 L2 W) (hle:(aj c.M0 E L w).le (aj c.M0 E2 L2 W))
  (hb:tl (gO (upto L.length) · 0) L2 (upto L.length)=some L):∃ E',aI c E' L W/\(aj c.M0 E L w).le (aj c.M0 E' L W):=by
 obtain ⟨h3,hl⟩:=h2.part (qc _) (λi hi=>mR oM) hb;have hr:∀ i,i<L.length->gO (upto L.length) i 0=some i:=λi hi=>ji (qc _) (mR hi);refine ⟨_,h3,⟨λa u h=>hl.rd _ _ (hle.rd _ _ h),λi b h=>?_,λi v h=>?_,λi j o v h=>?_,λi x v h=>?_⟩⟩
 ·obtain ⟨ab,hi,_⟩:=id h;exact hl.pt i i (hr i (dW.1 hi).1) _ (hle.pt _ _ h)
 ·obtain ⟨ab,hi,_⟩:=id h;exact hl.ar i i (hr i (dW.1 hi).1) _ (hle.ar _ _ h)
 ·obtain ⟨ab,hi,_⟩:=id h;exact hl.ap i i (hr i (dW.1 hi).1) _ _ _ (hle.ap _ _ _ _ h)
 ·obtain ⟨ab,hi,_⟩:=id h;exact hl.is i i (hr i (dW.1 hi).1) _ _ (hle.is _ _ _ h)
def Bx (R:RC) (W W':World):Prop:=∀ x u,R.rd x u->W.cell? x=some u->W'.cell? x=some u
theorem Bx.trans {R:RC} {A B C:World} (h:Bx R A B) (k:Bx R B C):Bx R A C:=λx u hr ha=>k x u hr (h x u hr ha)
theorem Bx.put {R:RC} {W:World} {l:Nat} {o:Obj} (o':Obj) (hl:W.heap[l]? = some o) (ho:o.isCells=false):Bx R W (W.putObj l o'):=λx u _ hx =>
 cell_kept hx (grownBy_putObj' W l o') (λr e=>by cases e;exact ⟨o,hl,ho⟩)
def abV (c:Ctx) (E:Nat->Option Nat) (F:AF) (L:List AB) (a:Act) (w W:World):Prop:=∃ E',eE c E' F L a W/\(aj c.M0 E L w).le (aj c.M0 E' L W)
def abW (c:Ctx) (E:Nat->Option Nat) (F:AF) (L:List AB) (a:Act) (w:World) (K:List AB->Prop) (W:World):Prop:=∃ E' L',eE c E' F L' a W/\(aj c.M0 E L w).le (aj c.M0 E' L' W)/\jb L'=true/\K L'
theorem eE.other {c:Ctx} (hc:c.wf) {E:Nat->Option Nat} {F:AF} {L:List AB} {a:Act} {B:Nat} (hB:c.w0.heap.size<=B) (fT:jb L=true) {W W':World} {row:Option Nat} (h:eE c E F L a W) (hg:W.grownBy W' row)
  (hr:∀ r,row=some r->B<=r/\∃ o:Obj,W.heap[r]? = some o/\o.isCells=false):eE c E F L a W' :=
 h.mono (h.h.other hc hg (λr e=>(hr r e).2) (λr e hp=>by have:=hc.low r hp;have:=(hr r e).1;omega) (λr e=>by obtain ⟨_,o,ho,hn⟩:=hr r e;exact nL h.h fT ho hn)) (rR hg λr e=>(hr r e).2)
theorem TV {c:Ctx} (hc:c.wf) {E:Nat->Option Nat} {F:AF} {L:List AB} {a:Act} {w:World} {K:List AB->Prop} {B:Nat} (hB:c.w0.heap.size<=B) {β:Type}:OwnFrom B (λ(_:β) W=>abW c E F L a w K W):=by
 rintro s W W' row ⟨E',L',h1,h2,h3,h4⟩ hg hr;exact ⟨E',L',h1.other hc hB h3 hg hr,h2.trans (rR hg λr e=>(hr r e).2),h3,h4⟩
theorem TW {c:Ctx} (hc:c.wf) {E:Nat->Option Nat} {F:AF} {L:List AB} {a:Act} {w:World} {B:Nat} (hB:c.w0.heap.size<=B) (fT:jb L=true) {β:Type}:OwnFrom B (λ(_:β) W=>abV c E F L a w W):=by
 rintro s W W' row ⟨E',h1,h2⟩ hg hr;exact ⟨E',h1.other hc hB fT hg hr,h2.trans (rR hg λr e=>(hr r e).2)⟩
theorem By {c:Ctx} {E E':Nat->Option Nat} {L L':List AB} {w w':World} (h:aI c E L w) (fT:jb L=true) (h':aI (xX c E L w) E' L' w') (B:Nat):KeepsFrom B w w' :=
 ⟨h'.size,λk o _ hk ho=>(h'.gS k ⟨(ud.1 hk).1,nL h fT hk ho⟩).trans hk⟩
end
noncomputable section
open Go.RowKit
theorem Bz {ps:List (Tmp×Value)}:∀ {t:Array Value},(ps.foldl (λt (p,v)=>t.setIfInBounds p v) t).size=t.size:=by
 induction ps with
 | nil=>intro t;rfl
 | cons p r ih=>intro t;rw [List.foldl_cons,ih];simp
end
end Go.Ab
