/- PrimaryExact: abstract runs. -/
import Derived.Test.YtolkmjfkkkiboaaGreatPrimaryExactLyaa
set_option linter.all false
namespace Go.Ab
noncomputable section
open Go.RowKit
section
variable {P:Program} {tt:TypeId->Option TI} {fo:FuncId->Bool} {n:Nat}
theorem T0 (ht:cp P tt) {fn:Func} {rs:List ResultVar} (hr:fn.results.toList=rs) (ex:Bool) {c:Ctx} (hc:c.wf) {cg:List AB} {post:AV->List AB->Prop} (hL:c.L0.length=cg.length) {E':Nat->Option Nat} {F':AF} {L':List AB} {a:Act} {w':World} (PS:eE c E' F' L' a w')
  (Tu:C3 tt F' L' rs λl=>PQ ex l L' λl L'=>C4 cg.length (tR l) L' post):∃ v av lB Xy,(results fn a.tmps).run P w' = .ok v w'/\post av lB/\aI c Xy lB w'/\VR (aj c.M0 Xy lB w') av v:=by
 obtain ⟨l,us,h1,h2,h3⟩:=zV ht PS Tu;have jN:∃ l' L2,C4 cg.length (tR l') L2 post/\aI c E' L2 w'/\cD (aj c.M0 E' L2 w') l' us:=by
  unfold PQ at h1
  cases ex with
  | true=>exact ⟨l,L',h1,PS.h,h3⟩
  | false =>
    obtain ⟨ys,L2,k1,k2,_,k4⟩:=vx hc PS.h h1 h3;exact ⟨ys,L2,k1,k2,k4⟩
 obtain ⟨l',L2,h4,h5,h6⟩:=jN;have gi:=yN (P:=P) fn a.tmps w' us (by rw [hr];exact h2);have abM:VR (aj c.M0 E' L2 w') (tR l') (Ic us):=by
  unfold tR;split
  ·rename_i x;simp only [cD] at h6;obtain ⟨u,dt,rfl,k1,rfl⟩:=h6;exact k1
  ·rename_i ef;have yD:∀ v,us≠[v]:=by
    intro v e;subst e
    cases l' with
    | nil=>simp [cD] at h6
    | cons x l'' =>
      simp only [cD] at h6;obtain ⟨u,dt,e1,_,h7⟩:=h6
      cases e1
      cases l'' with
      | nil=>exact ef x rfl
      | cons y l3=>simp [cD] at h7
   have e:Ic us = .tuple us.toArray:=by
    match us,yD with
    | [],_=>rfl
    | [v],h=>exact absurd rfl (h v)
    | v :: u :: r,_=>rfl
   rw [e];simp only [VR];exact ⟨_,rfl,by simpa using h6⟩
 obtain ⟨Xy,av,lB,k1,k2,k3⟩:=zW h4 hL h5 abM;exact ⟨_,av,lB,Xy,gi,k1,k2,k3⟩
theorem vU (ht:cp P tt) {f:FuncId} {fn:Func} {code:Code} (hf:P.funcs[f]? = some fn) (hb:fn.body=some code) (hn:fn.ntmps=n) {rs:List ResultVar} (hr:fn.results.toList=rs)
  (ex:Bool) {cS:List AV} {cg:List AB} {post:AV->List AB->Prop} (hlen:Nat.ble cS.length n=true)
  (h:∀ (c:Ctx) (a:Act),c.wf->c.n=n->c.L0.length=cg.length->eE c c.E0 (oN cS 0) cg a c.w0->code.wpIn Fence.wide 5 P (λe a' w'=>(e = .ret∨e = .normal)/\∃ E' F' L',xL tt ex cg.length rs post .ret F' L'/\(eE c E' F' L' a' w' ∨
    ∃ D,a'.defers=[{ target := .collected D,args := #[] }]/\w'.heap[D]? = some (.deferred (some []))/\c.w0.heap.size<=D/\eE c E' F' L' { a' with defers:=[] } w'/\jb L'=true)) a c.w0):ay P f cS cg post:=by
 intro c vs hc hL hs hv
 let c':Ctx:={ c with n:=n }
 have kc:c'.wf:=⟨hc.low,hc.sub,hc.st⟩;have bP:aI c' c.E0 cg c.w0:=⟨hs.os,hs.tape,hs.output,hs.size,hs.gS,hs.fQ,hs.low,hs.inj,hs.q_,hs.bx⟩;have CX:vs.size=cS.length:=by
  have:∀ (l:List AV) (us:List Value),cD (aj c.M0 c.E0 cg c.w0) l us->us.length=l.length:=by
   intro l
   induction l with
   | nil=>intro us h;simp only [cD] at h;subst h;rfl
   | cons x l ih=>intro us h;simp only [cD] at h;obtain ⟨u,dt,rfl,_,h2⟩:=h;simp [ih dt h2]
  have:=this _ _ hv;simpa using this
 have SO:cS.length<=n:=Hh hlen;refine callsIn_wide.1 (callsIn_of_wp_marks (n:=5) hf hb trivial ?_ rfl);rw [hn];have fj:eE c' c.E0 (oN cS 0) cg { tmps:=vs++Array.replicate (n - vs.size) undef,defers:=[] } c.w0:=by
  refine ⟨bP,?_,(by show (vs++Array.replicate (n - vs.size) undef).size=n;simp;omega),rfl⟩;have key:∀ (l:List AV) (us:List Value) (k:Nat),cD (aj c.M0 c.E0 cg c.w0) l us->∀ s,(bt (oN l k) s = .d .any)∨(k<=s/\∃ u,us[s - k]? = some u/\VR (aj c.M0 c.E0 cg c.w0) (bt (oN l k) s) u):=by
   intro l
   induction l with
   | nil=>intro us k _ s;exact .inl rfl
   | cons x l ih =>
     intro us k h s;simp only [cD] at h;obtain ⟨u,dt,rfl,h1,h2⟩:=h;simp only [oN,du,b_]
     cases hbq:Nat.beq k s with
     | true =>
       have:=ie hbq;subst this;exact .inr ⟨eQ _,u,by simp,h1⟩
     | false =>
       simp only [py];rcases ih dt (k+1) h2 s with h3|⟨h3,u',h4,h5⟩
       ·exact .inl h3
       ·refine .inr ⟨oM,u',?_,h5⟩;have:s - k=(s - (k+1))+1:=oM;rw [this];simpa using h4
  intro s;rcases key cS vs.toList 0 hv s with h1|⟨_,u,h2,h3⟩
  ·rw [h1];simp [VR,VD]
  ·have bB:s<vs.size:=by
    have:=(dW.1 h2).1;simpa using this
   have e:(vs++Array.replicate (n - vs.size) undef).getD s undef=u:=by
    have:vs[s]? = some u:=by simpa using h2
    simp [zdO bB,this]
   show VR _ _ ((vs++Array.replicate (n - vs.size) undef).getD s undef);rw [e];exact h3
 have hL':c'.L0.length=cg.length:=by rw [<-hL]
 refine wpIn_mono (h c' _ kc rfl hL' fj) ?_;rintro e a w' ⟨he,E',F',L',tp,oC⟩;have tp:C3 tt F' L' rs λl=>PQ ex l L' λl L'=>C4 cg.length (tR l) L' post:=tp;have key:LeavesInM Fence.wide 5 P fn a.tmps (λe w'=>∃ v av L' E',e = .returned v/\post av L'/\aI c E' L' w'/\VR (aj c.M0 E' L' w') av v) a.defers .returning w':=by
  have conv:∀ {E2:Nat->Option Nat} {L2:List AB} {w2:World},aI c' E2 L2 w2->aI c E2 L2 w2:=λk2=>⟨k2.os,k2.tape,k2.output,k2.size,k2.gS,k2.fQ,k2.low,k2.inj,k2.q_,k2.bx⟩
  rcases oC with PS|⟨D,hdf,hK,hD,PS,fT⟩
  ·obtain ⟨v,av,L2,E2,k1,k2,k3,k4⟩:=T0 ht hr ex kc hL' PS tp;rw [PS.df];exact ⟨v,k1,v,av,L2,E2,rfl,k2,conv k3,k4⟩
  ·have e_:=PS.other kc (B:=c.w0.heap.size) (eQ _) fT (grownBy_putObj' w' D (.deferred none)) (λr e=>by cases e;exact ⟨hD,_,hK,rfl⟩);obtain ⟨v,av,L2,E2,k1,k2,k3,k4⟩:=T0 ht hr ex kc hL' e_ tp;rw [hdf];exact ⟨by simp,.inl ⟨D,_,rfl,run_takeDeferred hK,v,k1,v,av,L2,E2,rfl,k2,conv k3,k4⟩⟩
 rcases he with rfl|rfl<;>exact key
end
end
noncomputable section
open Go.RowKit
theorem IL {L:List AB} (h:jb L=true) {i:Nat} {ab:AB} (hi:L[i]? = some ab):ab.boxes=[]:=by
 have:=Fe.1 h ab (fU hi)
 cases ab<;>first|rfl|cases this
theorem Oe {rd:Addr->Value->Prop}:∀ {xs:List DV} {us:List Value},cR rd xs us->us.length=xs.length
 | [],us,h=>by simp only [cR,Cs] at h;subst h;rfl
 | x :: xs,us,h=>by
   simp only [cR,Cs] at h;obtain ⟨u,dt,rfl,_,_,h2⟩:=h;simp [Oe (xs:=xs) h2]
theorem D6 {c:Ctx} (hc:c.wf) {E:Nat->Option Nat} {L:List AB} {w:World} {n:Nat} {rows:List (List DV)} (h:aI c E (L++[.cells [.d (.sl n rows)]]) w) (fT:jb L=true) (He:c.L0.length<=L.length)
  (hb:tl (gO (upto L.length) · 0) (L++[.cells [.d (.sl n rows)]]) (upto L.length)=some L) {Bs:Nat} (hE:E L.length=some Bs) :
  ∃ E9,aI c E9 L w/\yE (aj c.M0 E (L++[.cells [.d (.sl n rows)]]) w) (aj c.M0 E9 L w) (gO (upto L.length) · 0) /\
    ∃ (p:Option Addr) (cap b off:Nat) (el:Fin rows.length->List Value),(aj c.M0 E9 L w).rd ⟨Bs,0,none⟩ (.slice p rows.length cap)/\rows.length<=cap/\(0<rows.length->p=some ⟨b,off,none⟩) /\
      ∀ k:Fin rows.length,(el k).length=n/\cR (aj c.M0 E9 L w).rd rows[k] (el k)/\∀ (j:Nat) (v:Value),(el k)[j]? = some v->(aj c.M0 E9 L w).rd ⟨b,off+k.val * n+j,none⟩ v:=by
 have DW:(L++[AB.cells [.d (.sl n rows)]])[L.length]? = some (.cells [.d (.sl n rows)]):=by simp
 obtain ⟨h9,hl⟩:=h.part (qc _) (λi hi=>mR oM) hb;refine ⟨_,h9,hl,?_⟩;obtain ⟨b0,cur,e,h1,h2,h3⟩:=h.fQ L.length _ DW;rw [hE] at h1
 cases h1
 simp only [eK] at h3;obtain ⟨sv,dt,gE,yW,KJ,rfl⟩:=h3;have al_:=KJ;simp only [VR,VD] at KJ;obtain ⟨hn,p,cap,rfl,gT,qN,tH,bK⟩:=KJ;have tE:w.cell? ⟨Bs,0,none⟩=some (.slice p rows.length cap):=by
  have:cur[0]? = some (.slice p rows.length cap):=by
   rw [<-ZF,gE];rfl
  simp [World.cell?,h2,this]
 have Hs:¬G_ c.M0 (oI E (upto L.length)) L Bs 0:=by
  rintro (hm|⟨i,ab,hi,he,hm⟩|⟨i,ab,hi,hm⟩)
  ·exact h.low L.length _ Bs DW rfl hE (hc.sub _ _ hm)
  ·have eL:=(dW.1 hi).1;have W0:E i=some Bs:=by
    have:=he;unfold oI at this;rw [mR eL] at this;exact this
   have hlv:ab.live=true:=by
    cases ab<;>first|rfl|exact hm.elim
   have:=h.inj i L.length ab _ Bs (by rw [CK eL];exact hi) DW hlv rfl W0 hE;omega
  ·rw [IL fT hi] at hm
   cases hm
 by_cases hr:rows.length=0
 ·exact ⟨p,cap,0,0,λk=>absurd k.isLt oM,.inl ⟨tE,Hs⟩,gT,λh=>oM,λk=>absurd k.isLt oM⟩
 ·cases p with
  | none=>have:=tH rfl;omega
  | some a' =>
    obtain ⟨gK,_,XO⟩:=bK a' rfl;have gK:a'.spot=none:=gK.resolve_left (λe=>hr (by rw [e];rfl));have hex:∀ k:Fin rows.length,∃ us:List Value,us.length=n/\cR (aj c.M0 (oI E (upto L.length)) L w).rd rows[k] us/\∀ (j:Nat) (v:Value),us[j]? = some v->(aj c.M0 (oI E (upto L.length)) L w).rd ⟨a'.block,a'.off+k.val * n+j,none⟩ v:=by
     intro k;obtain ⟨g1,g2⟩:=pJ n XO gK (i:=k.val) (cs:=rows[k]) (by simp);obtain ⟨us,u1,u2⟩:=vj (pF.mono hl.rd _ _ g2) rfl;exact ⟨us,by rw [Oe u1];exact g1,u1,u2⟩
    refine ⟨some a',cap,a'.block,a'.off,λk=>Classical.choose (hex k),.inl ⟨tE,Hs⟩,gT,λ_=>?_,λk=>Classical.choose_spec (hex k)⟩
    cases a' with
    | mk x y z=>cases gK;rfl
theorem T1 {P:Program} {n k0:Nat} {code:Code} {Q:Exit->AF->List AB->Prop} {F:AF} {L:List AB} (h:AW P n k0 code Q F L) {c:Ctx} {E:Nat->Option Nat} {a:Act} {w:World} (h1:c.wf) (h2:c.n=n) (h3:c.L0.length=k0) (h4:eE c E F L a w) :
  code.wp P (λx a' w'=>∃ E' F' L',eE c E' F' L' a' w'/\Q x F' L') a w:=h c E a w h1 h2 h3 h4
end
noncomputable section
open Go.RowKit
theorem D7 {P:Program} {c:Ctx} (hc:c.wf) {E:Nat->Option Nat} {F:AF} {L:List AB} {a:Act} {w:World} (hs:eE c E F L a w) (fT:jb L=true) (He:c.L0.length<=L.length)
  {α:Type} {g:Operand} {ps:Array Tmp} {assign body:Code} {gf:Nat} {lb:Array Value} {T2:α->Array Value} {S Sp:List α->Prop} {N:Nat}
  (hg:a.eval g = .func (.func gf) #[] lb) (eg:∀ args w,(callFunc gf args).run P w = .ok (.enter gf args) w)
  (T3:SeqStopsK Fence.wide 4 P gf lb T2 (Bx (aj c.M0 E L w)) S Sp N w) (hps:∀ x,(T2 x).size=ps.size)
  (Fx Fa:α->AF) (La:α->List AB) (G:α->Prop)
  (hpar:∀ x (R:RC),(aj c.M0 E L w).le R->∀ s,VR R (bt (Fx x) s) (((ps.zip (T2 x)).foldl (λt (p,v)=>t.setIfInBounds p v) a.tmps).getD s undef))
  (afv:∀ x,jb (La x)=true) (aiH:∀ x,tl (gO (upto L.length) · 0) (La x) (upto L.length)=some L)
  (hA:∀ l x,CH l P c.n L.length assign (λe F1 L1=>e = .normal/\F1=Fa x/\L1=La x) (Fx x) L)
  (Kx:α->Nat->List AB->Prop)
  (hB:∀ l x,CH l P c.n (La x).length body (λe _ L2=>jb L2=true/\((e = .normal/\G x/\tl (gO (upto L.length) · 0) L2 (upto L.length)=some L)∨∃ id,e = .exit id/\Kx x id L2)) (Fa x) (La x)) :
  (Code.rangeFunc g ps assign body).wpIn Fence.wide 5 P (λe a' W=>∃ D,a'={ a with defers:={ target := .collected D,args := #[] } :: a.defers }/\w.heap.size<=D/\W.heap[D]? = some (.deferred (some []))/\((e = .normal/\abV c E F L a w W/\∃ xs,S xs/\∀ y∈xs,G y)∨∃ id x pre,e = .exit id/\Sp (pre++[x])/\(∀ y∈pre,G y)/\abW c E F L a w (Kx x id) W)) a w:=by
 refine wpIn_rangeFunc_ownH rfl dC hg trivial eg T3 Bx.trans (λW l o o' _ hl ho _=>Bx.put o' hl ho) (Below.refl _ _) hps
  (λpre W=>abV c E F L a w W/\∀ y∈pre,G y) (λcx pre W=>∃ id x pr,pre=pr++[x]/\(∀ y∈pr,G y)/\cx = .exit id/\abW c E F L a w (Kx x id) W)
  (λs W W' row h oO hr=>⟨TW (β:=Unit) hc hs.h.size fT () W W' row h.1 oO hr,h.2⟩) ?_ ⟨⟨E,hs,.refl _⟩,by simp⟩ (λx a' W=>∃ E1,eE c E1 (Fa x) (La x) a' W/\(aj c.M0 E L w).le (aj c.M0 E1 (La x) W)) ?_ ?_ ?_ ?_ ?_
 ·rintro cx s W W' row ⟨id,x,pr,e1,e2,rfl,hX⟩ oO hr;exact ⟨id,x,pr,e1,e2,rfl,TV (β:=Unit) hc hs.h.size () W W' row hX oO hr⟩
 ·rintro x a' s W W' row ⟨E1,h1,h2⟩ oO hr;exact ⟨E1,h1.other hc hs.h.size (afv x) oO hr,h2.trans (rR oO λr e=>(hr r e).2)⟩
 ·rintro l pre x W K ⟨⟨E',h1,h2⟩,hG⟩ hK;have fD:=vR h1.h;have da:((ps.zip (T2 x)).foldl (λt (p,v)=>t.setIfInBounds p v) a.tmps).size=c.n:=by
   rw [<-Array.foldl_toList,Bz];exact hs.nt
  have fj:eE (xX c E' L W) E' (Fx x) L { tmps:=(ps.zip (T2 x)).foldl (λt (p,v)=>t.setIfInBounds p v) a.tmps,defers:=[] } W :=
   ⟨fD.1,hpar x _ (h2.trans fD.2),da,rfl⟩
  refine wpIn_mono (hA l x (xX c E' L W) E' _ W _ (z6 hc h1.h) rfl rfl fj) ?_;rintro e a1 W1 ⟨E1,F1,L1,k1,rfl,rfl,rfl⟩;obtain ⟨o1,o2,o3⟩:=oX hc h1.h k1.h;obtain ⟨E3,b1,b2⟩:=Oc He o1 (h2.trans o2) (aiH x);exact hK a1 W1 (By h1.h fT k1.h _) (λy u hr bR=>(f_ ((h2.trans o2).rd y u hr) (my bR)).1) ⟨⟨E3,⟨b1,λs=>VR.mono b2 _ _ (hs.dL s),hs.nt,hs.df⟩,b2⟩,hG⟩
   ⟨E1,⟨o1,λs=>VR.mono o3 _ _ (k1.dL s),k1.nt,k1.df⟩,h2.trans o2⟩
 ·rintro l pre x a' W _ _ ⟨⟨E',h1,h2⟩,hG⟩ ⟨E1,k1,k2⟩ _;have fD:=vR k1.h;have fj:eE (xX c E1 (La x) W) E1 (Fa x) (La x) a' W:=⟨fD.1,λs=>VR.mono fD.2 _ _ (k1.dL s),k1.nt,k1.df⟩;refine wpIn_mono (hB l x (xX c E1 (La x) W) E1 a' W _ (z6 hc k1.h) rfl rfl fj) ?_;rintro e a2 W2 ⟨E2,F2,L2,m1,mp,oC⟩;obtain ⟨o1,o2,o3⟩:=oX hc k1.h m1.h;have D8:=By k1.h (afv x) m1.h w.heap.size;rcases oC with ⟨rfl,hg1,hb⟩|⟨id,rfl,hkx⟩
  ·obtain ⟨E3,b1,b2⟩:=Oc He o1 (k2.trans o2) hb;exact ⟨D8,λy u hr bR=>(f_ ((k2.trans o2).rd y u hr) (my bR)).1,⟨E3,⟨b1,λs=>VR.mono b2 _ _ (hs.dL s),hs.nt,hs.df⟩,b2⟩,λy hy=>by
    rcases gA.1 hy with hy|hy
    ·exact hG y hy
    ·rw [Hj.1 hy];exact hg1⟩
  ·exact ⟨D8,id,x,pre,rfl,hG,rfl,E2,L2,⟨o1,λs=>VR.mono (k2.trans o2) _ _ (hs.dL s),hs.nt,hs.df⟩,k2.trans o2,mp,hkx⟩
 ·intro D xs W hD hS hI hK;exact ⟨D,rfl,hD,hK,.inl ⟨rfl,hI.1,xs,hS,hI.2⟩⟩
 ·rintro D cx pre W hD hSp ⟨id,x,pr,rfl,hG,rfl,hI⟩ hK;exact wpIn_exit ⟨D,rfl,hD,hK,.inr ⟨id,x,pr,rfl,hSp,hG,hI⟩⟩
end
theorem lj {P:Program} {n k0:Nat} {code:Code} {Q:Exit->AF->List AB->Prop} {F:AF} {L L1:List AB} (ps:List (Nat×Nat×Nat)) (hs:xV ps L=some L1) (h:AW P n k0 code Q F L1):AW P n k0 code Q F L:=λc E a w hc dS hk fj=>by
 obtain ⟨s1,l1⟩:=xW fj.h hs;exact h c E a w hc dS hk ⟨s1,λs=>VR.mono l1 _ _ (fj.dL s),fj.nt,fj.df⟩
end Go.Ab
