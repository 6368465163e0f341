/- PrimaryExact: abstract runs. -/
import Derived.Test.YtolkmjfkkkiboaaGreatPrimaryExactLyab
set_option linter.all false
namespace Go.Ab
open Go.RowKit
def LO (y y':DV):Prop:=∀ (rd jv:Addr->Value->Prop) (v:Value),(∀ a u,a.spot=none->rd a u->jv a u)->VD rd y v->VD jv y' v
theorem LO.flat {y:DV} (h:Br y):LO y y:=λ_ _ _ _ k=>h _ _ _ k
inductive WK:List DV->List DV->Prop
 | nil:WK [] []
 | cons {y y':DV} {r r':List DV} (h:LO y y') (k:WK r r'):WK (y :: r) (y' :: r')
inductive C7:List (List DV)->List (List DV)->Prop
 | nil:C7 [] []
 | cons {y y':List DV} {r r':List (List DV)} (h:WK y y') (k:C7 r r'):C7 (y :: r) (y' :: r')
theorem WK.length {xs ys:List DV} (h:WK xs ys):ys.length=xs.length:=by induction h<;>simp_all
theorem C7.length {xs ys:List (List DV)} (h:C7 xs ys):ys.length=xs.length:=by induction h<;>simp_all
theorem WK.ok {rd jv:Addr->Value->Prop} (h1:∀ a u,a.spot=none->rd a u->jv a u) {xs ys:List DV} (h:WK xs ys):∀ {a:Addr},a.spot=none->pF rd xs a->pF jv ys a:=by
 induction h with
 | nil=>intro a _ _;simp [pF]
 | cons h k ih =>
   intro a ha x;simp only [pF] at x ⊢;obtain ⟨⟨u,e1,e2,e3⟩,e4⟩:=x;exact ⟨⟨u,h1 _ _ ha e1,e2,h rd jv u h1 e3⟩,ih rfl e4⟩
theorem C7.ok {rd jv:Addr->Value->Prop} (h1:∀ a u,a.spot=none->rd a u->jv a u) {n:Nat} {xs ys:List (List DV)} (h:C7 xs ys):∀ {a:Addr},a.spot=none->jC rd n xs a->jC jv n ys a:=by
 induction h with
 | nil=>intro a _ _;simp [jC]
 | cons h k ih =>
   intro a ha x;simp only [jC] at x ⊢;exact ⟨by rw [h.length];exact x.1,h.ok h1 ha x.2.1,ih rfl x.2.2⟩
theorem C7.zX {xs ys:List (List DV)} (h:C7 xs ys):xs=[]->ys=[]:=by cases h<;>simp
theorem LO.slo {n:Nat} {xs ys:List (List DV)} (h:C7 xs ys):LO (.slo n xs) (.slo n ys):=by
 intro rd jv v h1 x;simp only [VD] at x ⊢;obtain ⟨hn,a,cap,e1,e2,e3,e4,e5⟩:=x;refine ⟨hn,a,cap,by rw [h.length];exact e1,by rw [h.length];exact e2,e3,e4,λa' ha=>⟨(e5 a' ha).1.imp h.zX id,?_⟩⟩;rcases (e5 a' ha).1 with e|hs
 ·rw [h.zX e];simp [jC]
 ·exact h.ok h1 hs (e5 a' ha).2
theorem LO.sl {n:Nat} {xs ys:List (List DV)} (h:C7 xs ys):LO (.sl n xs) (.slo n ys):=by
 intro rd jv v h1 x;have x2:VD rd (.slo n xs) v:=by
  simp only [VD] at x ⊢;obtain ⟨hn,a,cap,e1,e2,e3,e4,e5⟩:=x;exact ⟨hn,a,cap,e1,e2,e3,e4,λa' ha=>⟨(e5 a' ha).1,(e5 a' ha).2.2⟩⟩
 exact LO.slo h rd jv v h1 x2
theorem C7.map {α:Type} {f g:α->List DV} (h:∀ x,WK (f x) (g x)):∀ (l:List α),C7 (l.map f) (l.map g)
 | [] => .nil
 | x :: r => .cons (h x) (C7.map h r)
theorem mz:Br .nils:=λ_ _ _ h=>by simpa [VD] using h
theorem IM (s:ByteArray):Br (.str s):=λ_ _ _ h=>by simpa [VD] using h
mutual
def RY:DV->Prop
 | .slo _ _=>False
 | .sl _ xs=>P8 xs
 | _=>True
def P8:List (List DV)->Prop
 | []=>True
 | x :: r=>XP x/\P8 r
def XP:List DV->Prop
 | []=>True
 | x :: r=>RY x/\XP r
end
theorem vV {α:Type} {f:α->List DV} (h:∀ x,XP (f x)):∀ (l:List α),P8 (l.map f)
 | []=>trivial
 | x :: r=>⟨h x,vV h r⟩
mutual
theorem Of {lo n:Nat} {w:World} {rd:Addr->Value->Prop} (ga:∀ a u,rd a u->(a.spot=none->w.cell? a=some u)/\∀ m,a.spot=some m->Tk (some lo) w a u) (da:lo+n=w.heap.size):∀ (x:DV) (v:Value),RY x->VD rd x v->VD (rdI lo n w) x v
 | .int k n,v,_,x=>by simpa [VD] using x
 | .bool b,v,_,x=>by simpa [VD] using x
 | .str b,v,_,x=>by simpa [VD] using x
 | .Ho k b,v,_,x=>by simpa [VD] using x
 | .CP _ _ _,v,_,x=>by simpa [VD] using x
 | .nils,v,_,x=>by simpa [VD] using x
 | .slo _ _,v,h,x=>by simp [RY] at h
 | .sl m xs,v,h,x=>by
   simp only [RY] at h;simp only [VD] at x ⊢;obtain ⟨hn,a,cap,h1,h2,h3,h4,h5⟩:=x;refine ⟨hn,a,cap,h1,h2,h3,h4,λa' ha=>?_⟩;obtain ⟨k1,k2,k3⟩:=h5 a' ha;have hb:0<cap->lo<=a'.block/\a'.block<lo+n:=λhc=>by
    obtain ⟨m',e1,e2⟩:=(ga _ _ (k2 hc)).2 m rfl;obtain ⟨e3,cur,e,mk,ek,e4,e5,_⟩:=e2 lo rfl;exact ⟨e3,by rw [da];exact (ud.1 e5).1⟩
   refine ⟨k1,λhc=>⟨(hb hc).1,(hb hc).2,.inr ((ga _ _ (k2 hc)).2 m rfl)⟩,?_⟩;rcases k1 with e|hs
   ·subst e;simp [jC]
   ·by_cases hx:xs=[]
    ·subst hx;simp [jC]
    ·have hc:0<cap:=by
      have:xs.length≠0:=λe=>hx (oy e);omega
     exact IN ga da m xs a' hs (hb hc) h k3
 | .Ap,v,_,x=>by simpa [VD] using x
 | .Hp,v,_,x=>by simpa [VD] using x
 | .Sd,v,_,x=>by simpa [VD] using x
 | .any,v,_,x=>by simp [VD]
theorem IN {lo n:Nat} {w:World} {rd:Addr->Value->Prop} (ga:∀ a u,rd a u->(a.spot=none->w.cell? a=some u)/\∀ m,a.spot=some m->Tk (some lo) w a u) (da:lo+n=w.heap.size) (m:Nat):∀ (xs:List (List DV)) (a:Addr),a.spot=none->(lo<=a.block/\a.block<lo+n)->P8 xs->jC rd m xs a->jC (rdI lo n w) m xs a
 | [],a,_,_,_,_=>by simp [jC]
 | cs :: r,a,ha,hb,h,x=>by
   simp only [P8] at h;simp only [jC] at x ⊢;exact ⟨x.1,IP ga da cs a ha hb h.1 x.2.1,IN ga da m r _ rfl hb h.2 x.2.2⟩
theorem IP {lo n:Nat} {w:World} {rd:Addr->Value->Prop} (ga:∀ a u,rd a u->(a.spot=none->w.cell? a=some u)/\∀ m,a.spot=some m->Tk (some lo) w a u) (da:lo+n=w.heap.size):∀ (xs:List DV) (a:Addr),a.spot=none->(lo<=a.block/\a.block<lo+n)->XP xs->pF rd xs a->pF (rdI lo n w) xs a
 | [],a,_,_,_,_=>by simp [pF]
 | c :: r,a,ha,hb,h,x=>by
   simp only [XP] at h;simp only [pF] at x ⊢;obtain ⟨⟨u,h1,h0,h2⟩,h3⟩:=x;exact ⟨⟨u,⟨hb.1,hb.2,.inl ((ga _ _ h1).1 ha)⟩,h0,Of ga da c u h.1 h2⟩,IP ga da r _ rfl hb h.2 h3⟩
end
inductive Isl (i:Nat):AV->AV->Prop
 | flat {x:DV} (h:Br x):Isl i (.d x) (.d x)
 | sl {n:Nat} {xs:List (List DV)} (h:P8 xs):Isl i (.d (.sl n xs)) (.isl i (.sl n xs))
def xY (cg:List AB) (a b:AV):Prop:=(∃ y y',a = .d y/\b = .d y'/\LO y y')∨∃ i x x' lo n,a = .isl i x/\cg[i]? = some (.aN lo n true)/\b = .d x'/\LO x x'
inductive tv {α β:Type} (r:α->β->Prop):List α->List β->Prop
 | nil:tv r [] []
 | cons {x:α} {y:β} {xs:List α} {ys:List β} (h:r x y) (k:tv r xs ys):tv r (x :: xs) (y :: ys)
def xZ (cg:List AB) (a b:AV):Prop:=xY cg a b∨∃ az bs,a = .agg az/\b = .agg bs/\tv (xY cg) az bs
def F9 (i:Nat) (a b:AV):Prop:=Isl i a b∨∃ az bs,a = .agg az/\b = .agg bs/\tv (Isl i) az bs
def aiI (i:Nat) (a b:AV):Prop:=F9 i a b∨∃ az bs,a = .tup az/\b = .tup bs/\tv (F9 i) az bs
theorem tv.eK {R R':RC} {r:AV->AV->Prop} (h:∀ a b v,r a b->VR R a v->VR R' b v) {xs ys:List AV} (k:tv r xs ys):∀ {us:List Value},eK R xs us->eK R' ys us:=by
 induction k with
 | nil=>intro us x;simpa [Go.Ab.eK] using x
 | cons hxy _ ih =>
   intro us x;simp only [Go.Ab.eK] at x ⊢;obtain ⟨u,dt,e,e0,e1,e2⟩:=x;exact ⟨u,dt,e,e0,h _ _ _ hxy e1,ih e2⟩
theorem tv.cD {R R':RC} {r:AV->AV->Prop} (h:∀ a b v,r a b->VR R a v->VR R' b v) {xs ys:List AV} (k:tv r xs ys):∀ {us:List Value},cD R xs us->cD R' ys us:=by
 induction k with
 | nil=>intro us x;simpa [Go.Ab.cD] using x
 | cons hxy _ ih =>
   intro us x;simp only [Go.Ab.cD] at x ⊢;obtain ⟨u,dt,e,e1,e2⟩:=x;exact ⟨u,dt,e,h _ _ _ hxy e1,ih e2⟩
theorem D9 {c:Ctx} {E:Nat->Option Nat} {L:List AB} {w:World} (hs:aI c E L w) (hc:c.wf) {R':RC} (ga:∀ a u,w.cell? a=some u->¬c.M0 a.block a.off->R'.rd a u) {a b:AV} {v:Value} (h:xY L a b) (hv:VR (aj c.M0 E L w) a v):VR R' b v:=by
 rcases h with ⟨y,y',rfl,rfl,hd⟩|⟨i,x,x',lo,n,rfl,hi,rfl,hd⟩
 ·simp only [VR] at hv ⊢;exact hd _ _ _ (λa u ha hr=>ga a u (f_ hr ha).1 λhm=>(f_ hr ha).2 (.inl hm)) hv
 ·simp only [VR] at hv ⊢;obtain ⟨⟨ab,bC,rn⟩,_⟩:=hv;rw [hi] at bC
  cases bC
  refine hd _ _ _ (λa u ha hr=>?_) rn;obtain ⟨r1,r2,r3⟩:=hr;rcases r3 with r3|⟨m,hm,_⟩
  ·refine ga a u r3 λhm=>hs.bx.low i _ a.block hi ?_ (hc.sub _ _ hm);simp only [AB.boxes,Pv];exact ⟨r1,r2⟩
  ·rw [ha] at hm;cases hm
theorem D_ {c:Ctx} {E:Nat->Option Nat} {L:List AB} {w:World} (hs:aI c E L w) (hc:c.wf) {R':RC} (ga:∀ a u,w.cell? a=some u->¬c.M0 a.block a.off->R'.rd a u) {a b:AV} {v:Value} (h:xZ L a b) (hv:VR (aj c.M0 E L w) a v):VR R' b v:=by
 rcases h with h|⟨az,bs,rfl,rfl,h⟩
 ·exact D9 hs hc ga h hv
 ·simp only [VR] at hv ⊢;obtain ⟨us,e,h1⟩:=hv;exact ⟨us,e,h.eK (λa b v h k=>D9 hs hc ga h k) h1⟩
theorem ll {P:Program} {f:FuncId} {cS T4:List AV} {cg:List AB} {X:AV->Prop} {post:AV->Prop} (hl:tv (xZ cg) cS T4) (h:ay P f T4 [] (λav L=>X av/\L=[]))
  (hx:∀ av,X av->∃ ny,aiI cg.length av ny/\post ny):ay P f cS cg (λav L=>post av/\∃ lo n,L=cg++[.aN lo n true]):=by
 intro c vs hc hL hs hv;have ga:∀ a u,c.w0.cell? a=some u->¬c.M0 a.block a.off->(aj ⟨c.M0.m,some c.w0.heap.size⟩ (λ_=>none) [] c.w0).rd a u:=λa u h1 h2 =>
  .inl ⟨h1,λhm=>hm.elim h2 λhm=>hm.elim (λ⟨i,ab,h,_⟩=>by simp at h) λ⟨i,ab,h,_⟩=>by simp at h⟩
 have kc:Ctx.wf ⟨c.w0,λb=>b<c.w0.heap.size,⟨c.M0.m,some c.w0.heap.size⟩,λ_=>none,[],c.n⟩ :=
  ⟨λb hb=>hb,λb o hm=>hc.low b (hc.sub b o hm),λs hs b hb=>by cases hs;exact hb⟩
 have bP:aI ⟨c.w0,λb=>b<c.w0.heap.size,⟨c.M0.m,some c.w0.heap.size⟩,λ_=>none,[],c.n⟩ (λ_=>none) [] c.w0 :=
  ⟨rfl,rfl,rfl,eQ _,λ_ _=>rfl,λi ab h=>by simp at h,λi ab b h=>by simp at h,λi j ab bQ b h=>by simp at h,RC.le.refl _,⟨λi ab b h=>by simp at h,λi j ab bQ b h=>by simp at h,λi ab h=>by simp at h,λi j ab bQ b h=>by simp at h⟩⟩
 refine (h _ vs kc rfl bP (hl.cD (λa b v h k=>D_ hs hc ga h k) hv)).mono ?_;rintro e w' ⟨v,av,L',E',rfl,⟨hX,rfl⟩,h3,h4⟩;have hk:aO c.w0 w':=⟨h3.os,h3.tape,h3.output,h3.size,h3.gS⟩;obtain ⟨ny,hi,hp⟩:=hx av hX;have da:c.w0.heap.size+(w'.heap.size - c.w0.heap.size)=w'.heap.size:=by have:=h3.size;have h5:c.w0.heap.size<=w'.heap.size:=this;omega
 have mG:∀ b∈(AB.aN c.w0.heap.size (w'.heap.size - c.w0.heap.size) true).boxes,c.w0.heap.size<=b:=λb hb=>by
  simp only [AB.boxes,Pv] at hb;exact hb.1
 have T5:=hs.extend hc hk (.aN c.w0.heap.size (w'.heap.size - c.w0.heap.size) true) none (λb hb=>by cases hb) mG (by simp only [AB.boxes];exact List.nodup_range') (λb _=>by simp) (λb h1 h2=>by
  rw [da] at h2;exact ⟨_,ZE h2⟩)
 have conv:∀ a b v,Isl cg.length a b->VR (aj ⟨c.M0.m,some c.w0.heap.size⟩ E' [] w') a v->VR (aj c.M0 (ca c.E0 cg.length none) (cg++[.aN c.w0.heap.size (w'.heap.size - c.w0.heap.size) true]) w') b v:=by
  intro a b v bC hv
  cases bC with
  | flat hf=>simp only [VR] at hv ⊢;exact hf _ _ _ hv
  | @sl m xs fu =>
    simp only [VR] at hv ⊢;have h9:=Of (rd:=(aj ⟨c.M0.m,some c.w0.heap.size⟩ E' [] w').rd) (λa u hr=>⟨λha=>(f_ hr ha).1,λm hm=>Nw hr hm⟩) da (.sl m xs) v (by simp only [RY];exact fu) hv;refine ⟨⟨.aN c.w0.heap.size (w'.heap.size - c.w0.heap.size) true,by simp,h9⟩,?_⟩;simp only [VD] at hv;obtain ⟨_,p,cap,rfl,_⟩:=hv;rfl
 have Ea:∀ a b v,F9 cg.length a b->VR (aj ⟨c.M0.m,some c.w0.heap.size⟩ E' [] w') a v->VR (aj c.M0 (ca c.E0 cg.length none) (cg++[.aN c.w0.heap.size (w'.heap.size - c.w0.heap.size) true]) w') b v:=by
  intro a b v bC hv;rcases bC with h|⟨az,bs,rfl,rfl,h⟩
  ·exact conv _ _ _ h hv
  ·simp only [VR] at hv ⊢;obtain ⟨us,e,h1⟩:=hv;exact ⟨us,e,h.eK conv h1⟩
 refine ⟨v,ny,_,_,rfl,⟨hp,_,_,rfl⟩,T5,?_⟩;rcases hi with h|⟨az,bs,rfl,rfl,h⟩
 ·exact Ea _ _ _ h h4
 ·simp only [VR] at h4 ⊢;obtain ⟨us,e,h1⟩:=h4;exact ⟨us,e,h.cD Ea h1⟩
end Go.Ab
