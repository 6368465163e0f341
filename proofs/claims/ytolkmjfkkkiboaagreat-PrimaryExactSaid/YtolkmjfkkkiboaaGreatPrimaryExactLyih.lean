/- PrimaryExact: abstract runs. -/
import Derived.Test.YtolkmjfkkkiboaaGreatPrimaryExactLyvia
set_option linter.all false
namespace Go.Ab
open Go.RowKit
def ints (l:List Int):List (List DV):=l.map λx=>[DV.j x]
theorem IW {rd:Addr->Value->Prop}:∀ {l:List Int} {us:List Value},cR rd (ints l).flatten us->us=l.map λx => .j x
 | [],us,h=>by simpa [ints,cR,Cs] using h
 | b :: bs,us,h=>by
   simp only [ints,Dv,va,Wy,cR,Cs] at h;obtain ⟨u,dt,rfl,_,h1,h2⟩:=h;simp only [VD] at h1;subst h1;have:=IW (l:=bs) (by simpa [ints,cR] using h2);simp [this]
theorem IX {rd:Addr->Value->Prop}:∀ (l:List Int),cR rd (ints l).flatten (l.map λx=>Value.j x)
 | []=>by simp [ints,cR,Cs]
 | b :: bs=>by
   simp only [ints,Dv,va,Wy,cR,Cs];exact ⟨_,_,rfl,rfl,by simp [VD],by simpa [ints,cR] using IX bs⟩
theorem T_ {w:World} {b cap:Nat} {e:TypeId} {l:List Int} {cur:Array Value} {lo n:Nat} (hg:Hn 1=[Sh.int]) (he:G9 e=1) (hh:w.heap[b]? = some (.cells cur e (0,0))) (da:cur.size=cap * 1) (ZR:l.length<=cap) (i_:cap<=maxLen) (eM:l.length<=4294967296)
  {rd:Addr->Value->Prop} (hv:cR rd (ints l).flatten (cur.toList.take (l.length * 1))) (h1:lo<=b) (h2:b<lo+n) :
  jD w (.slo 1 (ints l)) (.slice (some ⟨b,0,none⟩) (ints l).length cap) (.aN lo n (.hole b 1 true)):=by
 have aiR:(ints l).length=l.length:=by simp [ints]
 rw [xh] at hv;have gE:=IW hv;have ij:∀ j u,(l.map λx=>Value.j x)[j]? = some u->w.cell? ⟨b,j,none⟩=some u:=by
  intro j u hj;rw [<-gE,nX] at hj;rw [cell_of_row w b j cur e (0,0) hh];split at hj
  ·simpa using hj
  ·cases hj
 refine ⟨λh=>(by cases h),λm xs h=>?_⟩
 cases h
 refine ⟨λ_=>?_,h1,oM,?_⟩
 ·simp only [VD];refine ⟨oM,some ⟨b,0,none⟩,cap,rfl,oM,i_,(λh=>by cases h),λa' ha=>?_⟩
  cases ha
  refine ⟨.inr rfl,uh (λ_ _ h=>h) 1 (IX l) (λcs ck=>by obtain ⟨x,_,rfl⟩:=px.1 ck;rfl) rfl λj u hj=>?_⟩;rw [gP];exact ⟨eQ _,Nt _,ij j u hj⟩
 ·refine ⟨_,_,_,rfl,oM,⟨i_,oM⟩,.inr ⟨_,rfl,rfl,eQ _,Nt _,⟨cur,e,(0,0),hh,Hq _,he,zfP _,by show 0+cap * 1<=_;omega⟩,λi j sh hi hj=>?_⟩⟩;rw [hg] at hj;rw [aiR] at hi
  cases j with
  | succ j=>simp at hj
  | zero =>
    simp at hj;subst hj;refine ⟨.j l[i],ij (0+i * 1+0) _ ?_,⟨_,rfl⟩⟩;rw [gP,xh,RJ,CD,ff hi];rfl
theorem Ua {w:World} {lo n:Nat}:jD w (.slo 1 []) (.slice none 0 0) (.aN lo n (.hole lo 0 true)):=by
 refine ⟨λh=>(by cases h),λm xs h=>?_⟩
 cases h
 refine ⟨λ_=>?_,eQ _,oM,F_ ..⟩;simp only [VD];exact ⟨oM,none,0,rfl,by simp,by simp [maxLen],λ_=>rfl,λ_ h=>by cases h⟩
theorem Ub {w:World} {lo n b k:Nat} {ok:Bool} {m:Nat} {xs:List (List DV)} {v:Value} (h:VD (rdX lo n b k w) (.sl m xs) v):jD w (.sl m xs) v (.aN lo n (.hole b k ok)) :=
 ⟨λ_=>h,λm xs h=>by cases h⟩
mutual
theorem IY {lo n b k:Nat} {w:World} {rd:Addr->Value->Prop} (ga:∀ a u,rd a u->(a.spot=none->w.cell? a=some u/\¬(b<=a.block/\a.block<b+k))/\∀ m,a.spot=some m->Tk (some lo) w a u) (da:lo+n=w.heap.size):∀ (x:DV) (v:Value),RY x->VD rd x v->VD (rdX lo n b k w) x v
 | .int k n,v,_,x=>by simpa [VD] using x
 | .bool b,v,_,x=>by simpa [VD] using x
 | .str b,v,_,x=>by simpa [VD] using x
 | .Ho k b,v,_,x=>by simpa [VD] using x
 | .CP _ _ _,v,_,x=>by simpa [VD] using x
 | .nils,v,_,x=>by simpa [VD] using x
 | .slo _ _,v,h,x=>by simp [RY] at h
 | .sl m xs,v,h,x=>by
   simp only [RY] at h;simp only [VD] at x ⊢;obtain ⟨hn,a,cap,h1,h2,h3,h4,h5⟩:=x;refine ⟨hn,a,cap,h1,h2,h3,h4,λa' ha=>?_⟩;obtain ⟨k1,k2,k3⟩:=h5 a' ha;have hb:0<cap->lo<=a'.block/\a'.block<lo+n:=λhc=>by
    obtain ⟨m',e1,e2⟩:=(ga _ _ (k2 hc)).2 m rfl;obtain ⟨e3,cur,e,mk,ek,e4,e5,_⟩:=e2 lo rfl;exact ⟨e3,by rw [da];exact (ud.1 e5).1⟩
   refine ⟨k1,λhc=>⟨(hb hc).1,(hb hc).2,.inr ((ga _ _ (k2 hc)).2 m rfl)⟩,?_⟩;rcases k1 with e|hs
   ·subst e;simp [jC]
   ·by_cases hx:xs=[]
    ·subst hx;simp [jC]
    ·have hc:0<cap:=by
      have:xs.length≠0:=λe=>hx (oy e);omega
     exact Eb ga da m xs a' hs (hb hc) h k3
 | .Ap,v,_,x=>by simpa [VD] using x
 | .Hp,v,_,x=>by simpa [VD] using x
 | .Sd,v,_,x=>by simpa [VD] using x
 | .any,v,_,x=>by simp [VD]
theorem Eb {lo n b k:Nat} {w:World} {rd:Addr->Value->Prop} (ga:∀ a u,rd a u->(a.spot=none->w.cell? a=some u/\¬(b<=a.block/\a.block<b+k))/\∀ m,a.spot=some m->Tk (some lo) w a u) (da:lo+n=w.heap.size) (m:Nat):∀ (xs:List (List DV)) (a:Addr),a.spot=none->(lo<=a.block/\a.block<lo+n)->P8 xs->jC rd m xs a->jC (rdX lo n b k w) m xs a
 | [],a,_,_,_,_=>by simp [jC]
 | cs :: r,a,ha,hb,h,x=>by
   simp only [P8] at h;simp only [jC] at x ⊢;exact ⟨x.1,Ec ga da cs a ha hb h.1 x.2.1,Eb ga da m r _ rfl hb h.2 x.2.2⟩
theorem Ec {lo n b k:Nat} {w:World} {rd:Addr->Value->Prop} (ga:∀ a u,rd a u->(a.spot=none->w.cell? a=some u/\¬(b<=a.block/\a.block<b+k))/\∀ m,a.spot=some m->Tk (some lo) w a u) (da:lo+n=w.heap.size):∀ (xs:List DV) (a:Addr),a.spot=none->(lo<=a.block/\a.block<lo+n)->XP xs->pF rd xs a->pF (rdX lo n b k w) xs a
 | [],a,_,_,_,_=>by simp [pF]
 | c :: r,a,ha,hb,h,x=>by
   simp only [XP] at h;simp only [pF] at x ⊢;obtain ⟨⟨u,h1,h0,h2⟩,h3⟩:=x;exact ⟨⟨u,⟨hb.1,hb.2,.inl ((ga _ _ h1).1 ha)⟩,h0,IY ga da c u h.1 h2⟩,Ec ga da r _ rfl hb h.2 h3⟩
end
inductive ab5 (i:Nat) (l:List Int):AV->AV->Prop
 | isl {a b:AV} (h:F9 i a b):ab5 i l a b
 | row:ab5 i l (.arr 0) (.isl i (.slo 1 (ints l)))
theorem zB {P:Program} {f:FuncId} {cS T4:List AV} {cg:List AB} {X:AV->List AB->Prop} {post:AV->Prop} (hg:Hn 1=[Sh.int]) (hl:tv (xZ cg) cS T4) (h:ay P f T4 [] X)
  (hx:∀ av L,X av L->∃ (az bs:List AV) (l:List Int),av = .tup az/\l.length<=4294967296/\((L=[]/\tv (F9 cg.length) az bs)∨∃ t,L=[.row t 1 (ints l) false]/\tv (ab5 cg.length l) az bs)/\post (.tup bs)) :
  ay P f cS cg (λav L=>post av/\∃ lo n b k,L=cg++[.aN lo n (.hole b k true)]):=by
 intro c vs hc hL hs hv;have ga:∀ a u,c.w0.cell? a=some u->¬c.M0 a.block a.off->(aj ⟨c.M0.m,some c.w0.heap.size⟩ (λ_=>none) [] c.w0).rd a u:=λa u h1 h2 =>
  .inl ⟨h1,λhm=>hm.elim h2 λhm=>hm.elim (λ⟨i,ab,h,_⟩=>by simp at h) λ⟨i,ab,h,_⟩=>by simp at h⟩
 have kc:Ctx.wf ⟨c.w0,λb=>b<c.w0.heap.size,⟨c.M0.m,some c.w0.heap.size⟩,λ_=>none,[],c.n⟩ :=
  ⟨λb hb=>hb,λb o hm=>hc.low b (hc.sub b o hm),λs hs b hb=>by cases hs;exact hb⟩
 have bP:aI ⟨c.w0,λb=>b<c.w0.heap.size,⟨c.M0.m,some c.w0.heap.size⟩,λ_=>none,[],c.n⟩ (λ_=>none) [] c.w0 :=
  ⟨rfl,rfl,rfl,eQ _,λ_ _=>rfl,λi ab h=>by simp at h,λi ab b h=>by simp at h,λi j ab bQ b h=>by simp at h,RC.le.refl _,⟨λi ab b h=>by simp at h,λi j ab bQ b h=>by simp at h,λi ab h=>by simp at h,λi j ab bQ b h=>by simp at h⟩⟩
 refine (h _ vs kc rfl bP (hl.cD (λa b v h k=>D_ hs hc ga h k) hv)).mono ?_;rintro e w' ⟨v,av,L',E',rfl,hX,h3,h4⟩;have hk:aO c.w0 w':=⟨h3.os,h3.tape,h3.output,h3.size,h3.gS⟩;obtain ⟨az,bs,l,rfl,eM,oC,hp⟩:=hx av L' hX;have da:c.w0.heap.size+(w'.heap.size - c.w0.heap.size)=w'.heap.size:=by have:=h3.size;have h5:c.w0.heap.size<=w'.heap.size:=this;omega
 have T5:∀ b k,aI c (ca c.E0 cg.length none) (cg++[.aN c.w0.heap.size (w'.heap.size - c.w0.heap.size) (.hole b k true)]) w':=λb k =>
  hs.extend hc hk (.aN c.w0.heap.size (w'.heap.size - c.w0.heap.size) (.hole b k true)) none (λb hb=>by cases hb) (λb hb=>by
   simp only [AB.boxes,Pv] at hb;exact hb.1) (by simp only [AB.boxes];exact List.nodup_range') (λb _=>by simp) (λb h1 h2=>by
   rw [da] at h2;exact ⟨_,ZE h2⟩)
 -- data SI is apart from DE hole
 have conv:∀ b k,(∀ a u,(aj ⟨c.M0.m,some c.w0.heap.size⟩ E' L' w').rd a u->a.spot=none->¬(b<=a.block/\a.block<b+k))->∀ a a' v,Isl cg.length a a'->VR (aj ⟨c.M0.m,some c.w0.heap.size⟩ E' L' w') a v->VR (aj c.M0 (ca c.E0 cg.length none) (cg++[.aN c.w0.heap.size (w'.heap.size - c.w0.heap.size) (.hole b k true)]) w') a' v:=by
  intro b k RR a a' v bC hv
  cases bC with
  | flat hf=>simp only [VR] at hv ⊢;exact hf _ _ _ hv
  | @sl m xs fu =>
    simp only [VR] at hv ⊢;have h9:=IY (b:=b) (k:=k) (rd:=(aj ⟨c.M0.m,some c.w0.heap.size⟩ E' L' w').rd) (λa u hr=>⟨λha=>⟨(f_ hr ha).1,RR a u hr ha⟩,λm hm=>Nw hr hm⟩) da (.sl m xs) v (by simp only [RY];exact fu) hv;refine ⟨⟨.aN c.w0.heap.size (w'.heap.size - c.w0.heap.size) (.hole b k true),by simp,Ub h9⟩,?_⟩;simp only [VD] at hv;obtain ⟨_,p,cap,rfl,_⟩:=hv;rfl
 have Ea:∀ b k,(∀ a u,(aj ⟨c.M0.m,some c.w0.heap.size⟩ E' L' w').rd a u->a.spot=none->¬(b<=a.block/\a.block<b+k))->∀ a a' v,F9 cg.length a a'->VR (aj ⟨c.M0.m,some c.w0.heap.size⟩ E' L' w') a v->VR (aj c.M0 (ca c.E0 cg.length none) (cg++[.aN c.w0.heap.size (w'.heap.size - c.w0.heap.size) (.hole b k true)]) w') a' v:=by
  intro b k RR a a' v bC hv;rcases bC with h|⟨az,bs,rfl,rfl,h⟩
  ·exact conv b k RR _ _ _ h hv
  ·simp only [VR] at hv ⊢;obtain ⟨us,e,h1⟩:=hv;exact ⟨us,e,h.eK (conv b k RR) h1⟩
 simp only [VR] at h4;obtain ⟨us,e,h4⟩:=h4;rcases oC with ⟨rfl,bK⟩|⟨t,rfl,bK⟩
 ·refine ⟨v,.tup bs,_,_,rfl,⟨hp,_,_,c.w0.heap.size,0,rfl⟩,T5 _ _,?_⟩;simp only [VR];exact ⟨us,e,bK.cD (Ea _ 0 λa u _ _=>oM) h4⟩
 ·have h0:([AB.row t 1 (ints l) false]:List AB)[0]? = some (.row t 1 (ints l) false):=rfl;obtain ⟨hn,ck,fy⟩:=h3.fQ 0 _ h0
  cases hE:E' 0 with
  | none =>
    rw [hE] at fy;simp only at fy;refine ⟨v,.tup bs,_,_,rfl,⟨hp,_,_,c.w0.heap.size,0,rfl⟩,T5 _ _,?_⟩;simp only [VR];refine ⟨us,e,bK.cD (λa b v h k=>?_) h4⟩
    cases h with
    | isl h=>exact Ea _ 0 (λa u _ _=>oM) _ _ _ h k
    | row =>
      simp only [VR] at k ⊢;obtain ⟨ab,bC,rn⟩:=k;rw [h0] at bC
      cases bC
      simp only [bj,hE] at rn;subst rn;rw [fy];exact ⟨⟨.aN c.w0.heap.size (w'.heap.size - c.w0.heap.size) (.hole c.w0.heap.size 0 true),by simp,Ua⟩,rfl⟩
  | some b =>
    rw [hE] at fy;obtain ⟨ek,cur',nY,nx,ND,PF,CW⟩:=fy;have afD:c.w0.heap.size<=b:=by
     have:=h3.low 0 _ b h0 rfl hE;exact ze5 this
    have C8:b<c.w0.heap.size+(w'.heap.size - c.w0.heap.size):=by rw [da];exact h3.lt h0 rfl hE
    have hlen:(ints l).length=l.length:=by simp [ints]
    refine ⟨v,.tup bs,_,_,rfl,⟨hp,_,_,b,1,rfl⟩,T5 _ _,?_⟩;simp only [VR];refine ⟨us,e,bK.cD (λa a' v h k=>?_) h4⟩
    cases h with
    | isl h =>
      refine Ea b 1 (λa u hr ha hb=>?_) _ _ _ h k;have Fm:a.block=b:=oM;exact (f_ hr ha).2 (.inr (.inl ⟨0,_,h0,by rw [hE,Fm],λh=>by cases h⟩))
    | row =>
      simp only [VR] at k ⊢;obtain ⟨ab,bC,rn⟩:=k;rw [h0] at bC
      cases bC
      simp only [bj,hE] at rn;obtain ⟨cap,cur,rfl,hh,afE⟩:=rn;rw [hh] at nY;cases nY
      have xn:cap=ek:=oM;subst xn;refine ⟨⟨.aN c.w0.heap.size (w'.heap.size - c.w0.heap.size) (.hole b 1 true),by simp,T_ hg hn.2 hh afE oM PF eM (by rw [<-hlen];exact CW) afD C8⟩,rfl⟩
theorem aI.ab7 {c:Ctx} (hc:c.wf) {E:Nat->Option Nat} {lo n b k:Nat} {w w':World} (h:aI c E [.aN lo n (.hole b k true)] w) (h1:lo<=b) (h2:b+k<=lo+n) (hs:aY b k w w') :
  aI c E [.aN lo n (.hole b k false)] w'/\(aj c.M0 E [.aN lo n (.hole b k true)] w).le (aj c.M0 E [.aN lo n (.hole b k false)] w'):=by
 have h0:([AB.aN lo n (.hole b k true)]:List AB)[0]? = some (.aN lo n (.hole b k true)):=rfl;have mG:∀ x,(lo<=x/\x<lo+n)↔x∈(AB.aN lo n (.hole b k true)).boxes:=λb=>by simp only [AB.boxes,Pv]
 have jN:∀ x,x<w.heap.size->¬(lo<=x/\x<lo+n)->w'.heap[x]? = w.heap[x]? := λx hx hn=>hs.block x hx λhb=>hn ⟨oM,oM⟩;have one:∀ (x:AB) (j:Nat) (ab:AB),([x]:List AB)[j]? = some ab->j=0/\ab=x:=by
  intro x j ab hj
  cases j with
  | zero=>simp at hj;exact ⟨rfl,hj.symm⟩
  | succ j=>simp at hj
 have hle:(aj c.M0 E [.aN lo n (.hole b k true)] w).le (aj c.M0 E [.aN lo n (.hole b k false)] w'):=by
  refine ⟨?_,?_,?_,?_,?_⟩
  ·refine ug rfl hs.CQ λa u h1 h2=>?_;have hn:¬(lo<=a.block/\a.block<lo+n):=λhb=>h2 (.inr (.inr ⟨0,_,h0,(mG _).1 hb⟩));refine ⟨by rw [World.cell?_of_block (w:=w) (jN a.block (jE h1) hn)];exact h1,?_⟩;rintro (hm|⟨i,ab,hi,he,hm⟩|⟨i,ab,hi,hm⟩)
   ·exact h2 (.inl hm)
   ·obtain ⟨rfl,rfl⟩:=one _ _ _ hi;exact hm.elim
   ·obtain ⟨rfl,rfl⟩:=one _ _ _ hi;exact hn ((mG _).2 hm)
  ·rintro i b ⟨ab,h1,h2,h3⟩;obtain ⟨rfl,rfl⟩:=one _ _ _ h1;simp [AB.gB] at h2
  ·rintro i v ⟨ab,h1,h2⟩;obtain ⟨rfl,rfl⟩:=one _ _ _ h1;exact h2.elim
  ·rintro i j o v ⟨ab,h1,h2⟩;obtain ⟨rfl,rfl⟩:=one _ _ _ h1;exact h2.elim
  ·rintro i x v ⟨ab,g1,g2⟩;obtain ⟨rfl,rfl⟩:=one _ _ _ g1;refine ⟨.aN lo n (.hole b k false),rfl,λe=>VD.mono (λa u hr=>?_) _ _ (g2.1 e),λm xs e=>⟨λh=>(by cases h),h1,h2,hs.sl _ _ _ (g2.2 m xs e).2.2.2⟩⟩;obtain ⟨r1,r2,r3⟩:=hr;refine ⟨r1,r2,r3.imp (λr3=>⟨?_,r3.2⟩) λr3=>Tk.mono hs.CQ r3⟩;rw [World.cell?_of_block (w:=w) (hs.block a.block (jE r3.1) r3.2)];exact r3.1
 refine ⟨⟨hs.os.trans h.os,hs.tape.trans h.tape,hs.output.trans h.output,fS h.size hs.size,?_,?_,?_,?_,h.q_.trans hle,?_⟩,hle⟩
 ·intro x hp;have hn:¬(lo<=x/\x<lo+n):=λhb=>h.bx.low 0 _ x h0 ((mG _).1 hb) hp;rw [jN x (kO (hc.low x hp) h.size) hn];exact h.gS x hp
 ·intro j ab hj;obtain ⟨rfl,rfl⟩:=one _ _ _ hj;intro x h1 h2;have:=h.blt h0 ((mG x).1 ⟨h1,h2⟩);exact ⟨_,ZE (kO this hs.size)⟩
 ·intro j ab b hj hl;obtain ⟨rfl,rfl⟩:=one _ _ _ hj
  cases hl
 ·intro i j ab bQ b hi hj hl;obtain ⟨rfl,rfl⟩:=one _ _ _ hi
  cases hl
 ·refine ⟨?_,?_,?_,?_⟩
  ·intro j ab b hj hb;obtain ⟨rfl,rfl⟩:=one _ _ _ hj;exact h.bx.low 0 _ b h0 hb
  ·intro i j ab bQ b hi hb hj hl;obtain ⟨rfl,rfl⟩:=one _ _ _ hj
   cases hl
  ·intro j ab hj;obtain ⟨rfl,rfl⟩:=one _ _ _ hj;have:=h.bx.nd 0 _ h0;exact this
  ·intro i j ab bQ b hi hj _ _;obtain ⟨rfl,rfl⟩:=one _ _ _ hi;obtain ⟨rfl,_⟩:=one _ _ _ hj;rfl
theorem IZ {P:Program} {f:FuncId} {l:List Int} {lo n b k:Nat}
  (h:∀ (w:World) (v:Value),(∀ x,b<=x->x<b+k->x<w.heap.size)->SL b k w 3 1 v->Calls P f #[v] w λe w'=>e = .returned (.tuple #[])/\aY b k w w') :
  ay P f [.isl 0 (.slo 1 (ints l))] [.aN lo n (.hole b k true)] (λav L=>av = .tup []/\L=[.aN lo n (.hole b k false)]):=by
 intro c vs hc hL hs hv;have h0:([AB.aN lo n (.hole b k true)]:List AB)[0]? = some (.aN lo n (.hole b k true)):=rfl;simp only [cD] at hv;obtain ⟨v,r,e,hv,rfl⟩:=hv;simp only [VR] at hv;obtain ⟨⟨ab,bC,rn⟩,_⟩:=hv;rw [h0] at bC
 cases bC
 obtain ⟨_,g1,g2,g3⟩:=rn.2 1 _ rfl;have hn:∀ x,b<=x->x<b+k->x<c.w0.heap.size:=λx h1 h2=>hs.blt h0 (by simp only [AB.boxes,Pv];omega);have ev:vs = #[v]:=Array.ext' e;subst ev;refine (h c.w0 v hn g3).mono ?_;rintro e w' ⟨rfl,gK⟩;exact ⟨_,.tup [],_,c.E0,rfl,⟨rfl,rfl⟩,(hs.ab7 hc g1 g2 gK).1,by simp [VR,cD]⟩
end Go.Ab
