/- PrimaryExact: abstract runs. -/
import Derived.RangeFuncNested
import Derived.TacticsInMore
import Derived.OrdersIn
import Derived.Test.YtolkmjfkkkiboaaGreatPrimaryExactLyr
set_option linter.all false
namespace Go.Ab
open Go.RowKit
def Br (x:DV):Prop:=∀ (rd jv:Addr->Value->Prop) (v:Value),VD rd x v->VD jv x v
theorem cG (b:Bool):Br (.bool b):=λ_ _ _ h=>by simpa [VD] using h
theorem Ix (k:IntKind) (n:Int):Br (.int k n):=λ_ _ _ h=>by simpa [VD] using h
def TP (y y':DV):Prop:=∀ (rd jv:Addr->Value->Prop) (v:Value),(∀ a u,rd a u->jv a u)->(∀ a u n,a.spot=some n->jv a u)->VD rd y v->VD jv y' v
theorem TP.refl (y:DV):TP y y:=λ_ _ _ h _ k=>VD.mono h _ _ k
inductive P2:List DV->List DV->Prop
 | nil:P2 [] []
 | cons {y y':DV} {r r':List DV} (h:TP y y') (k:P2 r r'):P2 (y :: r) (y' :: r')
inductive Iy:List (List DV)->List (List DV)->Prop
 | nil:Iy [] []
 | cons {y y':List DV} {r r':List (List DV)} (h:P2 y y') (k:Iy r r'):Iy (y :: r) (y' :: r')
theorem P2.length {xs ys:List DV} (h:P2 xs ys):ys.length=xs.length:=by induction h<;>simp_all
theorem Iy.length {xs ys:List (List DV)} (h:Iy xs ys):ys.length=xs.length:=by induction h<;>simp_all
theorem P2.ok {rd jv:Addr->Value->Prop} (h1:∀ a u,rd a u->jv a u) (h2:∀ a u n,a.spot=some n->jv a u) {xs ys:List DV} (h:P2 xs ys):∀ {a:Addr},pF rd xs a->pF jv ys a:=by
 induction h with
 | nil=>intro a _;simp [pF]
 | cons h k ih =>
   intro a x;simp only [pF] at x ⊢;obtain ⟨⟨u,e1,e2,e3⟩,e4⟩:=x;exact ⟨⟨u,h1 _ _ e1,e2,h rd jv u h1 h2 e3⟩,ih e4⟩
theorem Iy.ok {rd jv:Addr->Value->Prop} (h1:∀ a u,rd a u->jv a u) (h2:∀ a u n,a.spot=some n->jv a u) {n:Nat} {xs ys:List (List DV)} (h:Iy xs ys):∀ {a:Addr},jC rd n xs a->jC jv n ys a:=by
 induction h with
 | nil=>intro a _;simp [jC]
 | cons h k ih =>
   intro a x;simp only [jC] at x ⊢;exact ⟨by rw [h.length];exact x.1,h.ok h1 h2 x.2.1,ih x.2.2⟩
theorem Iy.zX {xs ys:List (List DV)} (h:Iy xs ys):xs=[]->ys=[]:=by cases h<;>simp
theorem TP.slo {n:Nat} {xs ys:List (List DV)} (h:Iy xs ys):TP (.slo n xs) (.sl n ys):=by
 intro rd jv v h1 h2 x;simp only [VD] at x ⊢;obtain ⟨hn,a,cap,e1,e2,e3,e4,e5⟩:=x;exact ⟨hn,a,cap,by rw [h.length];exact e1,by rw [h.length];exact e2,e3,e4,λa' ha=>⟨(e5 a' ha).1.imp h.zX id,λ_=>h2 _ _ n rfl,h.ok h1 h2 (e5 a' ha).2⟩⟩
theorem P2.refl:∀ (xs:List DV),P2 xs xs
 | [] => .nil
 | y :: r => .cons (.refl y) (P2.refl r)
theorem Iy.refl:∀ (xs:List (List DV)),Iy xs xs
 | [] => .nil
 | y :: r => .cons (.refl y) (Iy.refl r)
theorem Iy.map {α:Type} {f g:α->List DV} (h:∀ x,P2 (f x) (g x)):∀ (l:List α),Iy (l.map f) (l.map g)
 | [] => .nil
 | x :: r => .cons (h x) (Iy.map h r)
def zp.reads:zp->DV->Bool
 | .bool b,_=>b
 | .hole _ _ ok,x => !x.Nv||ok
theorem P3 {lo n:Nat} {ok:zp} {w:World} {x:DV} {v:Value} (hr:ok.reads x=true) (h:jD w x v (.aN lo n ok)) :
  VD (λa u=>lo<=a.block/\a.block<lo+n/\(w.cell? a=some u∨∃ m,a.spot=some m)) x v:=by
 cases ok with
 | bool ok =>
   cases ok with
   | true=>exact VD.mono (λa u hr=>⟨hr.1,hr.2.1,hr.2.2.imp id λ⟨m,hm,_⟩=>⟨m,hm⟩⟩) _ _ h
   | false=>cases hr
 | hole b k ok =>
   cases x with
   | slo m xs =>
     obtain ⟨k1,k2,k3,_⟩:=h.2 m xs rfl;exact VD.mono (λa u hr=>⟨by have:=hr.1;omega,by have:=hr.2.1;omega,.inl hr.2.2⟩) _ _ (k1 (by simpa [zp.reads,DV.Nv] using hr))
   | _=>exact VD.mono (λa u hr=>⟨hr.1,hr.2.1,hr.2.2.imp (λh=>h.1) λ⟨m,hm,_⟩=>⟨m,hm⟩⟩) _ _ (h.1 rfl)
def rQ (cg:List AB) (a b:AV):Prop:=(∃ y,a = .d y/\b = .d y)∨(∃ i e n xs sh,a = .arr i/\cg[i]? = some (.row e n xs sh)/\b = .d (.sl n xs))∨(∃ i h e n xs sh,a = .sub i h/\cg[i]? = some (.row e n xs sh)/\h<=xs.length/\b = .d (.sl n (xs.take h)))∨(∃ i e s cap,a = .arr i/\cg[i]? = some (.qJ (AJ e s cap) s.size cap)/\s.size<=cap/\cap<=maxLen/\b = .d (.sl 1 (oa s.data.toList)))∨(∃ y y',a = .d y/\b = .d y'/\TP y y')∨∃ i x x' lo n ok,a = .isl i x/\cg[i]? = some (.aN lo n ok)/\ok.reads x=true/\b = .d x'/\TP x x'
def yU (cg:List AB):List AV->List AV->Prop
 | [],bs=>bs=[]
 | a :: as,bs=>∃ b r,bs=b :: r/\rQ cg a b/\yU cg as r
def yV (cg:List AB) (a b:AV):Prop:=rQ cg a b∨∃ as bs,a = .agg as/\b = .agg bs/\yU cg as bs
def DZ (cg:List AB):List AV->List AV->Prop
 | [],bs=>bs=[]
 | a :: as,bs=>∃ b r,bs=b :: r/\yV cg a b/\DZ cg as r
theorem Iz {c:Ctx} {E:Nat->Option Nat} {L:List AB} {w:World} (hs:aI c E L w) (hc:c.wf) {R':RC} (ga:∀ a u,w.cell? a=some u->¬c.M0 a.block a.off->R'.rd a u) (hT:∀ a u n,a.spot=some n->R'.rd a u) {a b:AV} (h:rQ L a b) {v:Value} (hv:VR (aj c.M0 E L w) a v):VR R' b v:=by
 have TK:∀ a u,(aj c.M0 E L w).rd a u->R'.rd a u:=λa u h=>h.elim (λh=>ga a u h.1 λhm=>h.2 (.inl hm)) λh=>h.elim λn hn=>hT a u n hn.1;rcases h with ⟨y,rfl,rfl⟩|⟨i,e,n,xs,sh,rfl,hi,rfl⟩|⟨i,h,e,n,xs,sh,rfl,hi,hh,rfl⟩|⟨i,e,s,cap,rfl,hi,hsc,i_,rfl⟩|⟨y,y',rfl,rfl,hu⟩|⟨i,x,x',lo,n,ok,rfl,hi,Tt,rfl,hu⟩
 rotate_right
 ·simp only [VR] at hv ⊢;obtain ⟨⟨ab,bC,rn⟩,_⟩:=hv;rw [hi] at bC
  cases bC
  refine hu _ _ _ (λa u hr=>?_) hT (P3 Tt rn);obtain ⟨r1,r2,r3⟩:=hr;rcases r3 with r3|⟨m,hm⟩
  ·refine ga a u r3 λhm=>hs.bx.low i _ a.block hi ?_ (hc.sub _ _ hm);simp only [AB.boxes,Pv];exact ⟨r1,r2⟩
  ·exact hT a u m hm
 rotate_right
 ·simp only [VR] at hv ⊢;exact hu _ _ _ TK hT hv
 ·simp only [VR] at hv ⊢;exact VD.mono TK _ _ hv
 ·simp only [VR] at hv ⊢;obtain ⟨ab,bC,rn⟩:=hv;rw [hi] at bC
  cases bC
  obtain ⟨hn,hl,fy⟩:=hs.fQ i _ hi;simp only [bj] at rn
  cases hE:E i with
  | none =>
    rw [hE] at fy rn;simp only at fy rn;subst fy;subst rn;simp only [VD];exact ⟨hn.1,none,0,rfl,by simp,by simp [maxLen],λ_=>rfl,λ_ h=>by cases h⟩
  | some b =>
    rw [hE] at fy rn;obtain ⟨cap,cur,rfl,hh,da⟩:=rn;obtain ⟨ek,cur',nY,nx,ND,PF,CW⟩:=fy;rw [hh] at nY;cases nY
    have xn:cap=ek:=zdB hn.1 (da.symm.trans nx);subst xn;have fb:=hs.low i _ b hi rfl hE;simp only [VD];refine ⟨hn.1,some ⟨b,0,none⟩,cap,rfl,ND,PF,(λh=>by cases h),λa' ha=>?_⟩
    cases ha
    refine ⟨.inr rfl,λ_=>hT _ _ _ rfl,uh TK n CW hl rfl λj u hj=>?_⟩;refine ga _ _ ?_ λhm=>fb (hc.sub b _ hm);rw [gP,cell_of_row w b j cur e (0,0) hh];rw [nX] at hj;split at hj
    ·simpa using hj
    ·cases hj
 ·simp only [VR] at hv ⊢;obtain ⟨p,cap,rfl,gT,qN,ab,bC,hap⟩:=hv;rw [hi] at bC
  cases bC
  simp only [mF] at hap;obtain ⟨b,hE,hp⟩:=hap
  cases hp
  obtain ⟨hn,hl,fy⟩:=hs.fQ i _ hi;rw [hE] at fy;obtain ⟨ek,cur',nY,nx,ND,PF,CW⟩:=fy;have fb:=hs.low i _ b hi rfl hE;have bB:(xs.take h).length=h:=by rw [mw];omega
  simp only [VD];refine ⟨hn.1,some ⟨b,0 * n+0,none⟩,cap,by rw [bB],by rw [bB];exact gT,qN,(λh=>by cases h),λa' ha=>?_⟩
  cases ha
  have hvt:cR (aj c.M0 E L w).rd (xs.take h).flatten ((cur'.toList.take (xs.length * n)).take (h * n)):=by
   rw [eI xs hl];exact gJ _ CW
  refine ⟨.inr rfl,λ_=>hT _ _ _ rfl,uh TK n hvt (λcs ck=>hl cs (Fc ck)) rfl λj u hj=>?_⟩;refine ga _ _ ?_ λhm=>fb (hc.sub b _ hm);rw [Nat.zero_mul,gP,gP,cell_of_row w b j cur' e (0,0) nY];rw [nX] at hj;split at hj
  ·rw [nX] at hj;split at hj
   ·simpa using hj
   ·cases hj
  ·cases hj
 ·simp only [VR] at hv ⊢;obtain ⟨ab,bC,rn⟩:=hv;rw [hi] at bC
  cases bC
  obtain ⟨b,hE,fy⟩:=hs.fQ i _ hi;simp only [bj] at rn;obtain ⟨b',hE',rfl⟩:=rn;rw [hE] at hE'
  cases hE'
  have fb:=hs.low i _ b hi rfl hE;have n_:s.data.toList.length=s.size:=by rw [lU];rfl
  simp only [VD];refine ⟨oM,some ⟨b,0,none⟩,cap,by rw [gV,n_],by rw [gV,n_];exact hsc,i_,(λh=>by cases h),λa' ha=>?_⟩
  cases ha
  refine ⟨.inr rfl,λ_=>hT _ _ _ rfl,uh (rd:=(aj c.M0 E L w).rd) TK 1 (zR s.data.toList) (FA _) rfl λj u hj=>?_⟩;refine ga _ _ ?_ λhm=>fb (hc.sub b _ hm);rw [gP,cell_of_row w b j (bytesRow s cap) e ((bytesRow s cap).size,(bytesRow s cap).size+1) fy];unfold bytesRow;have dM:j<s.data.size:=by
   have:=(dW.1 hj).1;simpa using this
  rw [zdO (by simpa using dM)];simpa using hj
theorem IA {c:Ctx} {E:Nat->Option Nat} {L:List AB} {w:World} (hs:aI c E L w) (hc:c.wf) {R':RC} (ga:∀ a u,w.cell? a=some u->¬c.M0 a.block a.off->R'.rd a u) (hT:∀ a u n,a.spot=some n->R'.rd a u):∀ {as bs:List AV},yU L as bs->∀ {us:List Value},eK (aj c.M0 E L w) as us->eK R' bs us
 | [],bs,h,us,hv=>by
   simp only [yU] at h;subst h;simpa [eK] using hv
 | a :: as,bs,h,us,hv=>by
   simp only [yU] at h;obtain ⟨b,r,rfl,h1,h2⟩:=h;simp only [eK] at hv ⊢;obtain ⟨u,dt,rfl,o,h3,h4⟩:=hv;exact ⟨u,dt,rfl,o,Iz hs hc ga hT h1 h3,IA hs hc ga hT h2 h4⟩
theorem IB {c:Ctx} {E:Nat->Option Nat} {L:List AB} {w:World} (hs:aI c E L w) (hc:c.wf) {R':RC} (ga:∀ a u,w.cell? a=some u->¬c.M0 a.block a.off->R'.rd a u) (hT:∀ a u n,a.spot=some n->R'.rd a u):∀ {as bs:List AV},DZ L as bs->∀ {us:List Value},cD (aj c.M0 E L w) as us->cD R' bs us
 | [],bs,h,us,hv=>by
   simp only [DZ] at h;subst h;simpa [cD] using hv
 | a :: as,bs,h,us,hv=>by
   simp only [DZ] at h;obtain ⟨b,r,rfl,h1,h2⟩:=h;simp only [cD] at hv ⊢;obtain ⟨u,dt,rfl,h3,h4⟩:=hv;refine ⟨u,dt,rfl,?_,IB hs hc ga hT h2 h4⟩;rcases h1 with h1|⟨xs,ys,rfl,rfl,h1⟩
   ·exact Iz hs hc ga hT h1 h3
   ·simp only [VR] at h3 ⊢;obtain ⟨us,rfl,h5⟩:=h3;exact ⟨us,rfl,IA hs hc ga hT h1 h5⟩
def Z8 (av:AV):Prop:=∀ (R R':RC) (v:Value),VR R av v->VR R' av v
theorem vP {P:Program} {f:FuncId} {cS avs':List AV} {cg:List AB} {X:AV->Prop} (hx:∀ av,X av->Z8 av) (hl:DZ cg cS avs') (h:ay P f avs' [] (λav L=>X av/\L=[])):ay P f cS cg (λav L=>X av/\L=cg):=by
 intro c vs hc hL hs hv
 let own:Nat->Prop:=λb=>(∃ i ab,cg[i]? = some ab/\ab.live=true/\c.E0 i=some b)∨∃ (i:Nat) (ab:AB),cg[i]? = some ab/\b∈ab.boxes
 have rL:∀ b,own b->b<c.w0.heap.size:=by
  rintro b (⟨i,ab,h1,h2,h3⟩|⟨i,ab,h1,h2⟩)
  ·exact hs.lt h1 h2 h3
  ·exact hs.blt h1 h2
 have kc:Ctx.wf ⟨c.w0,λb=>b<c.w0.heap.size,⟨c.M0.m,none⟩,λ_=>none,[],c.n⟩ :=
  ⟨λb hb=>hb,λb o hm=>hc.low b (hc.sub b o hm),λs hs=>by cases hs⟩
 have bP:aI ⟨c.w0,λb=>b<c.w0.heap.size,⟨c.M0.m,none⟩,λ_=>none,[],c.n⟩ (λ_=>none) [] c.w0 :=
  ⟨rfl,rfl,rfl,eQ _,λ_ _=>rfl,λi ab h=>by simp at h,λi ab b h=>by simp at h,λi j ab bQ b h=>by simp at h,RC.le.refl _,⟨λi ab b h=>by simp at h,λi j ab bQ b h=>by simp at h,λi ab h=>by simp at h,λi j ab bQ b h=>by simp at h⟩⟩
 have ga:∀ a u,c.w0.cell? a=some u->¬c.M0 a.block a.off->(aj ⟨c.M0.m,none⟩ (λ_=>none) [] c.w0).rd a u:=λa u h1 h2 =>
  .inl ⟨h1,λhm=>hm.elim h2 λhm=>hm.elim (λ⟨i,ab,h,_⟩=>by simp at h) λ⟨i,ab,h,_⟩=>by simp at h⟩
 refine (h _ vs kc rfl bP (IB hs hc ga (λa u n hn => .inr (Tk.any hn)) hl hv)).mono ?_;rintro e w' ⟨v,av,L',E',rfl,⟨hX,rfl⟩,h3,h4⟩;have jH:∀ b,own b->w'.heap[b]? = c.w0.heap[b]? := λb hb=>h3.gS b (rL b hb);have hle:(aj c.M0 c.E0 cg c.w0).le (aj c.M0 c.E0 cg w'):=by
  refine ⟨?_,λ_ _ h=>h,?_,λ_ _ _ _ h=>h,λi x v ⟨ab,h1,h2⟩=>⟨ab,h1,fV (λb hb=>jH b (.inr ⟨i,ab,h1,hb⟩)) h2⟩⟩
  ·exact ug rfl (iG.Dw h3.gS) λa u h1 h2=>⟨(f_ (h3.q_.rd a u (ga a u h1 λhm=>h2 (.inl hm))) (my h1)).1,h2⟩
  ·rintro i v ⟨ab,h1,h2⟩;refine ⟨ab,h1,?_⟩
   cases ab with
   | row e n xs sh =>
     simp only [bj] at h2 ⊢
     cases hE:c.E0 i with
     | none=>rw [hE] at h2;exact h2
     | some b =>
       rw [hE] at h2;obtain ⟨cap,cur,k1,k2,k3⟩:=h2;exact ⟨cap,cur,k1,by rw [jH b (.inl ⟨i,_,h1,rfl,hE⟩)];exact k2,k3⟩
   | cells cs=>exact h2
   | map es=>exact h2
   | cK b cs=>exact h2
   | obj o=>exact h2
   | qJ o n cap=>exact h2
   | aN lo n ok=>exact h2.elim
   | dead=>exact h2
 refine ⟨v,av,cg,c.E0,rfl,⟨hX,rfl⟩,⟨h3.os,h3.tape,h3.output,h3.size,λb hb=>h3.gS b (hc.low b hb),?_,hs.low,hs.inj,?_,hs.bx⟩,?_⟩
 ·intro i ab hi;exact BR.mono hle (hs.fQ i ab hi) (λb he hlv=>jH b (.inl ⟨i,ab,hi,hlv,he⟩)) λb hb=>jH b (.inr ⟨i,ab,hi,hb⟩)
 ·rw [hL];exact hle
 ·exact hx av hX _ _ _ h4
theorem bS {P:Program} {f:FuncId} {cS avs':List AV} {cg:List AB} {x:DV} (hx:Br x) (hl:DZ cg cS avs') (h:ay P f avs' [] (λav L=>av = .d x/\L=[])):ay P f cS cg (λav L=>av = .d x/\L=cg) :=
 vP (X:=λav=>av = .d x) (λav e R R' v hv=>by
  subst e;simp only [VR] at hv ⊢;exact hx _ _ _ hv) hl h
end Go.Ab
namespace Go.Ab
noncomputable section
open Go.RowKit
section
variable {P:Program} {tt:TypeId->Option TI} {fo:FuncId->Bool} {n:Nat}
theorem IC {full:List Oper} {A:List (List Nat)} {es rest rest2:List Nat} (TB:TA full) {L:List AB} {K:AF->PD->Prop}:∀ {rs pre:List Nat} {F:AF} {D:PD},rI P tt fo n full rs F L D K ->
  lH full A es pre (rs++rest)->lH full A es pre (rs++rest2)->(rs++rest).Nodup->(∀ j∈rs++rest,j∉pre)->(∀ r∈rs,r∉es)->(∀ p∈D,DF P tt fo full A es pre F L p) ->
  ∃ F' D' pre',K F' D'/\lH full A es pre' rest/\lH full A es pre' rest2/\(∀ j∈rest,j∉pre')/\(∀ p∈D',DF P tt fo full A es pre' F' L p)/\(∀ i∈rs,∃ v o,(i,v)∈D'/\full[i]? = some o/\jM n o.dst=true)/\(∀ p∈D,p∈D')/\(∀ s,s∉dstsOf full rs->bt F' s=bt F s)
 | [],pre,F,D,h,eO,LK,_,FV,_,hD=>⟨F,D,pre,h,eO,LK,FV,hD,by simp,λ_ h=>h,λ_ _=>rfl⟩
 | i :: r,pre,F,D,h,eO,LK,fh,FV,hes,hD=>by
   simp only [rI,lh] at h;split at h
   ·rename_i o ho
    cases FW:jM n o.dst with
    | false=>rw [FW] at h;exact h.elim
    | true =>
      rw [FW] at h;simp only [jB] at h;obtain ⟨F1,b,TC,oO,gi,vI⟩:=sJ h;have Ip:∃ v,mT P tt fo full o F1 L v/\rI P tt fo n full r (cu F1 o.dst v) L ((i,v) :: D) K:=by
       cases b with
       | true=>obtain ⟨v,h1,h2⟩:=gi rfl;exact ⟨v,sI oO (λ_=>h1) (by simp),h2⟩
       | false=>exact ⟨_,sI oO (by simp) (λ_=>rfl),vI rfl⟩
      obtain ⟨v,hg,hr⟩:=Ip;rw [KX,Pw] at fh;have vJ:i∉pre:=FV i (by simp);have TD:i∉es:=hes i (by simp);have hl:=eO.1 o ho;have rL:∀ s∈lg full o,o.dst≠some s:=by
       intro s hs hd;rcases hl s hs i o ho hd with ⟨a,_⟩|⟨a,_⟩
       ·exact vJ a
       ·exact a rfl
      have hD1:∀ p∈(i,v) :: D,DF P tt fo full A es (i :: pre) (cu F1 o.dst v) L p:=by
       intro p hp;rcases jy.1 hp with rfl|hp
       ·refine ⟨o,ho,ky (λs hs=>(ep (rL s hs) v).symm) hg,λd hd=>jk hd v,by simp,TD,?_⟩;intro s hs k ok hk qO;rcases hl s hs k ok hk qO with ⟨a,b⟩|⟨_,a,b⟩
        ·exact .inl ⟨xg _ a,b⟩
        ·exact .inr ⟨a,b⟩
       ·exact ((hD p hp).frame TC).put TB ho vJ (.inl TD) v (λx hx=>xg _ hx)
      obtain ⟨F',D',pre',k1,k2,k2c,XC,k3,k4,k5,k6⟩:=IC TB hr eO.2 LK.2 fh.2 (λj hj=>by
       simp only [jy,CO];exact ⟨λe=>fh.1 (by rw [<-e];exact hj),FV j (xg _ hj)⟩) (λx hx=>hes x (xg _ hx)) hD1
      refine ⟨F',D',pre',k1,k2,k2c,XC,k3,?_,λp hp=>k5 p (xg _ hp),?_⟩
      ·intro j hj;rcases jy.1 hj with rfl|hj
       ·exact ⟨v,o,k5 _ (by simp),ho,FW⟩
       ·exact k4 j hj
      ·intro s hs;have h1:s∉dstsOf full r:=λhm=>hs (by
        obtain ⟨x,hx,y⟩:=bV.1 hm;exact bV.2 ⟨x,xg _ hx,y⟩)
       have h2:o.dst≠some s:=λhd=>hs (bV.2 ⟨i,by simp,o,ho,hd⟩);rw [k6 s h1,ep h2,TC]
   ·exact h.elim
structure Bt (P:Program) (tt:TypeId->Option TI) (fo:FuncId->Bool) (n:Nat) (c:Ctx) (full:List Oper) (A:List (List Nat)) (es:List Nat)
  (ph:List (Nat×List Nat)) (bW pre:List Nat) (F:AF) (L:List AB) (D:PD) (bc:Array Bool) (a:Act) (w:World):Prop where
 size:bc.size=full.length
 un:∀ i,bc.getD i true=false↔(i∈bW∨i∈later ph)
 down:∀ j o,full[j]? = some o->j∉bW->j∉later ph->∀ m∈nz o,m∉bW/\m∉later ph
 sim:∃ E,eE c E (mask (dstsOf full bW) F) L a w
 facts:∀ p∈D,DF P tt fo full A es pre F L p
 tS:∀ i∈bW,∃ v o,(i,v)∈D/\full[i]? = some o/\jM n o.dst=true
 nd:(bW++later ph).Nodup
 Z4:∀ j∈later ph,j∉pre
theorem Bt.Bh {c:Ctx} {full:List Oper} {A:List (List Nat)} {es:List Nat} {ph:List (Nat×List Nat)} {bW pre:List Nat} {F:AF} {L:List AB} {D:PD} {bc:Array Bool} {a:Act} {w:World}
  (h:Bt P tt fo n c full A es ph bW pre F L D bc a w):∀ i∈bW,i∉es:=λi hi=>by
 obtain ⟨v,o,h1,_⟩:=h.tS i hi;obtain ⟨_,_,_,_,_,h5,_⟩:=h.facts _ h1;exact h5
theorem Bt.swap {c:Ctx} {full:List Oper} {A:List (List Nat)} {es:List Nat} {Bu XJ:List (Nat×List Nat)} {bW pre:List Nat} {F:AF} {L:List AB} {D:PD} {bc:Array Bool} {a:Act} {w:World}
  (h:Bt P tt fo n c full A es Bu bW pre F L D bc a w) (hp:(later Bu).Perm (later XJ)):Bt P tt fo n c full A es XJ bW pre F L D bc a w :=
 have hm:∀ j,j∈later XJ↔j∈later Bu:=λj=>hp.symm.mem_iff
 ⟨h.size,λi=>by rw [hm];exact h.un i,λj o ho h1 h2 m Hy=>by rw [hm] at h2 ⊢;exact h.down j o ho h1 h2 m Hy,h.sim,h.facts,h.tS,(List.Perm.append_left bW hp).nodup_iff.1 h.nd,λj hj=>h.Z4 j ((hm j).1 hj)⟩
theorem IE (ht:cp P tt) (hz:jL tt) (eZ:jx P fo) {full:List Oper} {A:List (List Nat)} {es:List Nat} (hp:Bg full A es) {c:Ctx} (hc:c.wf) (dS:c.n=n) {K:AF->List AB->Prop} {Q:Exit->Act->World->Prop}
  (hq:∀ E F L a w,K F L->eE c E F L a w->Q .normal a w) {fuel i:Nat} {rs:List Nat} {rest:List (Nat×List Nat)} {bW pre:List Nat} {F:AF} {L:List AB} {D:PD} {bc:Array Bool} {a:Act} {w:World}
  (h:Bt P tt fo n c full A es ((i,rs) :: rest) bW pre F L D bc a w) (look:lH full A es pre (later ((i,rs) :: rest))) (tree:rK P tt fo n full A ((i,rs) :: rest) F L D K)
  (hrs:∀ x∈rs,i∈gk A x/\x∉es) {q:Option Nat} (WJ:uA A es q rest) (lO:i∉bW) {o:Oper} (ho:full[i]? = some o) (tT:∀ m∈nz o,m<full.length/\m∉bW/\m∉later ((i,rs) :: rest))
  (xQ:∀ k∈gk A i,¬(k∈bW∨k∈later ((i,rs) :: rest))) (hf:fuel+1=bW.length+(later ((i,rs) :: rest)).length) :
  wpOp P full.toArray Q i (wpAny P .any full.toArray Q fuel (bc.setIfInBounds i true)) a w:=by
 obtain ⟨E,hs⟩:=h.sim;have TF:i<bc.size:=by rw [h.size];exact (dW.1 ho).1
 have FG:∀ j,(bc.setIfInBounds i true).getD j true=false↔j≠i/\(j∈bW∨j∈later ((i,rs) :: rest)):=by
  intro j;by_cases cA:i=j
  ·subst cA;simp [TF]
  ·rw [getD_set_ne true cA,h.un];simp [Ne.symm cA]
 have oR:=tree;simp only [rK,lh,ho] at oR
 cases FW:jM n o.dst with
 | false=>rw [FW] at oR;exact oR.elim
 | true =>
   rw [FW] at oR;simp only [jB] at oR;obtain ⟨F1,b,TC,oO,gi,vI⟩:=sJ oR;have qQ:∀ x,o.dst=some x->x<c.n:=by rw [dS];exact rE FW
   have eO:=look;simp only [later] at eO;have hl:=eO.1 o ho;have vJ:i∉pre:=h.Z4 i (by rw [cr];exact .inl rfl);have jP:∀ s∈lg full o,bt F1 s=bt (mask (dstsOf full bW) F1) s:=by
    intro s n_;rw [bk];intro hm;obtain ⟨k,hk,ok,bw,qO⟩:=bV.1 hm;rcases hl s n_ k ok bw qO with ⟨_,b⟩|⟨_,b,_⟩
    ·exact xQ k b (.inl hk)
    ·exact h.Bh k hk b
   have dR:eE c E (mask (dstsOf full bW) F1) L a w:=hs.vg λs=>by
    by_cases fD:s∈dstsOf full bW
    ·right;exact dU fD
    ·left;rw [bk fD,bk fD,TC]
   have fh:=h.nd;simp only [later] at fh;rw [CN,Pw] at fh;have next:∀ av L' E' a' w',(rJ P tt fo full (gk A i) (cu F1 o.dst av) L' D λD=>rI P tt fo n full rs (cu F1 o.dst av) L' D λF D=>rK P tt fo n full A rest F L' D K) ->
     eE c E' (cu (mask (dstsOf full bW) F1) o.dst av) L' a' w'->(∀ p∈D,p.1∉gk A i->∀ o',full[p.1]? = some o'->qA o'=true->True)->wpAny P .any full.toArray Q fuel (bc.setIfInBounds i true) a' w':=by
    intro av L' E' a' w' hk bP _;obtain ⟨D1,hr,Bl,hk2⟩:=rM hk;have hD1:∀ p∈D1,DF P tt fo full A es (i :: pre) (cu F1 o.dst av) L' p:=by
     intro p RT;obtain ⟨q1,q2,op,q3,q4⟩:=hk2 p RT;have hdf:=(((h.facts p q1).frame TC).put hp.dst ho vJ (.inr q2) av (pre':=i :: pre) (λx hx=>xg _ hx));obtain ⟨op',r1,r2,r3,r4,r5,r6⟩:=hdf;rw [q3] at r1
     cases r1
     refine ⟨op,q3,?_,r3,r4,r5,r6⟩;rcases q4 with q4|q4
     ·exact Tz q4 r2 L'
     ·exact q4
    obtain ⟨F3,D3,abQ,m1,m2,m2b,m3,m4,m5,m6⟩:=vH (rest:=later rest) hp.dst hr eO.2 fh.2.1.2 (λj hj=>by
     simp only [jy,CO];exact ⟨λe=>fh.2.1.1 (e▸hj),h.Z4 j (by rw [cr];right;exact gA.1 hj)⟩) (λx hx=>(hrs x hx).2) hD1
    refine Bj ht hz eZ hp hc dS hq fuel rest (rs++bW) abQ F3 L' D3 _ a' w' ⟨by simpa using h.size,?_,?_,?_,m3,?_,m2,?_,m2b,⟨_,WJ⟩,m1⟩ ?_
    ·intro j;rw [FG,cr,gA];constructor
     ·rintro ⟨h1,h2|h2|h2|h2⟩
      ·exact .inl (.inr h2)
      ·exact absurd h2 h1
      ·exact .inl (.inl h2)
      ·exact .inr h2
     ·have ef:∀ x,x∈rs++later rest->x≠i:=λx hx e=>fh.2.1.1 (e▸hx);rintro ((h1|h1)|h1)
      ·exact ⟨ef j (R_ _ h1),.inr (.inr (.inl h1))⟩
      ·exact ⟨λe=>lO (e▸h1),.inl h1⟩
      ·exact ⟨ef j (RE _ h1),.inr (.inr (.inr h1))⟩
    ·intro j oj LH pK lA m hm;simp only [gA,CO] at pK ⊢;have key:m∉bW/\m∉later ((i,rs) :: rest):=by
      by_cases cA:j=i
      ·subst cA;rw [ho] at LH
       cases LH
       exact (tT m hm).2
      ·exact h.down j oj LH pK.2 (by rw [cr];simp only [CO];exact ⟨cA,pK.1,lA⟩) m hm
     rw [cr] at key;simp only [CO] at key;exact ⟨⟨key.2.2.1,key.1⟩,key.2.2.2⟩
    ·refine ⟨E',bP.vg λs=>?_⟩;by_cases fD:s∈dstsOf full (rs++bW)
     ·right;exact dU fD
     ·left;rw [bk fD];have abR:s∉dstsOf full rs:=λhm=>fD (by
       obtain ⟨k,hk,y⟩:=bV.1 hm;exact bV.2 ⟨k,R_ _ hk,y⟩)
      have abS:s∉dstsOf full bW:=λhm=>fD (by
       obtain ⟨k,hk,y⟩:=bV.1 hm;exact bV.2 ⟨k,RE _ hk,y⟩)
      rw [m6 s abR];by_cases hd:o.dst=some s
      ·rw [jk hd,jk hd]
      ·rw [ep hd,ep hd,bk abS]
    ·intro j hj;rcases gA.1 hj with hj|hj
     ·exact m4 j hj
     ·obtain ⟨v,oj,q1,q2,q3⟩:=h.tS j hj;exact ⟨v,oj,m5 _ (Bl _ q1 (λhh=>xQ j hh (.inl hj))),q2,q3⟩
    ·rw [uf,CN];have FX:=fh.2.1.2;rw [CN] at FX;refine ⟨FX.1,?_,?_⟩
     ·rw [CN];exact ⟨fh.1,FX.2.1,λx hx y hy=>fh.2.2 x hx y (xg _ (RE _ hy))⟩
     ·intro x hx y hy;rcases gA.1 hy with hy|hy
      ·exact λe=>fh.2.2 y hy x (xg _ (R_ _ hx)) e.symm
      ·exact FX.2.2 x hx y hy
    ·simp only [later,CE,iQ] at hf ⊢;omega
   refine N8 ho qQ dR (Bf jP oO) (λhb=>sG ht hz eZ hc (DS jP (gi hb)) dR) (λhb=>?_) ?_
   ·exact next (.tup []) L E _ w (vI hb) (dR.put o.dst (.tup []) undef qQ (by simp [VR,cD,undef])) (λ_ _ _ _ _ _=>trivial)
   ·intro av L' E' a' w' hk bP;exact next av L' E' a' w' hk bP (λ_ _ _ _ _ _=>trivial)
theorem TQ (ht:cp P tt) (hz:jL tt) (eZ:jx P fo) {full:List Oper} {A:List (List Nat)} {es:List Nat} (hp:Bg full A es) {c:Ctx} (hc:c.wf) (dS:c.n=n) {K:AF->List AB->Prop} {Q:Exit->Act->World->Prop}
  (hq:∀ E F L a w,K F L->eE c E F L a w->Q .normal a w) {Bu XJ:List (Nat×List Nat)} {e1 e2:Nat} {r1 r2 s1 s2:List Nat} {ra rb:List (Nat×List Nat)} (ha:Bu=(e1,r1) :: (e2,r2) :: ra) (hb:XJ=(e2,s2) :: (e1,s1) :: rb) (Bv:(later Bu).Perm (later XJ))
  (RX:∀ x∈r1,e1∈gk A x/\x∉es) (e_:∀ x∈s2,e2∈gk A x/\x∉es) (hca:uA A es none ((e2,r2) :: ra)) (hcb:uA A es none ((e1,s1) :: rb)) :
  ∀ (fuel:Nat) (bW pre:List Nat) (F:AF) (L:List AB) (D:PD) (bc:Array Bool) (a:Act) (w:World),
  Bt P tt fo n c full A es Bu bW pre F L D bc a w->lH full A es pre (later Bu)->lH full A es pre (later XJ)->rK P tt fo n full A Bu F L D K->rK P tt fo n full A XJ F L D K ->
  fuel=bW.length+(later Bu).length->wpAny P .any full.toArray Q fuel bc a w:=by
 intro fuel
 induction fuel with
 | zero =>
   intro bW pre F L D bc a w h TR TS TT TU hf;rw [ha] at hf;simp [later] at hf
 | succ fuel ih =>
   intro bW pre F L D bc a w h TR TS TT TU hf
   -- SX is not done
   have bB:∀ j,(j∈bW∨j∈later Bu)->∃ o,full[j]? = some o:=by
    intro j hj;have h1:=(h.un j).2 hj;rcases qZ j bc.size with h2|h2
    ·rw [h.size] at h2;exact ⟨full[j],by simp [h2]⟩
    ·simp [zfO.2 h2] at h1
   have Iq:∀ (o:Oper),(∀ e∈o.after,Region.binds .any e=true->bc.getD e.on false=true)↔(∀ m∈nz o,m<full.length/\m∉bW/\m∉later Bu):=by
    intro o;have one:∀ m,bc.getD m false=true↔(m<full.length/\m∉bW/\m∉later Bu):=by
     intro m;have hu:=h.un m;rw [<-h.size];rcases qZ m bc.size with h2|h2
     ·simp only [zc7,ZE h2,zfL] at hu ⊢
      cases hb:bc[m] with
      | true=>rw [hb] at hu;simp at hu;simp [h2,hu]
      | false=>rw [hb] at hu;simp at hu;simp;intro _ hn;exact hu.resolve_left hn
     ·simp [zc7,Array.getElem?_eq_none h2,zfO.2 h2]
    constructor
    ·intro h1 m hm;obtain ⟨e,he,hb,rfl⟩:=vK.1 hm;exact (one _).1 (h1 e he hb)
    ·intro h1 e he hb;exact (one _).2 (h1 _ (vK.2 ⟨e,he,hb,rfl⟩))
   have Bk:∀ j,j∈Region.ready .any full.toArray bc↔(j∈bW∨j∈later Bu)/\∃ o,full[j]? = some o/\∀ m∈nz o,m<full.length/\m∉bW/\m∉later Bu:=by
    intro j;rw [mem_ready,h.un];constructor
    ·rintro ⟨h1,o,h2,h3⟩;exact ⟨h1,o,by simpa using h2,(Iq o).1 h3⟩
    ·rintro ⟨h1,o,h2,h3⟩;exact ⟨h1,o,by simpa using h2,(Iq o).2 h3⟩
   refine ⟨?_,?_⟩
   · -- PW may go
     intro h0;exfalso;have none:∀ j,¬(j∈bW∨j∈later Bu):=by
      intro j
      induction j using Nat.strongRecOn with
      | _ j ihj =>
        intro hj;obtain ⟨o,ho⟩:=bB j hj;have:j∈Region.ready .any full.toArray bc:=(Bk j).2 ⟨hj,o,ho,λm hm=>by
         have RK:=hp.low j o ho m hm;have dM:j<full.length:=(dW.1 ho).1;have:=ihj m RK;simp only [CO] at this;exact ⟨oM,this⟩⟩
        rw [h0] at this
        cases this
     have:bW++later Bu=[]:=zeF.2 λj hj=>none j (gA.1 hj);have:=lM List.length this;rw [iQ,Du] at this;omega
   ·intro i hi;obtain ⟨ZW,o,ho,tT⟩:=(Bk i).1 hi;have TE:∀ (j:Nat) o,full[j]? = some o->¬(j∈bW∨j∈later Bu)->∀ m∈nz o,¬(m∈bW∨m∈later Bu):=by
     intro j o ho hj m hm;simp only [CO] at hj ⊢;exact h.down j o ho hj.1 hj.2 m hm
    have xQ:=Bi hp TE i o ho (λm hm=>by have:=tT m hm;simp only [CO];exact this.2);obtain ⟨E,hs⟩:=h.sim;have TF:i<bc.size:=by rw [h.size];exact (dW.1 ho).1
    have FG:∀ j,(bc.setIfInBounds i true).getD j true=false↔j≠i/\(j∈bW∨j∈later Bu):=by
     intro j;by_cases cA:i=j
     ·subst cA;simp [TF]
     ·rw [getD_set_ne true cA,h.un];simp [Ne.symm cA]
    by_cases lO:i∈bW
    · -- one SI was TG
      obtain ⟨v,o',hvD,KL,FW⟩:=h.tS i lO;rw [ho] at KL
      cases KL
      obtain ⟨o',KL,hg,hdv,C2,abP,pA⟩:=h.facts _ hvD;simp only at KL hg hdv C2 abP pA;rw [ho] at KL
      cases KL
      have jP:∀ s∈lg full o,bt F s=bt (mask (dstsOf full bW) F) s:=by
       intro s n_;rw [bk];intro hm;obtain ⟨k,hk,ok,bw,qO⟩:=bV.1 hm;rcases pA s n_ k ok bw qO with ⟨_,b⟩|⟨b,_⟩
       ·exact xQ k b (.inl hk)
       ·exact h.Bh k hk b
      obtain ⟨b,g1,g2,g3⟩:=vG (ky jP hg);have qQ:∀ x,o.dst=some x->x<c.n:=by rw [dS];exact rE FW
      have next:∀ E' a' w',eE c E' (cu (mask (dstsOf full bW) F) o.dst v) L a' w'->wpAny P .any full.toArray Q fuel (bc.setIfInBounds i true) a' w':=by
       intro E' a' w' bP;have fh:=h.nd;rw [CN] at fh;have tu:∀ j,j∈bW.erase i↔j≠i/\j∈bW:=λj=>fh.1.mem_erase_iff;have eL:i∉later Bu:=λhl=>fh.2.2 i lO i hl rfl;refine ih (bW.erase i) pre F L D _ a' w' ⟨by simpa using h.size,?_,?_,?_,h.facts,λj hj=>h.tS j ((tu j).1 hj).2,?_,h.Z4⟩ TR TS TT TU ?_
       ·intro j;rw [FG,tu];constructor
        ·rintro ⟨h1,h2|h2⟩
         ·exact .inl ⟨h1,h2⟩
         ·exact .inr h2
        ·rintro (⟨h1,h2⟩|h2)
         ·exact ⟨h1,.inl h2⟩
         ·exact ⟨λe=>eL (e▸h2),.inr h2⟩
       ·intro j oj LH pK lA m hm;rw [tu] at pK ⊢;by_cases cA:j=i
        ·subst cA;rw [ho] at LH
         cases LH
         have:=tT m hm;exact ⟨λhh=>this.2.1 hh.2,this.2.2⟩
        ·have:=h.down j oj LH (λhh=>pK ⟨cA,hh⟩) lA m hm;exact ⟨λhh=>this.1 hh.2,this.2⟩
       ·refine ⟨E',bP.vg λs=>?_⟩;by_cases fD:s∈dstsOf full (bW.erase i)
        ·right;exact dU fD
        ·left;rw [bk fD];by_cases hd:o.dst=some s
         ·rw [jk hd];exact hdv s hd
         ·rw [ep hd,bk];intro hm;obtain ⟨k,hk,ok,bw,qO⟩:=bV.1 hm;by_cases Ha:k=i
          ·subst Ha;rw [ho] at bw;cases bw;exact hd qO
          ·exact fD (bV.2 ⟨k,(tu k).2 ⟨Ha,hk⟩,ok,bw,qO⟩)
       ·rw [CN];exact ⟨fh.1.erase i,fh.2.1,λx hx y hy=>fh.2.2 x ((tu x).1 hx).2 y hy⟩
       ·rw [zfA lO];have:=zfG lO;omega
      refine N8 (Kop:=λv' L'=>v'=v/\L'=L) ho qQ hs g1 (λhb=>N7 ht hz eZ hc (g2 hb _ ⟨rfl,rfl⟩) hs) (λhb=>?_) ?_
      ·have hv:=g3 hb;subst hv;exact next E _ w (hs.put o.dst (.tup []) undef qQ (by simp [VR,cD,undef]))
      ·rintro av L' E' a' w' ⟨rfl,rfl⟩ bP;exact next E' a' w' bP
    · -- one of DE two ahz
      have eL:i∈later Bu:=ZW.resolve_left lO;have hsw:=h.swap Bv;have Hy:∀ j,j∈later XJ↔j∈later Bu:=λj=>Bv.symm.mem_iff;by_cases h1:i=e1
      ·subst h1;subst ha;exact IE ht hz eZ hp hc dS hq h TR TT RX hca lO ho tT xQ hf
      ·have h2:i=e2:=by
        rw [ha,cr] at eL;rcases eL with e|hr|hl
        ·exact absurd e h1
        ·exact absurd (.inr (by rw [ha,cr];exact .inl rfl)) (xQ e1 (RX i hr).1)
        ·rcases xP hca i hl with ⟨e,rs,rest,hph,rfl⟩|⟨m,hm1,hm2⟩
         ·cases hph;rfl
         ·exact absurd (.inr (by rw [ha,cr];exact .inr (.inr hm1))) (xQ m hm2)
       subst h2;subst hb;exact IE ht hz eZ hp hc dS hq hsw TS TU e_ hcb lO ho (λm hm=>by rw [Hy];exact tT m hm) (λk hk=>by rw [Hy];exact xQ k hk) (by rw [<-Bv.length_eq];exact hf)
def abU (full:List Oper) (pE rh:a_):Bool :=
 let es:=pE.ph.map (·.1)
 let pi:=pE.r0++later pE.ph
 mM pi&&(Nat.beq pi.length full.length&&pi.all (λi=>Nat.blt i full.length))&&allI (λi _=>iy i pi) 0 full &&
 xN full pE.lf es [] pi&&xN full pE.lf es [] (pE.r0++later rh.ph)&&XB full pE.lf&&pE.r0.all (λx => !iy x es)&&Il full &&
 allI (λj o=>(nz o).all λi=>Nat.blt i j) 0 full &&
 (match pE.ph,rh.ph with
   | (e1,r1) :: ta,(e2,s2) :: tb=>(match ta,tb with
     | (e2',_) :: _,(e1',_) :: _=>Nat.beq e2' e2&&Nat.beq e1' e1&&r1.all (λx=>iy e1 (gk pE.lf x) && !iy x es)&&s2.all (λx=>iy e2 (gk pE.lf x) && !iy x es)&&xO pE.lf es none ta&&xO pE.lf es none tb
     | _,_=>false)
   | _,_=>false) &&
 (later pE.ph).isPerm (later rh.ph)
theorem P4 (ht:cp P tt) (hz:jL tt) (eZ:jx P fo) (hm:P.follows .mixedOrders=true) {id k0:Nat} {ops:Array Oper} (pE rh:a_) (fT:abU ops.toList pE rh=true) {K:AF->List AB->Prop} {F:AF} {L:List AB}
  (h:rI P tt fo n ops.toList pE.r0 F L [] λF D=>rK P tt fo n ops.toList pE.lf pE.ph F L D K/\rK P tt fo n ops.toList pE.lf rh.ph F L D K):cw P n k0 id ops K F L:=by
 intro c E a w hc dS hk hs;unfold abU at fT;simp only [oB,Fe,G6] at fT;obtain ⟨⟨⟨⟨⟨⟨⟨⟨⟨⟨p1,p2⟩,p3⟩,p4⟩,p4b⟩,p5⟩,p7⟩,p8⟩,p9⟩,Oa⟩,p11⟩:=fT;have fh:=kr p1;have hlen:=ie p2.1;have bK:∀ i,i<ops.toList.length->i∈pE.r0++later pE.ph:=λi hi=>by
  have:=mf p3 i ops.toList[i] (by rw [ff hi]);rw [gP] at this;exact dP this
 have C0:Bg ops.toList pE.lf (pE.ph.map (·.1)):=⟨vL p8,FY p5,λj o ho m hm=>by
  have:=mf p9 j o ho;simp only [Fe,gP] at this;exact kO (Nt _) (Hh (this m hm))⟩
 have Bm:∀ i∈pE.r0++later pE.ph,i<ops.toList.length:=by
  intro i hi;exact kO (Nt _) (Hh (p2.2 i hi))
 have Bv:(later pE.ph).Perm (later rh.ph):=List.isPerm_iff.1 p11;have ui:eE c E F L a { w with drawn:=w.drawn+1 }:=hs.keeps hc (aO.drew w);obtain ⟨F',D',pre',k1,k2,k2c,XC,k3,k4,k5,k6⟩:=IC (A:=pE.lf) (es:=pE.ph.map (·.1)) (rest:=later pE.ph) (rest2:=later rh.ph) C0.dst h (oP p4) (oP p4b) fh (by simp) (λr hr=>lZ (p7 r hr)) (by simp);split at Oa
 rotate_left
 ·cases Oa
 rename_i e1 r1 ta e2 s2 tb RW hpb;split at Oa
 rotate_left
 ·cases Oa
 rename_i e2' r2 ra e1' s1 rb;simp only [oB,Fe,G6] at Oa;obtain ⟨⟨⟨⟨⟨q1,q2⟩,q3⟩,q4⟩,q5⟩,q6⟩:=Oa;have t1:=ie q1;have t2:=ie q2;subst t1;subst t2;refine wp_region_any hm ?_;have e:ops=ops.toList.toArray:=by simp
 rw [e];refine TQ ht hz eZ C0 hc dS (K:=K) ?_ RW hpb Bv (λx hx=>⟨dP (q3 x hx).1,lZ (q3 x hx).2⟩) (λx hx=>⟨dP (q4 x hx).1,lZ (q4 x hx).2⟩) (oQ q5) (oQ q6) _ pE.r0 pre' F' L D' _ a _ ⟨by simp,?_,?_,?_,k3,k4,fh,XC⟩ k2 k2c k1.1 k1.2 ?_
 ·intro E F L a w hK hs;exact ⟨E,F,L,hs,rfl,hK⟩
 ·intro i;rw [<-gA];constructor
  ·intro hi;by_cases bB:i<ops.toList.length
   ·exact bK i bB
   ·simp at bB;simp [zfO.2 bB] at hi
  ·intro hi;have:=Bm i hi;simp at this;simp [this]
 ·intro j o ho pK lA;exact absurd (bK j (dW.1 ho).1) (by simp [pK,lA])
 ·refine ⟨E,ui.vg λs=>?_⟩;by_cases fD:s∈dstsOf ops.toList pE.r0
  ·right;exact dU fD
  ·left;rw [bk fD,k6 s fD]
 ·have:ops.toList.toArray.size=(pE.r0++later pE.ph).length:=by rw [hlen];simp
  rw [this];simp
theorem oW (ht:cp P tt) (hz:jL tt) (eZ:jx P fo) (hm:P.follows .mixedOrders=true) {id k0:Nat} {ops:Array Oper} (pE rh:a_) (fT:abU ops.toList pE rh=true) {K:AF->List AB->Prop} {F:AF} {L:List AB}
  (h:nJ P tt fo n ops.toList pE.r0 F L [] λF D=>rN P tt fo n ops.toList pE.lf pE.ph F L D K/\rN P tt fo n ops.toList pE.lf rh.ph F L D K):cw P n k0 id ops K F L:=by
 simp only [oS,rO] at h;exact P4 ht hz eZ hm _ _ fT h
end
end
noncomputable section
open Go.RowKit
def rf (l:Nat):Fence:=Fence.wide.inRound l
theorem IF (l n:Nat):(rf l).depth.isSome=true->1<=n:=λh=>by
 have h':(none:Option Nat).isSome=true:=h
 cases h'
theorem LL {P:Program} {l n:Nat} {f:FuncId} {args:Array Value} {w:World} {R:Ending->World->Prop} (h:Calls P f args w R):CallsIn (rf l) n P f args w R :=
 callsIn_wide.2 h
theorem P5 {P:Program} {l n:Nat} {row:String} {args:Array Value} {w:World} {R:Value->World->Prop} (h:Rows P row args w R):RowsIn (rf l) n P row args w R:=by
 intro c cs _;obtain ⟨v,w',r,s⟩:=h c cs;exact ⟨v,w',r,(stepsIn_wide (P:=P)).2 s⟩
theorem D0 {P:Program} {l n:Nat} {o:Oper} (hd:∀ c,o.op ≠ .defer c) {a:Act} {w:World} {K:Act->World->Prop} {Q:Exit->Act->World->Prop} (h:o.wp P a w K Q):o.wpIn (rf l) n P a w K Q:=by
 refine ⟨λ_ _=>trivial,?_⟩;rw [Oper.semAt_eq _ _ _ hd];unfold Oper.wp at h;generalize (execOp a.eval o).run P w=r at h
 cases r with
 | ok x w' =>
   cases x<;>first|exact h|exact ⟨IF l n,CallsIn.mono (LL h) (λe w'' he=>by cases e<;>exact he)⟩|exact ⟨IF l n,P5 h⟩|exact h.elim
 | halt x w'=>cases x<;>exact h
def zY (ops:List Oper):Prop:=∀ o∈ops,∀ c,o.op ≠ .defer c
def zZ (o:Oper):Bool:=match o.op with | .defer _=>true|_=>false
theorem Bw {ops:List Oper} (h:ops.all (λo => !zZ o)=true):zY ops:=by
 intro o ho c hc;have:=Fe.1 h o ho;simp [zZ,hc] at this
theorem D2 {P:Program} {l n:Nat} {full:Array Oper} {Q:Exit->Act->World->Prop} (hq:¬LetsOut Q):∀ {ops:List Oper} {a:Act} {w:World},zY ops->wpList P full Q ops a w->wpListIn (rf l) n P full Q ops a w
 | [],a,w,_,h=>h
 | o :: r,a,w,hd,h=>by
   have ih:∀ a w,wpList P full Q r a w->wpListIn (rf l) n P full Q r a w:=λa w=>D2 hq (λo ho=>hd o (xg _ ho));simp only [wpList] at h;simp only [wpListIn];split
   ·rename_i hw;rw [bp hw] at h;rcases h with h|h
    ·exact Oper.wpIn_mono ih (D0 (hd o (List.mem_cons_self ..)) h)
    ·exact absurd h.2 hq
   ·rename_i hw;rw [aR hw] at h;exact ⟨λ_ _=>trivial,ih _ _ h⟩
theorem XK {P:Program} {l n:Nat} {ops:Array Oper} {Q:Exit->Act->World->Prop} (hq:¬LetsOut Q) (hd:zY ops.toList) {i:Nat} {K:Act->World->Prop} {a:Act} {w:World} (h:wpOp P ops Q i K a w):wpOpIn (rf l) n P ops Q i K a w:=by
 unfold wpOp at h;unfold wpOpIn;split at h
 ·rename_i hi;simp only [hi];exact h
 ·rename_i o hi;simp only [hi];split
  ·rename_i hw;rw [bp hw] at h;rcases h with h|h
   ·exact D0 (hd o (fU (by simpa using hi))) h
   ·exact absurd h.2 hq
  ·rename_i hw;rw [aR hw] at h;exact ⟨λ_ _=>trivial,h⟩
theorem IG {P:Program} {l n:Nat} {md:Region.Mode} {ops:Array Oper} {Q:Exit->Act->World->Prop} (hq:¬LetsOut Q) (hd:zY ops.toList):∀ {fuel:Nat} {bc:Array Bool} {a:Act} {w:World},wpAny P md ops Q fuel bc a w->wpAnyIn (rf l) n P md ops Q fuel bc a w
 | 0,bc,a,w,h=>h
 | fuel+1,bc,a,w,h =>
   ⟨h.1,λi hi=>wpOpIn_mono (λa w=>IG hq hd) (XK hq hd (h.2 i hi))⟩
end
end Go.Ab
