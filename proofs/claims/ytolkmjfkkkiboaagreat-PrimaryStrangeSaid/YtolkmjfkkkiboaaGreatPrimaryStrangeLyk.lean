/- PrimaryStrange: abstract runs. -/
import Derived.RangeFuncNested
import Derived.TacticsInMore
import Derived.OrdersIn
import Derived.Test.YtolkmjfkkkiboaaGreatPrimaryStrangeLyr
set_option linter.unusedVariables false
set_option linter.unusedSimpArgs false
namespace Go.Ab
open Go.RowKit
def flatD (x:DV):Prop:=∀ (rd rd':Addr→Value→Prop) (v:Value),VD rd x v→VD rd' x v
theorem flat_bool (b:Bool):flatD (.bool b):=fun _ _ _ h=>by simpa [VD] using h
theorem flat_int (k:IntKind) (n:Int):flatD (.int k n):=fun _ _ _ h=>by simpa [VD] using h
def UpD (y y':DV):Prop:=∀ (rd rd':Addr→Value→Prop) (v:Value),(∀ a u,rd a u→rd' a u)→(∀ a u n,a.spot=some n→rd' a u)→VD rd y v→VD rd' y' v
theorem UpD.refl (y:DV):UpD y y:=fun _ _ _ h _ k=>VD.mono h _ _ k
inductive Ups:List DV→List DV→Prop
 | nil:Ups [] []
 | cons {y y':DV} {r r':List DV} (h:UpD y y') (k:Ups r r'):Ups (y :: r) (y' :: r')
inductive UpE:List (List DV)→List (List DV)→Prop
 | nil:UpE [] []
 | cons {y y':List DV} {r r':List (List DV)} (h:Ups y y') (k:UpE r r'):UpE (y :: r) (y' :: r')
theorem Ups.length {xs ys:List DV} (h:Ups xs ys):ys.length=xs.length:=by induction h<;>simp_all
theorem UpE.length {xs ys:List (List DV)} (h:UpE xs ys):ys.length=xs.length:=by induction h<;>simp_all
theorem Ups.ok {rd rd':Addr→Value→Prop} (h1:∀ a u,rd a u→rd' a u) (h2:∀ a u n,a.spot=some n→rd' a u) {xs ys:List DV} (h:Ups xs ys):∀ {a:Addr},VDC rd xs a→VDC rd' ys a:=by
 induction h with
 | nil=>intro a _;simp [VDC]
 | cons h k ih =>
   intro a x
   simp only [VDC] at x ⊢
   obtain ⟨⟨u,e1,e2,e3⟩,e4⟩:=x
   exact ⟨⟨u,h1 _ _ e1,e2,h rd rd' u h1 h2 e3⟩,ih e4⟩
theorem UpE.ok {rd rd':Addr→Value→Prop} (h1:∀ a u,rd a u→rd' a u) (h2:∀ a u n,a.spot=some n→rd' a u) {n:Nat} {xs ys:List (List DV)} (h:UpE xs ys):∀ {a:Addr},VDE rd n xs a→VDE rd' n ys a:=by
 induction h with
 | nil=>intro a _;simp [VDE]
 | cons h k ih =>
   intro a x
   simp only [VDE] at x ⊢
   exact ⟨by rw [h.length];exact x.1,h.ok h1 h2 x.2.1,ih x.2.2⟩
theorem UpE.nil_iff {xs ys:List (List DV)} (h:UpE xs ys):xs=[]→ys=[]:=by cases h<;>simp
theorem UpD.slo {n:Nat} {xs ys:List (List DV)} (h:UpE xs ys):UpD (.slo n xs) (.sl n ys):=by
 intro rd rd' v h1 h2 x
 simp only [VD] at x ⊢
 obtain ⟨hn,a,cap,e1,e2,e3,e4,e5⟩:=x
 exact ⟨hn,a,cap,by rw [h.length];exact e1,by rw [h.length];exact e2,e3,e4,fun a' ha=>⟨(e5 a' ha).1.imp h.nil_iff id,fun _=>h2 _ _ n rfl,h.ok h1 h2 (e5 a' ha).2⟩⟩
theorem Ups.refl:∀ (xs:List DV),Ups xs xs
 | [] => .nil
 | y :: r => .cons (.refl y) (Ups.refl r)
theorem UpE.refl:∀ (xs:List (List DV)),UpE xs xs
 | [] => .nil
 | y :: r => .cons (.refl y) (UpE.refl r)
theorem UpE.map {α:Type} {f g:α→List DV} (h:∀ x,Ups (f x) (g x)):∀ (l:List α),UpE (l.map f) (l.map g)
 | [] => .nil
 | x :: r => .cons (h x) (UpE.map h r)
def IsK.reads:IsK→DV→Bool
 | .bool b,_=>b
 | .hole _ _ ok,x => !x.isSlo||ok
theorem islRel_rd {lo n:Nat} {ok:IsK} {w:World} {x:DV} {v:Value} (hr:ok.reads x=true) (h:islRel w x v (.isle lo n ok)) :
  VD (fun a u=>lo≤a.block∧a.block<lo+n∧(w.cell? a=some u∨∃ m,a.spot=some m)) x v:=by
 cases ok with
 | bool ok =>
   cases ok with
   | true=>exact VD.mono (fun a u hr=>⟨hr.1,hr.2.1,hr.2.2.imp id fun ⟨m,hm,_⟩=>⟨m,hm⟩⟩) _ _ h
   | false=>cases hr
 | hole b k ok =>
   cases x with
   | slo m xs =>
     obtain ⟨k1,k2,k3,_⟩:=h.2 m xs rfl
     exact VD.mono (fun a u hr=>⟨by have:=hr.1;omega,by have:=hr.2.1;omega,.inl hr.2.2⟩) _ _ (k1 (by simpa [IsK.reads,DV.isSlo] using hr))
   | _=>exact VD.mono (fun a u hr=>⟨hr.1,hr.2.1,hr.2.2.imp (fun h=>h.1) fun ⟨m,hm,_⟩=>⟨m,hm⟩⟩) _ _ (h.1 rfl)
def lend1 (Lin:List AB) (a b:AV):Prop:=(∃ y,a = .d y∧b = .d y)∨(∃ i e n xs sh,a = .arr i∧Lin[i]? = some (.row e n xs sh)∧b = .d (.sl n xs))∨(∃ i h e n xs sh,a = .sub i h∧Lin[i]? = some (.row e n xs sh)∧h≤xs.length∧b = .d (.sl n (xs.take h)))∨(∃ i e s cap,a = .arr i∧Lin[i]? = some (.obs (bytesObj e s cap) s.size cap)∧s.size≤cap∧cap≤maxLen∧b = .d (.sl 1 (u8s s.data.toList)))∨(∃ y y',a = .d y∧b = .d y'∧UpD y y')∨∃ i x x' lo n ok,a = .isl i x∧Lin[i]? = some (.isle lo n ok)∧ok.reads x=true∧b = .d x'∧UpD x x'
def lendS (Lin:List AB):List AV→List AV→Prop
 | [],bs=>bs=[]
 | a :: as,bs=>∃ b r,bs=b :: r∧lend1 Lin a b∧lendS Lin as r
def lend2 (Lin:List AB) (a b:AV):Prop:=lend1 Lin a b∨∃ as bs,a = .agg as∧b = .agg bs∧lendS Lin as bs
def lendT (Lin:List AB):List AV→List AV→Prop
 | [],bs=>bs=[]
 | a :: as,bs=>∃ b r,bs=b :: r∧lend2 Lin a b∧lendT Lin as r
theorem lend1_ok {c:Ctx} {E:Nat→Option Nat} {L:List AB} {w:World} (hs:SimH c E L w) (hc:c.wf) {R':RC} (hrd:∀ a u,w.cell? a=some u→¬c.M0 a.block a.off→R'.rd a u) (hT:∀ a u n,a.spot=some n→R'.rd a u) {a b:AV} (h:lend1 L a b) {v:Value} (hv:VR (rcOf c.M0 E L w) a v):VR R' b v:=by
 have hup:∀ a u,(rcOf c.M0 E L w).rd a u→R'.rd a u:=fun a u h=>h.elim (fun h=>hrd a u h.1 fun hm=>h.2 (.inl hm)) fun h=>h.elim fun n hn=>hT a u n hn.1
 rcases h with ⟨y,rfl,rfl⟩|⟨i,e,n,xs,sh,rfl,hi,rfl⟩|⟨i,h,e,n,xs,sh,rfl,hi,hh,rfl⟩|⟨i,e,s,cap,rfl,hi,hsc,hcm,rfl⟩|⟨y,y',rfl,rfl,hu⟩|⟨i,x,x',lo,n,ok,rfl,hi,hrr,rfl,hu⟩
 rotate_right
 ·simp only [VR] at hv ⊢
  obtain ⟨⟨ab,hab,har⟩,_⟩:=hv
  rw [hi] at hab
  cases hab
  refine hu _ _ _ (fun a u hr => ?_) hT (islRel_rd hrr har)
  obtain ⟨r1,r2,r3⟩:=hr
  rcases r3 with r3|⟨m,hm⟩
  ·refine hrd a u r3 fun hm=>hs.bx.low i _ a.block hi ?_ (hc.sub _ _ hm)
   simp only [AB.boxes,List.mem_range'_1]
   exact ⟨r1,r2⟩
  ·exact hT a u m hm
 rotate_right
 ·simp only [VR] at hv ⊢
  exact hu _ _ _ hup hT hv
 ·simp only [VR] at hv ⊢
  exact VD.mono hup _ _ hv
 ·simp only [VR] at hv ⊢
  obtain ⟨ab,hab,har⟩:=hv
  rw [hi] at hab
  cases hab
  obtain ⟨hn,hl,hbr⟩:=hs.blk i _ hi
  simp only [arRel] at har
  cases hE:E i with
  | none =>
    rw [hE] at hbr har
    simp only at hbr har
    subst hbr;subst har
    simp only [VD]
    exact ⟨hn.1,none,0,rfl,by simp,by simp [maxLen],fun _=>rfl,fun _ h=>by cases h⟩
  | some b =>
    rw [hE] at hbr har
    obtain ⟨cap,cur,rfl,hh,hsz⟩:=har
    obtain ⟨cap',cur',hh',hsz',hxc,hxm,hvx⟩:=hbr
    rw [hh] at hh';cases hh'
    have ecap:cap=cap':=Nat.eq_of_mul_eq_mul_right hn.1 (hsz.symm.trans hsz')
    subst ecap
    have hlow:=hs.low i _ b hi rfl hE
    simp only [VD]
    refine ⟨hn.1,some ⟨b,0,none⟩,cap,rfl,hxc,hxm,(fun h=>by cases h),fun a' ha => ?_⟩
    cases ha
    refine ⟨.inr rfl,fun _=>hT _ _ _ rfl,VDE_of hup n hvx hl rfl fun j u hj => ?_⟩
    refine hrd _ _ ?_ fun hm=>hlow (hc.sub b _ hm)
    rw [Nat.zero_add,cell_of_row w b j cur e (0,0) hh]
    rw [List.getElem?_take] at hj
    split at hj
    ·simpa using hj
    ·cases hj
 ·simp only [VR] at hv ⊢
  obtain ⟨p,cap,rfl,hcap,hmax,ab,hab,hap⟩:=hv
  rw [hi] at hab
  cases hab
  simp only [apRel] at hap
  obtain ⟨b,hE,hp⟩:=hap
  cases hp
  obtain ⟨hn,hl,hbr⟩:=hs.blk i _ hi
  rw [hE] at hbr
  obtain ⟨cap',cur',hh',hsz',hxc,hxm,hvx⟩:=hbr
  have hlow:=hs.low i _ b hi rfl hE
  have hlt:(xs.take h).length=h:=by rw [List.length_take];omega
  simp only [VD]
  refine ⟨hn.1,some ⟨b,0 * n+0,none⟩,cap,by rw [hlt],by rw [hlt];exact hcap,hmax,(fun h=>by cases h),fun a' ha => ?_⟩
  cases ha
  have hvt:VDs (rcOf c.M0 E L w).rd (xs.take h).flatten ((cur'.toList.take (xs.length * n)).take (h * n)):=by
   rw [flatten_takeN xs hl]
   exact Cs_take _ hvx
  refine ⟨.inr rfl,fun _=>hT _ _ _ rfl,VDE_of hup n hvt (fun cs hcs=>hl cs (List.mem_of_mem_take hcs)) rfl fun j u hj => ?_⟩
  refine hrd _ _ ?_ fun hm=>hlow (hc.sub b _ hm)
  rw [Nat.zero_mul,Nat.zero_add,Nat.zero_add,cell_of_row w b j cur' e (0,0) hh']
  rw [List.getElem?_take] at hj
  split at hj
  ·rw [List.getElem?_take] at hj
   split at hj
   ·simpa using hj
   ·cases hj
  ·cases hj
 ·simp only [VR] at hv ⊢
  obtain ⟨ab,hab,har⟩:=hv
  rw [hi] at hab
  cases hab
  obtain ⟨b,hE,hbr⟩:=hs.blk i _ hi
  simp only [arRel] at har
  obtain ⟨b',hE',rfl⟩:=har
  rw [hE] at hE'
  cases hE'
  have hlow:=hs.low i _ b hi rfl hE
  have hsl:s.data.toList.length=s.size:=by rw [Array.length_toList];rfl
  simp only [VD]
  refine ⟨by omega,some ⟨b,0,none⟩,cap,by rw [u8s_length,hsl],by rw [u8s_length,hsl];exact hsc,hcm,(fun h=>by cases h),fun a' ha => ?_⟩
  cases ha
  refine ⟨.inr rfl,fun _=>hT _ _ _ rfl,VDE_of (rd:=(rcOf c.M0 E L w).rd) hup 1 (u8s_VDs s.data.toList) (u8s_one _) rfl fun j u hj => ?_⟩
  refine hrd _ _ ?_ fun hm=>hlow (hc.sub b _ hm)
  rw [Nat.zero_add,cell_of_row w b j (bytesRow s cap) e ((bytesRow s cap).size,(bytesRow s cap).size+1) hbr]
  unfold bytesRow
  have hjl:j<s.data.size:=by
   have:=(List.getElem?_eq_some_iff.1 hj).1
   simpa using this
  rw [Array.getElem?_append_left (by simpa using hjl)]
  simpa using hj
theorem lendS_ok {c:Ctx} {E:Nat→Option Nat} {L:List AB} {w:World} (hs:SimH c E L w) (hc:c.wf) {R':RC} (hrd:∀ a u,w.cell? a=some u→¬c.M0 a.block a.off→R'.rd a u) (hT:∀ a u n,a.spot=some n→R'.rd a u):∀ {as bs:List AV},lendS L as bs→∀ {us:List Value},VRs (rcOf c.M0 E L w) as us→VRs R' bs us
 | [],bs,h,us,hv=>by
   simp only [lendS] at h
   subst h
   simpa [VRs] using hv
 | a :: as,bs,h,us,hv=>by
   simp only [lendS] at h
   obtain ⟨b,r,rfl,h1,h2⟩:=h
   simp only [VRs] at hv ⊢
   obtain ⟨u,us',rfl,o,h3,h4⟩:=hv
   exact ⟨u,us',rfl,o,lend1_ok hs hc hrd hT h1 h3,lendS_ok hs hc hrd hT h2 h4⟩
theorem lendT_ok {c:Ctx} {E:Nat→Option Nat} {L:List AB} {w:World} (hs:SimH c E L w) (hc:c.wf) {R':RC} (hrd:∀ a u,w.cell? a=some u→¬c.M0 a.block a.off→R'.rd a u) (hT:∀ a u n,a.spot=some n→R'.rd a u):∀ {as bs:List AV},lendT L as bs→∀ {us:List Value},VRt (rcOf c.M0 E L w) as us→VRt R' bs us
 | [],bs,h,us,hv=>by
   simp only [lendT] at h
   subst h
   simpa [VRt] using hv
 | a :: as,bs,h,us,hv=>by
   simp only [lendT] at h
   obtain ⟨b,r,rfl,h1,h2⟩:=h
   simp only [VRt] at hv ⊢
   obtain ⟨u,us',rfl,h3,h4⟩:=hv
   refine ⟨u,us',rfl,?_,lendT_ok hs hc hrd hT h2 h4⟩
   rcases h1 with h1|⟨xs,ys,rfl,rfl,h1⟩
   ·exact lend1_ok hs hc hrd hT h1 h3
   ·simp only [VR] at h3 ⊢
    obtain ⟨us,rfl,h5⟩:=h3
    exact ⟨us,rfl,lendS_ok hs hc hrd hT h1 h5⟩
def flatA (av:AV):Prop:=∀ (R R':RC) (v:Value),VR R av v→VR R' av v
theorem acalls_lendP {P:Program} {f:FuncId} {avs avs':List AV} {Lin:List AB} {X:AV→Prop} (hx:∀ av,X av→flatA av) (hl:lendT Lin avs avs') (h:ACalls P f avs' [] (fun av L=>X av∧L=[])):ACalls P f avs Lin (fun av L=>X av∧L=Lin):=by
 intro c vs hc hL hs hv
 let own:Nat→Prop:=fun b=>(∃ i ab,Lin[i]? = some ab∧ab.live=true∧c.E0 i=some b)∨∃ (i:Nat) (ab:AB),Lin[i]? = some ab∧b∈ab.boxes
 have hown:∀ b,own b→b<c.w0.heap.size:=by
  rintro b (⟨i,ab,h1,h2,h3⟩|⟨i,ab,h1,h2⟩)
  ·exact hs.lt h1 h2 h3
  ·exact hs.blt h1 h2
 have hc':Ctx.wf ⟨c.w0,fun b=>b<c.w0.heap.size,⟨c.M0.m,none⟩,fun _=>none,[],c.n⟩ :=
  ⟨fun b hb=>hb,fun b o hm=>hc.low b (hc.sub b o hm),fun s hs=>by cases hs⟩
 have hs':SimH ⟨c.w0,fun b=>b<c.w0.heap.size,⟨c.M0.m,none⟩,fun _=>none,[],c.n⟩ (fun _=>none) [] c.w0 :=
  ⟨rfl,rfl,rfl,Nat.le_refl _,fun _ _=>rfl,fun i ab h=>by simp at h,fun i ab b h=>by simp at h,fun i j ab ab' b h=>by simp at h,RC.le.refl _,⟨fun i ab b h=>by simp at h,fun i j ab ab' b h=>by simp at h,fun i ab h=>by simp at h,fun i j ab ab' b h=>by simp at h⟩⟩
 have hrd:∀ a u,c.w0.cell? a=some u→¬c.M0 a.block a.off→(rcOf ⟨c.M0.m,none⟩ (fun _=>none) [] c.w0).rd a u:=fun a u h1 h2 =>
  .inl ⟨h1,fun hm=>hm.elim h2 fun hm=>hm.elim (fun ⟨i,ab,h,_⟩=>by simp at h) fun ⟨i,ab,h,_⟩=>by simp at h⟩
 refine (h _ vs hc' rfl hs' (lendT_ok hs hc hrd (fun a u n hn => .inr (Tk.any hn)) hl hv)).mono ?_
 rintro e w' ⟨v,av,L',E',rfl,⟨hX,rfl⟩,h3,h4⟩
 have hblk:∀ b,own b→w'.heap[b]? = c.w0.heap[b]? := fun b hb=>h3.prot b (hown b hb)
 have hle:(rcOf c.M0 c.E0 Lin c.w0).le (rcOf c.M0 c.E0 Lin w'):=by
  refine ⟨?_,fun _ _ h=>h,?_,fun _ _ _ _ h=>h,fun i x v ⟨ab,h1,h2⟩=>⟨ab,h1,islRel_mono (fun b hb=>hblk b (.inr ⟨i,ab,h1,hb⟩)) h2⟩⟩
  ·exact rdle rfl (Likes.of_blocks h3.prot) fun a u h1 h2=>⟨(rd_cell (h3.old.rd a u (hrd a u h1 fun hm=>h2 (.inl hm))) (spot_none h1)).1,h2⟩
  ·rintro i v ⟨ab,h1,h2⟩
   refine ⟨ab,h1,?_⟩
   cases ab with
   | row e n xs sh =>
     simp only [arRel] at h2 ⊢
     cases hE:c.E0 i with
     | none=>rw [hE] at h2;exact h2
     | some b =>
       rw [hE] at h2
       obtain ⟨cap,cur,k1,k2,k3⟩:=h2
       exact ⟨cap,cur,k1,by rw [hblk b (.inl ⟨i,_,h1,rfl,hE⟩)];exact k2,k3⟩
   | cells cs=>exact h2
   | map es=>exact h2
   | pool b cs=>exact h2
   | obj o=>exact h2
   | obs o n cap=>exact h2
   | isle lo n ok=>exact h2.elim
   | dead=>exact h2
 refine ⟨v,av,Lin,c.E0,rfl,⟨hX,rfl⟩,⟨h3.os,h3.tape,h3.output,h3.size,fun b hb=>h3.prot b (hc.low b hb),?_,hs.low,hs.inj,?_,hs.bx⟩,?_⟩
 ·intro i ab hi
  exact BR.mono hle (hs.blk i ab hi) (fun b he hlv=>hblk b (.inl ⟨i,ab,hi,hlv,he⟩)) fun b hb=>hblk b (.inr ⟨i,ab,hi,hb⟩)
 ·rw [hL];exact hle
 ·exact hx av hX _ _ _ h4
theorem acalls_lend {P:Program} {f:FuncId} {avs avs':List AV} {Lin:List AB} {x:DV} (hx:flatD x) (hl:lendT Lin avs avs') (h:ACalls P f avs' [] (fun av L=>av = .d x∧L=[])):ACalls P f avs Lin (fun av L=>av = .d x∧L=Lin) :=
 acalls_lendP (X:=fun av=>av = .d x) (fun av e R R' v hv=>by
  subst e
  simp only [VR] at hv ⊢
  exact hx _ _ _ hv) hl h
end Go.Ab
set_option linter.unusedVariables false
set_option linter.unusedSimpArgs false
namespace Go.Ab
noncomputable section
open Go.RowKit
section
variable {P:Program} {tt:TypeId→Option TI} {fo:FuncId→Bool} {n:Nat}
theorem rOps_ok2 {full:List Oper} {A:List (List Nat)} {es rest rest2:List Nat} (hdst:DstP full) {L:List AB} {K:AF→PD→Prop}:∀ {rs pre:List Nat} {F:AF} {D:PD},rOps P tt fo n full rs F L D K →
  LooksP full A es pre (rs++rest)→LooksP full A es pre (rs++rest2)→(rs++rest).Nodup→(∀ j∈rs++rest,j∉pre)→(∀ r∈rs,r∉es)→(∀ p∈D,DF P tt fo full A es pre F L p) →
  ∃ F' D' pre',K F' D'∧LooksP full A es pre' rest∧LooksP full A es pre' rest2∧(∀ j∈rest,j∉pre')∧(∀ p∈D',DF P tt fo full A es pre' F' L p)∧(∀ i∈rs,∃ v o,(i,v)∈D'∧full[i]? = some o∧dstOk n o.dst=true)∧(∀ p∈D,p∈D')∧(∀ s,s∉dstsOf full rs→fget F' s=fget F s)
 | [],pre,F,D,h,hlook,hlook2,_,hdis,_,hD=>⟨F,D,pre,h,hlook,hlook2,hdis,hD,by simp,fun _ h=>h,fun _ _=>rfl⟩
 | i :: r,pre,F,D,h,hlook,hlook2,hnd,hdis,hes,hD=>by
   simp only [rOps,nthO_get] at h
   split at h
   ·rename_i o ho
    cases hdk:dstOk n o.dst with
    | false=>rw [hdk] at h;exact h.elim
    | true =>
      rw [hdk] at h
      simp only [cond_true] at h
      obtain ⟨F1,b,hF1,hgr,hrun,hskip⟩:=guardK_ok h
      have hval:∃ v,gdet P tt fo full o F1 L v∧rOps P tt fo n full r (fput F1 o.dst v) L ((i,v) :: D) K:=by
       cases b with
       | true=>obtain ⟨v,h1,h2⟩:=hrun rfl;exact ⟨v,gdet_of hgr (fun _=>h1) (by simp),h2⟩
       | false=>exact ⟨_,gdet_of hgr (by simp) (fun _=>rfl),hskip rfl⟩
      obtain ⟨v,hg,hr⟩:=hval
      rw [List.cons_append,List.nodup_cons] at hnd
      have hipre:i∉pre:=hdis i (by simp)
      have hies:i∉es:=hes i (by simp)
      have hl:=hlook.1 o ho
      have hown:∀ s∈lookS full o,o.dst≠some s:=by
       intro s hs hd
       rcases hl s hs i o ho hd with ⟨a,_⟩|⟨a,_⟩
       ·exact hipre a
       ·exact a rfl
      have hD1:∀ p∈(i,v) :: D,DF P tt fo full A es (i :: pre) (fput F1 o.dst v) L p:=by
       intro p hp
       rcases List.mem_cons.1 hp with rfl|hp
       ·refine ⟨o,ho,gdet_congr (fun s hs=>(fput_other (hown s hs) v).symm) hg,fun d hd=>fput_self hd v,by simp,hies,?_⟩
        intro s hs k ok hk hkd
        rcases hl s hs k ok hk hkd with ⟨a,b⟩|⟨_,a,b⟩
        ·exact .inl ⟨List.mem_cons_of_mem _ a,b⟩
        ·exact .inr ⟨a,b⟩
       ·exact ((hD p hp).frame hF1).put hdst ho hipre (.inl hies) v (fun x hx=>List.mem_cons_of_mem _ hx)
      obtain ⟨F',D',pre',k1,k2,k2c,k2b,k3,k4,k5,k6⟩:=rOps_ok2 hdst hr hlook.2 hlook2.2 hnd.2 (fun j hj=>by
       simp only [List.mem_cons,not_or]
       exact ⟨fun e=>hnd.1 (by rw [← e];exact hj),hdis j (List.mem_cons_of_mem _ hj)⟩) (fun x hx=>hes x (List.mem_cons_of_mem _ hx)) hD1
      refine ⟨F',D',pre',k1,k2,k2c,k2b,k3,?_,fun p hp=>k5 p (List.mem_cons_of_mem _ hp),?_⟩
      ·intro j hj
       rcases List.mem_cons.1 hj with rfl|hj
       ·exact ⟨v,o,k5 _ (by simp),ho,hdk⟩
       ·exact k4 j hj
      ·intro s hs
       have h1:s∉dstsOf full r:=fun hm=>hs (by
        obtain ⟨x,hx,y⟩:=mem_dstsOf.1 hm
        exact mem_dstsOf.2 ⟨x,List.mem_cons_of_mem _ hx,y⟩)
       have h2:o.dst≠some s:=fun hd=>hs (mem_dstsOf.2 ⟨i,by simp,o,ho,hd⟩)
       rw [k6 s h1,fput_other h2,hF1]
   ·exact h.elim
structure DInvB (P:Program) (tt:TypeId→Option TI) (fo:FuncId→Bool) (n:Nat) (c:Ctx) (full:List Oper) (A:List (List Nat)) (es:List Nat)
  (ph:List (Nat×List Nat)) (pend pre:List Nat) (F:AF) (L:List AB) (D:PD) (listed:Array Bool) (a:Act) (w:World):Prop where
 size:listed.size=full.length
 un:∀ i,listed.getD i true=false↔(i∈pend∨i∈later ph)
 down:∀ j o,full[j]? = some o→j∉pend→j∉later ph→∀ m∈dirs o,m∉pend∧m∉later ph
 sim:∃ E,Sim c E (mask (dstsOf full pend) F) L a w
 facts:∀ p∈D,DF P tt fo full A es pre F L p
 pendD:∀ i∈pend,∃ v o,(i,v)∈D∧full[i]? = some o∧dstOk n o.dst=true
 nd:(pend++later ph).Nodup
 dis:∀ j∈later ph,j∉pre
theorem DInvB.pendes {c:Ctx} {full:List Oper} {A:List (List Nat)} {es:List Nat} {ph:List (Nat×List Nat)} {pend pre:List Nat} {F:AF} {L:List AB} {D:PD} {listed:Array Bool} {a:Act} {w:World}
  (h:DInvB P tt fo n c full A es ph pend pre F L D listed a w):∀ i∈pend,i∉es:=fun i hi=>by
 obtain ⟨v,o,h1,_⟩:=h.pendD i hi
 obtain ⟨_,_,_,_,_,h5,_⟩:=h.facts _ h1
 exact h5
theorem DInvB.swap {c:Ctx} {full:List Oper} {A:List (List Nat)} {es:List Nat} {pha phb:List (Nat×List Nat)} {pend pre:List Nat} {F:AF} {L:List AB} {D:PD} {listed:Array Bool} {a:Act} {w:World}
  (h:DInvB P tt fo n c full A es pha pend pre F L D listed a w) (hp:(later pha).Perm (later phb)):DInvB P tt fo n c full A es phb pend pre F L D listed a w :=
 have hm:∀ j,j∈later phb↔j∈later pha:=fun j=>hp.symm.mem_iff
 ⟨h.size,fun i=>by rw [hm];exact h.un i,fun j o ho h1 h2 m hmm=>by rw [hm] at h2 ⊢;exact h.down j o ho h1 h2 m hmm,h.sim,h.facts,h.pendD,(List.Perm.append_left pend hp).nodup_iff.1 h.nd,fun j hj=>h.dis j ((hm j).1 hj)⟩
theorem draw_eff (ht:TTok P tt) (hz:ZOok tt) (hfo:FOok P fo) {full:List Oper} {A:List (List Nat)} {es:List Nat} (hp:PlanP full A es) {c:Ctx} (hc:c.wf) (hcn:c.n=n) {K:AF→List AB→Prop} {Q:Exit→Act→World→Prop}
  (hq:∀ E F L a w,K F L→Sim c E F L a w→Q .normal a w) {fuel i:Nat} {rs:List Nat} {rest:List (Nat×List Nat)} {pend pre:List Nat} {F:AF} {L:List AB} {D:PD} {listed:Array Bool} {a:Act} {w:World}
  (h:DInvB P tt fo n c full A es ((i,rs) :: rest) pend pre F L D listed a w) (look:LooksP full A es pre (later ((i,rs) :: rest))) (tree:eOps P tt fo n full A ((i,rs) :: rest) F L D K)
  (hrs:∀ x∈rs,i∈nthL A x∧x∉es) {q:Option Nat} (hch:ChainP A es q rest) (hpend:i∉pend) {o:Oper} (ho:full[i]? = some o) (hdirs:∀ m∈dirs o,m<full.length∧m∉pend∧m∉later ((i,rs) :: rest))
  (hanc:∀ k∈nthL A i,¬(k∈pend∨k∈later ((i,rs) :: rest))) (hf:fuel+1=pend.length+(later ((i,rs) :: rest)).length) :
  wpOp P full.toArray Q i (wpAny P .any full.toArray Q fuel (listed.setIfInBounds i true)) a w:=by
 obtain ⟨E,hs⟩:=h.sim
 have hisz:i<listed.size:=by rw [h.size];exact (List.getElem?_eq_some_iff.1 ho).1
 have hset:∀ j,(listed.setIfInBounds i true).getD j true=false↔j≠i∧(j∈pend∨j∈later ((i,rs) :: rest)):=by
  intro j
  by_cases hji:i=j
  ·subst hji
   simp [hisz]
  ·rw [getD_set_ne true hji,h.un]
   simp [Ne.symm hji]
 have htree:=tree
 simp only [eOps,nthO_get,ho] at htree
 cases hdk:dstOk n o.dst with
 | false=>rw [hdk] at htree;exact htree.elim
 | true =>
   rw [hdk] at htree
   simp only [cond_true] at htree
   obtain ⟨F1,b,hF1,hgr,hrun,hskip⟩:=guardK_ok htree
   have hdn:∀ x,o.dst=some x→x<c.n:=by rw [hcn];exact dstOk_ok hdk
   have hlook:=look
   simp only [later] at hlook
   have hl:=hlook.1 o ho
   have hipre:i∉pre:=h.dis i (by rw [mem_later_cons];exact .inl rfl)
   have hsame:∀ s∈lookS full o,fget F1 s=fget (mask (dstsOf full pend) F1) s:=by
    intro s hsl
    rw [fget_mask_out]
    intro hm
    obtain ⟨k,hk,ok,hok,hkd⟩:=mem_dstsOf.1 hm
    rcases hl s hsl k ok hok hkd with ⟨_,b⟩|⟨_,b,_⟩
    ·exact hanc k b (.inl hk)
    ·exact h.pendes k hk b
   have hs1:Sim c E (mask (dstsOf full pend) F1) L a w:=hs.weak fun s=>by
    by_cases hin:s∈dstsOf full pend
    ·right;exact fget_mask_in hin
    ·left;rw [fget_mask_out hin,fget_mask_out hin,hF1]
   have hnd:=h.nd
   simp only [later] at hnd
   rw [List.nodup_append,List.nodup_cons] at hnd
   have next:∀ av L' E' a' w',(keepD P tt fo full (nthL A i) (fput F1 o.dst av) L' D fun D=>rOps P tt fo n full rs (fput F1 o.dst av) L' D fun F D=>eOps P tt fo n full A rest F L' D K) →
     Sim c E' (fput (mask (dstsOf full pend) F1) o.dst av) L' a' w'→(∀ p∈D,p.1∉nthL A i→∀ o',full[p.1]? = some o'→lfree o'=true→True)→wpAny P .any full.toArray Q fuel (listed.setIfInBounds i true) a' w':=by
    intro av L' E' a' w' hk hs' _
    obtain ⟨D1,hr,hk1,hk2⟩:=keepD_ok hk
    have hD1:∀ p∈D1,DF P tt fo full A es (i :: pre) (fput F1 o.dst av) L' p:=by
     intro p hp'
     obtain ⟨q1,q2,op,q3,q4⟩:=hk2 p hp'
     have hdf:=(((h.facts p q1).frame hF1).put hp.dst ho hipre (.inr q2) av (pre':=i :: pre) (fun x hx=>List.mem_cons_of_mem _ hx))
     obtain ⟨op',r1,r2,r3,r4,r5,r6⟩:=hdf
     rw [q3] at r1
     cases r1
     refine ⟨op,q3,?_,r3,r4,r5,r6⟩
     rcases q4 with q4|q4
     ·exact gdet_L q4 r2 L'
     ·exact q4
    obtain ⟨F3,D3,pre3,m1,m2,m2b,m3,m4,m5,m6⟩:=rOps_ok (rest:=later rest) hp.dst hr hlook.2 hnd.2.1.2 (fun j hj=>by
     simp only [List.mem_cons,not_or]
     exact ⟨fun e=>hnd.2.1.1 (e▸hj),h.dis j (by rw [mem_later_cons];right;exact List.mem_append.1 hj)⟩) (fun x hx=>(hrs x hx).2) hD1
    refine draw_any ht hz hfo hp hc hcn hq fuel rest (rs++pend) pre3 F3 L' D3 _ a' w' ⟨by simpa using h.size,?_,?_,?_,m3,?_,m2,?_,m2b,⟨_,hch⟩,m1⟩ ?_
    ·intro j
     rw [hset,mem_later_cons,List.mem_append]
     constructor
     ·rintro ⟨h1,h2|h2|h2|h2⟩
      ·exact .inl (.inr h2)
      ·exact absurd h2 h1
      ·exact .inl (.inl h2)
      ·exact .inr h2
     ·have hne:∀ x,x∈rs++later rest→x≠i:=fun x hx e=>hnd.2.1.1 (e▸hx)
      rintro ((h1|h1)|h1)
      ·exact ⟨hne j (List.mem_append_left _ h1),.inr (.inr (.inl h1))⟩
      ·exact ⟨fun e=>hpend (e▸h1),.inl h1⟩
      ·exact ⟨hne j (List.mem_append_right _ h1),.inr (.inr (.inr h1))⟩
    ·intro j oj hoj hj1 hj2 m hm
     simp only [List.mem_append,not_or] at hj1 ⊢
     have key:m∉pend∧m∉later ((i,rs) :: rest):=by
      by_cases hji:j=i
      ·subst hji
       rw [ho] at hoj
       cases hoj
       exact (hdirs m hm).2
      ·exact h.down j oj hoj hj1.2 (by rw [mem_later_cons];simp only [not_or];exact ⟨hji,hj1.1,hj2⟩) m hm
     rw [mem_later_cons] at key
     simp only [not_or] at key
     exact ⟨⟨key.2.2.1,key.1⟩,key.2.2.2⟩
    ·refine ⟨E',hs'.weak fun s => ?_⟩
     by_cases hin:s∈dstsOf full (rs++pend)
     ·right;exact fget_mask_in hin
     ·left
      rw [fget_mask_out hin]
      have hin1:s∉dstsOf full rs:=fun hm=>hin (by
       obtain ⟨k,hk,y⟩:=mem_dstsOf.1 hm
       exact mem_dstsOf.2 ⟨k,List.mem_append_left _ hk,y⟩)
      have hin2:s∉dstsOf full pend:=fun hm=>hin (by
       obtain ⟨k,hk,y⟩:=mem_dstsOf.1 hm
       exact mem_dstsOf.2 ⟨k,List.mem_append_right _ hk,y⟩)
      rw [m6 s hin1]
      by_cases hd:o.dst=some s
      ·rw [fput_self hd,fput_self hd]
      ·rw [fput_other hd,fput_other hd,fget_mask_out hin2]
    ·intro j hj
     rcases List.mem_append.1 hj with hj|hj
     ·exact m4 j hj
     ·obtain ⟨v,oj,q1,q2,q3⟩:=h.pendD j hj
      exact ⟨v,oj,m5 _ (hk1 _ q1 (fun hh=>hanc j hh (.inl hj))),q2,q3⟩
    ·rw [List.append_assoc,List.nodup_append]
     have hnd2:=hnd.2.1.2
     rw [List.nodup_append] at hnd2
     refine ⟨hnd2.1,?_,?_⟩
     ·rw [List.nodup_append]
      exact ⟨hnd.1,hnd2.2.1,fun x hx y hy=>hnd.2.2 x hx y (List.mem_cons_of_mem _ (List.mem_append_right _ hy))⟩
     ·intro x hx y hy
      rcases List.mem_append.1 hy with hy|hy
      ·exact fun e=>hnd.2.2 y hy x (List.mem_cons_of_mem _ (List.mem_append_left _ hx)) e.symm
      ·exact hnd2.2.2 x hx y hy
    ·simp only [later,List.length_cons,List.length_append] at hf ⊢
     omega
   refine gstep ho hdn hs1 (GR_congr hsame hgr) (fun hb=>aopK_ok ht hz hfo hc (aopK_look hsame (hrun hb)) hs1) (fun hb => ?_) ?_
   ·exact next (.tup []) L E _ w (hskip hb) (hs1.put o.dst (.tup []) undef hdn (by simp [VR,VRt,undef])) (fun _ _ _ _ _ _=>trivial)
   ·intro av L' E' a' w' hk hs'
    exact next av L' E' a' w' hk hs' (fun _ _ _ _ _ _=>trivial)
theorem draw_two (ht:TTok P tt) (hz:ZOok tt) (hfo:FOok P fo) {full:List Oper} {A:List (List Nat)} {es:List Nat} (hp:PlanP full A es) {c:Ctx} (hc:c.wf) (hcn:c.n=n) {K:AF→List AB→Prop} {Q:Exit→Act→World→Prop}
  (hq:∀ E F L a w,K F L→Sim c E F L a w→Q .normal a w) {pha phb:List (Nat×List Nat)} {e1 e2:Nat} {r1 r2 s1 s2:List Nat} {ra rb:List (Nat×List Nat)} (ha:pha=(e1,r1) :: (e2,r2) :: ra) (hb:phb=(e2,s2) :: (e1,s1) :: rb) (hperm:(later pha).Perm (later phb))
  (hr1:∀ x∈r1,e1∈nthL A x∧x∉es) (hs2:∀ x∈s2,e2∈nthL A x∧x∉es) (hca:ChainP A es none ((e2,r2) :: ra)) (hcb:ChainP A es none ((e1,s1) :: rb)) :
  ∀ (fuel:Nat) (pend pre:List Nat) (F:AF) (L:List AB) (D:PD) (listed:Array Bool) (a:Act) (w:World),
  DInvB P tt fo n c full A es pha pend pre F L D listed a w→LooksP full A es pre (later pha)→LooksP full A es pre (later phb)→eOps P tt fo n full A pha F L D K→eOps P tt fo n full A phb F L D K →
  fuel=pend.length+(later pha).length→wpAny P .any full.toArray Q fuel listed a w:=by
 intro fuel
 induction fuel with
 | zero =>
   intro pend pre F L D listed a w h looka lookb treea treeb hf
   rw [ha] at hf
   simp [later] at hf
 | succ fuel ih =>
   intro pend pre F L D listed a w h looka lookb treea treeb hf
   -- what is not done
   have hlt:∀ j,(j∈pend∨j∈later pha)→∃ o,full[j]? = some o:=by
    intro j hj
    have h1:=(h.un j).2 hj
    rcases Nat.lt_or_ge j listed.size with h2|h2
    ·rw [h.size] at h2;exact ⟨full[j],by simp [h2]⟩
    ·simp [Nat.not_lt.2 h2] at h1
   have hedge:∀ (o:Oper),(∀ e∈o.after,Region.binds .any e=true→listed.getD e.on false=true)↔(∀ m∈dirs o,m<full.length∧m∉pend∧m∉later pha):=by
    intro o
    have one:∀ m,listed.getD m false=true↔(m<full.length∧m∉pend∧m∉later pha):=by
     intro m
     have hu:=h.un m
     rw [← h.size]
     rcases Nat.lt_or_ge m listed.size with h2|h2
     ·simp only [Array.getD_eq_getD_getElem?,Array.getElem?_eq_getElem h2,Option.getD_some] at hu ⊢
      cases hb:listed[m] with
      | true=>rw [hb] at hu;simp at hu;simp [h2,hu]
      | false=>rw [hb] at hu;simp at hu;simp;intro _ hn;exact hu.resolve_left hn
     ·simp [Array.getD_eq_getD_getElem?,Array.getElem?_eq_none h2,Nat.not_lt.2 h2]
    constructor
    ·intro h1 m hm
     obtain ⟨e,he,hb,rfl⟩:=dirs_mem.1 hm
     exact (one _).1 (h1 e he hb)
    ·intro h1 e he hb
     exact (one _).2 (h1 _ (dirs_mem.2 ⟨e,he,hb,rfl⟩))
   have hready:∀ j,j∈Region.ready .any full.toArray listed↔(j∈pend∨j∈later pha)∧∃ o,full[j]? = some o∧∀ m∈dirs o,m<full.length∧m∉pend∧m∉later pha:=by
    intro j
    rw [mem_ready,h.un]
    constructor
    ·rintro ⟨h1,o,h2,h3⟩
     exact ⟨h1,o,by simpa using h2,(hedge o).1 h3⟩
    ·rintro ⟨h1,o,h2,h3⟩
     exact ⟨h1,o,by simpa using h2,(hedge o).2 h3⟩
   refine ⟨?_,?_⟩
   · -- something may go
     intro h0
     exfalso
     have none:∀ j,¬(j∈pend∨j∈later pha):=by
      intro j
      induction j using Nat.strongRecOn with
      | _ j ihj =>
        intro hj
        obtain ⟨o,ho⟩:=hlt j hj
        have:j∈Region.ready .any full.toArray listed:=(hready j).2 ⟨hj,o,ho,fun m hm=>by
         have hmj:=hp.low j o ho m hm
         have hjl:j<full.length:=(List.getElem?_eq_some_iff.1 ho).1
         have:=ihj m hmj
         simp only [not_or] at this
         exact ⟨by omega,this⟩⟩
        rw [h0] at this
        cases this
     have:pend++later pha=[]:=List.eq_nil_iff_forall_not_mem.2 fun j hj=>none j (List.mem_append.1 hj)
     have:=congrArg List.length this
     rw [List.length_append,List.length_nil] at this
     omega
   ·intro i hi
    obtain ⟨hun,o,ho,hdirs⟩:=(hready i).1 hi
    have hdown:∀ (j:Nat) o,full[j]? = some o→¬(j∈pend∨j∈later pha)→∀ m∈dirs o,¬(m∈pend∨m∈later pha):=by
     intro j o ho hj m hm
     simp only [not_or] at hj ⊢
     exact h.down j o ho hj.1 hj.2 m hm
    have hanc:=anc_listed hp hdown i o ho (fun m hm=>by have:=hdirs m hm;simp only [not_or];exact this.2)
    obtain ⟨E,hs⟩:=h.sim
    have hisz:i<listed.size:=by rw [h.size];exact (List.getElem?_eq_some_iff.1 ho).1
    have hset:∀ j,(listed.setIfInBounds i true).getD j true=false↔j≠i∧(j∈pend∨j∈later pha):=by
     intro j
     by_cases hji:i=j
     ·subst hji
      simp [hisz]
     ·rw [getD_set_ne true hji,h.un]
      simp [Ne.symm hji]
    by_cases hpend:i∈pend
    · -- one that was reckoned
      obtain ⟨v,o',hvD,ho',hdk⟩:=h.pendD i hpend
      rw [ho] at ho'
      cases ho'
      obtain ⟨o',ho',hg,hdv,hpre,hnes,hlk⟩:=h.facts _ hvD
      simp only at ho' hg hdv hpre hnes hlk
      rw [ho] at ho'
      cases ho'
      have hsame:∀ s∈lookS full o,fget F s=fget (mask (dstsOf full pend) F) s:=by
       intro s hsl
       rw [fget_mask_out]
       intro hm
       obtain ⟨k,hk,ok,hok,hkd⟩:=mem_dstsOf.1 hm
       rcases hlk s hsl k ok hok hkd with ⟨_,b⟩|⟨b,_⟩
       ·exact hanc k b (.inl hk)
       ·exact h.pendes k hk b
      obtain ⟨b,g1,g2,g3⟩:=gdet_out (gdet_congr hsame hg)
      have hdn:∀ x,o.dst=some x→x<c.n:=by rw [hcn];exact dstOk_ok hdk
      have next:∀ E' a' w',Sim c E' (fput (mask (dstsOf full pend) F) o.dst v) L a' w'→wpAny P .any full.toArray Q fuel (listed.setIfInBounds i true) a' w':=by
       intro E' a' w' hs'
       have hnd:=h.nd
       rw [List.nodup_append] at hnd
       have hmem:∀ j,j∈pend.erase i↔j≠i∧j∈pend:=fun j=>hnd.1.mem_erase_iff
       have hil:i∉later pha:=fun hl=>hnd.2.2 i hpend i hl rfl
       refine ih (pend.erase i) pre F L D _ a' w' ⟨by simpa using h.size,?_,?_,?_,h.facts,fun j hj=>h.pendD j ((hmem j).1 hj).2,?_,h.dis⟩ looka lookb treea treeb ?_
       ·intro j
        rw [hset,hmem]
        constructor
        ·rintro ⟨h1,h2|h2⟩
         ·exact .inl ⟨h1,h2⟩
         ·exact .inr h2
        ·rintro (⟨h1,h2⟩|h2)
         ·exact ⟨h1,.inl h2⟩
         ·exact ⟨fun e=>hil (e▸h2),.inr h2⟩
       ·intro j oj hoj hj1 hj2 m hm
        rw [hmem] at hj1 ⊢
        by_cases hji:j=i
        ·subst hji
         rw [ho] at hoj
         cases hoj
         have:=hdirs m hm
         exact ⟨fun hh=>this.2.1 hh.2,this.2.2⟩
        ·have:=h.down j oj hoj (fun hh=>hj1 ⟨hji,hh⟩) hj2 m hm
         exact ⟨fun hh=>this.1 hh.2,this.2⟩
       ·refine ⟨E',hs'.weak fun s => ?_⟩
        by_cases hin:s∈dstsOf full (pend.erase i)
        ·right;exact fget_mask_in hin
        ·left
         rw [fget_mask_out hin]
         by_cases hd:o.dst=some s
         ·rw [fput_self hd];exact hdv s hd
         ·rw [fput_other hd,fget_mask_out]
          intro hm
          obtain ⟨k,hk,ok,hok,hkd⟩:=mem_dstsOf.1 hm
          by_cases hki:k=i
          ·subst hki;rw [ho] at hok;cases hok;exact hd hkd
          ·exact hin (mem_dstsOf.2 ⟨k,(hmem k).2 ⟨hki,hk⟩,ok,hok,hkd⟩)
       ·rw [List.nodup_append]
        exact ⟨hnd.1.erase i,hnd.2.1,fun x hx y hy=>hnd.2.2 x ((hmem x).1 hx).2 y hy⟩
       ·rw [List.length_erase_of_mem hpend]
        have:=List.length_pos_of_mem hpend
        omega
      refine gstep (Kop:=fun v' L'=>v'=v∧L'=L) ho hdn hs g1 (fun hb=>dopK_ok ht hz hfo hc (g2 hb _ ⟨rfl,rfl⟩) hs) (fun hb => ?_) ?_
      ·have hv:=g3 hb
       subst hv
       exact next E _ w (hs.put o.dst (.tup []) undef hdn (by simp [VR,VRt,undef]))
      ·rintro av L' E' a' w' ⟨rfl,rfl⟩ hs'
       exact next E' a' w' hs'
    · -- one of the two effects
      have hil:i∈later pha:=hun.resolve_left hpend
      have hsw:=h.swap hperm
      have hmm:∀ j,j∈later phb↔j∈later pha:=fun j=>hperm.symm.mem_iff
      by_cases h1:i=e1
      ·subst h1
       subst ha
       exact draw_eff ht hz hfo hp hc hcn hq h looka treea hr1 hca hpend ho hdirs hanc hf
      ·have h2:i=e2:=by
        rw [ha,mem_later_cons] at hil
        rcases hil with e|hr|hl
        ·exact absurd e h1
        ·exact absurd (.inr (by rw [ha,mem_later_cons];exact .inl rfl)) (hanc e1 (hr1 i hr).1)
        ·rcases later_anc hca i hl with ⟨e,rs,rest,hph,rfl⟩|⟨m,hm1,hm2⟩
         ·cases hph;rfl
         ·exact absurd (.inr (by rw [ha,mem_later_cons];exact .inr (.inr hm1))) (hanc m hm2)
       subst h2
       subst hb
       exact draw_eff ht hz hfo hp hc hcn hq hsw lookb treeb hs2 hcb hpend ho (fun m hm=>by rw [hmm];exact hdirs m hm) (fun k hk=>by rw [hmm];exact hanc k hk) (by rw [← hperm.length_eq];exact hf)
def twoB (full:List Oper) (pla plb:Plan):Bool :=
 let es:=pla.ph.map (·.1)
 let pi:=pla.r0++later pla.ph
 nodupB pi&&(Nat.beq pi.length full.length&&pi.all (fun i=>Nat.blt i full.length))&&allI (fun i _=>memB i pi) 0 full &&
 looksB full pla.anc es [] pi&&looksB full pla.anc es [] (pla.r0++later plb.ph)&&ancB full pla.anc&&pla.r0.all (fun x => !memB x es)&&dstsB full &&
 allI (fun j o=>(dirs o).all fun i=>Nat.blt i j) 0 full &&
 (match pla.ph,plb.ph with
   | (e1,r1) :: ta,(e2,s2) :: tb=>(match ta,tb with
     | (e2',_) :: _,(e1',_) :: _=>Nat.beq e2' e2&&Nat.beq e1' e1&&r1.all (fun x=>memB e1 (nthL pla.anc x) && !memB x es)&&s2.all (fun x=>memB e2 (nthL pla.anc x) && !memB x es)&&chainB pla.anc es none ta&&chainB pla.anc es none tb
     | _,_=>false)
   | _,_=>false) &&
 (later pla.ph).isPerm (later plb.ph)
theorem adraw_two (ht:TTok P tt) (hz:ZOok tt) (hfo:FOok P fo) (hm:P.follows .mixedOrders=true) {id k0:Nat} {ops:Array Oper} (pla plb:Plan) (hpl:twoB ops.toList pla plb=true) {K:AF→List AB→Prop} {F:AF} {L:List AB}
  (h:rOps P tt fo n ops.toList pla.r0 F L [] fun F D=>eOps P tt fo n ops.toList pla.anc pla.ph F L D K∧eOps P tt fo n ops.toList pla.anc plb.ph F L D K):ADraw P n k0 id ops K F L:=by
 intro c E a w hc hcn hk hs
 unfold twoB at hpl
 simp only [Bool.and_eq_true,List.all_eq_true,Bool.not_eq_true'] at hpl
 obtain ⟨⟨⟨⟨⟨⟨⟨⟨⟨⟨p1,p2⟩,p3⟩,p4⟩,p4b⟩,p5⟩,p7⟩,p8⟩,p9⟩,p10⟩,p11⟩:=hpl
 have hnd:=nodupB_ok p1
 have hlen:=Nat.eq_of_beq_eq_true p2.1
 have hall:∀ i,i<ops.toList.length→i∈pla.r0++later pla.ph:=fun i hi=>by
  have:=allI_ok p3 i ops.toList[i] (by rw [List.getElem?_eq_getElem hi])
  rw [Nat.zero_add] at this
  exact memB_true this
 have hpp:PlanP ops.toList pla.anc (pla.ph.map (·.1)):=⟨dstsB_ok p8,ancB_ok p5,fun j o ho m hm=>by
  have:=allI_ok p9 j o ho
  simp only [List.all_eq_true,Nat.zero_add] at this
  exact Nat.lt_of_lt_of_le (Nat.lt_succ_self _) (Nat.le_of_ble_eq_true (this m hm))⟩
 have hrange:∀ i∈pla.r0++later pla.ph,i<ops.toList.length:=by
  intro i hi
  exact Nat.lt_of_lt_of_le (Nat.lt_succ_self _) (Nat.le_of_ble_eq_true (p2.2 i hi))
 have hperm:(later pla.ph).Perm (later plb.ph):=List.isPerm_iff.1 p11
 have hs0:Sim c E F L a { w with drawn:=w.drawn+1 }:=hs.keeps hc (Keeps.drew w)
 obtain ⟨F',D',pre',k1,k2,k2c,k2b,k3,k4,k5,k6⟩:=rOps_ok2 (A:=pla.anc) (es:=pla.ph.map (·.1)) (rest:=later pla.ph) (rest2:=later plb.ph) hpp.dst h (looksB_ok p4) (looksB_ok p4b) hnd (by simp) (fun r hr=>memB_ok (p7 r hr)) (by simp)
 split at p10
 rotate_left
 ·cases p10
 rename_i e1 r1 ta e2 s2 tb hpa hpb
 split at p10
 rotate_left
 ·cases p10
 rename_i e2' r2 ra e1' s1 rb
 simp only [Bool.and_eq_true,List.all_eq_true,Bool.not_eq_true'] at p10
 obtain ⟨⟨⟨⟨⟨q1,q2⟩,q3⟩,q4⟩,q5⟩,q6⟩:=p10
 have t1:=Nat.eq_of_beq_eq_true q1
 have t2:=Nat.eq_of_beq_eq_true q2
 subst t1;subst t2
 refine wp_region_any hm ?_
 have e:ops=ops.toList.toArray:=by simp
 rw [e]
 refine draw_two ht hz hfo hpp hc hcn (K:=K) ?_ hpa hpb hperm (fun x hx=>⟨memB_true (q3 x hx).1,memB_ok (q3 x hx).2⟩) (fun x hx=>⟨memB_true (q4 x hx).1,memB_ok (q4 x hx).2⟩) (chainB_ok q5) (chainB_ok q6) _ pla.r0 pre' F' L D' _ a _ ⟨by simp,?_,?_,?_,k3,k4,hnd,k2b⟩ k2 k2c k1.1 k1.2 ?_
 ·intro E F L a w hK hs
  exact ⟨E,F,L,hs,rfl,hK⟩
 ·intro i
  rw [← List.mem_append]
  constructor
  ·intro hi
   by_cases hlt:i<ops.toList.length
   ·exact hall i hlt
   ·simp at hlt
    simp [Nat.not_lt.2 hlt] at hi
  ·intro hi
   have:=hrange i hi
   simp at this
   simp [this]
 ·intro j o ho hj1 hj2
  exact absurd (hall j (List.getElem?_eq_some_iff.1 ho).1) (by simp [hj1,hj2])
 ·refine ⟨E,hs0.weak fun s => ?_⟩
  by_cases hin:s∈dstsOf ops.toList pla.r0
  ·right;exact fget_mask_in hin
  ·left;rw [fget_mask_out hin,k6 s hin]
 ·have:ops.toList.toArray.size=(pla.r0++later pla.ph).length:=by rw [hlen];simp
  rw [this]
  simp
theorem draw_pl2 (ht:TTok P tt) (hz:ZOok tt) (hfo:FOok P fo) (hm:P.follows .mixedOrders=true) {id k0:Nat} {ops:Array Oper} (pla plb:Plan) (hpl:twoB ops.toList pla plb=true) {K:AF→List AB→Prop} {F:AF} {L:List AB}
  (h:rOpsR P tt fo n ops.toList pla.r0 F L [] fun F D=>eOpsR P tt fo n ops.toList pla.anc pla.ph F L D K∧eOpsR P tt fo n ops.toList pla.anc plb.ph F L D K):ADraw P n k0 id ops K F L:=by
 simp only [rOpsR_eq,eOpsR_eq] at h
 exact adraw_two ht hz hfo hm _ _ hpl h
end
end
end Go.Ab
set_option linter.unusedVariables false
set_option linter.unusedSimpArgs false
namespace Go.Ab
noncomputable section
open Go.RowKit
end
end Go.Ab
