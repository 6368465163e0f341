/- PrimaryExact: abstract runs. -/
import Derived.Test.YtolkmjfkkkiboaaGreatPrimaryExactLycl
set_option linter.all false
namespace Go.Ab
open Go.RowKit
theorem aI.abZ {c:Ctx} (hc:c.wf) {E:Nat->Option Nat} {L:List AB} {lo n:Nat} {ok:zp} {w w':World} (h:aI c E L w) {i:Nat} (hi:L[i]? = some (.aN lo n ok)) (hs:aY lo n w w') :
  aI c E (L.set i (.aN lo n false)) w'/\(aj c.M0 E L w).le (aj c.M0 E (L.set i (.aN lo n false)) w'):=by
 have mG:∀ b,(lo<=b/\b<lo+n)↔b∈(AB.aN lo n ok).boxes:=λb=>by simp only [AB.boxes,Pv]
 have aiM:(AB.aN lo n false).boxes=(AB.aN lo n ok).boxes:=rfl;have look:∀ (j:Nat) (ab:AB),(L.set i (.aN lo n false))[j]? = some ab->(j=i/\ab = .aN lo n false)∨(j≠i/\L[j]? = some ab):=by
  intro j ab hj;by_cases cA:j=i
  ·subst cA;rw [aD hi] at hj
   cases hj
   exact .inl ⟨rfl,rfl⟩
  ·rw [al cA] at hj;exact .inr ⟨cA,hj⟩
 have back:∀ (j:Nat) (ab:AB),L[j]? = some ab->j≠i->(L.set i (.aN lo n false))[j]? = some ab:=λj ab hj cA=>by rw [al cA];exact hj
 have same:∀ b,b<w.heap.size->¬(lo<=b/\b<lo+n)->w'.heap[b]? = w.heap[b]? := hs.block;have afA:∀ (j:Nat) (ab:AB) (b:Nat),L[j]? = some ab->ab.live=true->E j=some b->w'.heap[b]? = w.heap[b]? := λj ab b hj hl he =>
  same b (h.lt hj hl he) λhb=>h.bx.own i j _ ab b hi ((mG b).1 hb) hj hl he
 have afB:∀ (j:Nat) (ab:AB) (b:Nat),L[j]? = some ab->j≠i->b∈ab.boxes->w'.heap[b]? = w.heap[b]? := λj ab b hj cA hb =>
  same b (h.blt hj hb) λhbi=>cA (h.bx.dj j i ab _ b hj hi hb ((mG b).1 hbi))
 have Hs:∀ b o,G_ c.M0 E (L.set i (.aN lo n false)) b o->G_ c.M0 E L b o:=by
  rintro b o (hm|⟨j,ab,hj,he,hm⟩|⟨j,ab,hj,hm⟩)
  ·exact .inl hm
  ·rcases look j ab hj with ⟨rfl,rfl⟩|⟨_,hj⟩
   ·exact hm.elim
   ·exact .inr (.inl ⟨j,ab,hj,he,hm⟩)
  ·rcases look j ab hj with ⟨rfl,rfl⟩|⟨_,hj⟩
   ·exact .inr (.inr ⟨_,_,hi,by rw [<-aiM];exact hm⟩)
   ·exact .inr (.inr ⟨j,ab,hj,hm⟩)
 have hle:(aj c.M0 E L w).le (aj c.M0 E (L.set i (.aN lo n false)) w'):=by
  refine ⟨?_,?_,?_,?_,?_⟩
  ·refine ug rfl hs.CQ λa u h1 h2=>?_;have hn:¬(lo<=a.block/\a.block<lo+n):=λhb=>h2 (.inr (.inr ⟨i,_,hi,(mG _).1 hb⟩));exact ⟨by rw [World.cell?_of_block (w:=w) (same a.block (jE h1) hn)];exact h1,λhm=>h2 (Hs _ _ hm)⟩
  ·rintro j b ⟨ab,h1,h2,h3⟩;have cA:j≠i:=by rintro rfl;rw [hi] at h1;cases h1;simp [AB.gB] at h2
   exact ⟨ab,back j ab h1 cA,h2,h3⟩
  ·rintro j v ⟨ab,h1,h2⟩;have cA:j≠i:=by rintro rfl;rw [hi] at h1;cases h1;exact h2.elim
   refine ⟨ab,back j ab h1 cA,?_⟩
   cases ab with
   | row e m xs sh =>
     simp only [bj] at h2 ⊢
     cases hE:E j with
     | none=>rw [hE] at h2;exact h2
     | some b =>
       rw [hE] at h2;obtain ⟨cap,cur,k1,k2,k3⟩:=h2;exact ⟨cap,cur,k1,by rw [afA j _ b h1 rfl hE];exact k2,k3⟩
   | _=>exact h2
  ·rintro j k o v ⟨ab,h1,h2⟩;have cA:j≠i:=by rintro rfl;rw [hi] at h1;cases h1;exact h2.elim
   exact ⟨ab,back j ab h1 cA,h2⟩
  ·rintro j x v ⟨ab,h1,h2⟩;by_cases cA:j=i
   ·subst cA;rw [hi] at h1;cases h1
    refine ⟨.aN lo n false,aD hi,λm hf=>?_⟩;exact hs.sl _ _ _ (vY hf h2)
   ·refine ⟨ab,back j ab h1 cA,?_⟩
    cases ab with
    | aN lo' n' ok'=>exact fV (λb hb=>afB j _ b h1 cA hb) h2
    | _=>exact h2.elim
 refine ⟨⟨hs.os.trans h.os,hs.tape.trans h.tape,hs.output.trans h.output,fS h.size hs.size,?_,?_,?_,?_,h.q_.trans hle,?_⟩,hle⟩
 ·intro b hp;have hn:¬(lo<=b/\b<lo+n):=λhb=>h.bx.low i _ b hi ((mG _).1 hb) hp;rw [same b (kO (hc.low b hp) h.size) hn];exact h.gS b hp
 ·intro j ab hj;rcases look j ab hj with ⟨rfl,rfl⟩|⟨cA,j6⟩
  ·intro b h1 h2;have:=h.blt hi ((mG b).1 ⟨h1,h2⟩);exact ⟨_,ZE (kO this hs.size)⟩
  ·exact BR.mono hle (h.fQ j ab j6) (λb he hl=>afA j ab b j6 hl he) λb hb=>afB j ab b j6 cA hb
 ·intro j ab b hj hl he;rcases look j ab hj with ⟨rfl,rfl⟩|⟨_,j6⟩
  ·cases hl
  ·exact h.low j ab b j6 hl he
 ·intro j k ab bQ b hj hk hl Hb he W0;rcases look j ab hj with ⟨rfl,rfl⟩|⟨_,j6⟩
  ·cases hl
  ·rcases look k bQ hk with ⟨rfl,rfl⟩|⟨_,Fj⟩
   ·cases Hb
   ·exact h.inj j k ab bQ b j6 Fj hl Hb he W0
 ·have lW:∀ (j:Nat) (ab:AB),(L.set i (.aN lo n false))[j]? = some ab->∃ cU,L[j]? = some cU/\ab.boxes=cU.boxes/\ab.live=cU.live:=by
   intro j ab hj;rcases look j ab hj with ⟨rfl,rfl⟩|⟨_,j6⟩
   ·exact ⟨_,hi,rfl,rfl⟩
   ·exact ⟨ab,j6,rfl,rfl⟩
  refine ⟨?_,?_,?_,?_⟩
  ·intro j ab b hj hb;obtain ⟨a0,k1,k2,_⟩:=lW j ab hj;exact h.bx.low j a0 b k1 (k2▸hb)
  ·intro j k ab bQ b hj hb hk hl he;obtain ⟨a0,k1,k2,_⟩:=lW j ab hj;obtain ⟨a1,l1,_,l3⟩:=lW k bQ hk;exact h.bx.own j k a0 a1 b k1 (k2▸hb) l1 (l3▸hl) he
  ·intro j ab hj;obtain ⟨a0,k1,k2,_⟩:=lW j ab hj;rw [k2];exact h.bx.nd j a0 k1
  ·intro j k ab bQ b hj hk hb kg;obtain ⟨a0,k1,k2,_⟩:=lW j ab hj;obtain ⟨a1,l1,l2,_⟩:=lW k bQ hk;exact h.bx.dj j k a0 a1 b k1 l1 (k2▸hb) (l2▸kg)
section
variable {P:Program} {tt:TypeId->Option TI} {fo:FuncId->Bool} {n k0:Nat}
theorem Gb (ht:cp P tt) (hz:jL tt) (eZ:jx P fo) {id:Nat} {ops:Array Oper} {o0 o1 o2:Oper} (abY:ops.toList=[o0,o1,o2])
  {i lo m e:Nat} {ok:zp} {sz:Nat} {t:TypeId} {F:AF} {L:List AB} {d0 d1 d2:Nat} {f:FuncId} {ts:Array TypeId} {mav:List AV} (hL:L[i]? = some (.aN lo m ok))
  (g0:o0.guard=none) (g1:o1.guard=none) (g2:o2.guard=none) (q0:o0.dst=some d0) (hd0:d0<n) (q1:o1.dst=some d1) (hd1:d1<n) (q2:o2.dst=some d2) (Oi:d2<n)
  (h0:mP P tt fo o0 F L λv L'=>v = .agg mav/\L'=L)
  (p1:o1.op = .buildSlice t 1 #[(0,.tmp d0)]) (p2:o2.op = .call { callee := .value (.func f),args := #[.tmp d1],argTypes:=ts }) (aiN:fo f=true)
  {ti:TI} (IV:tt t=some ti) {ei:TI} (he:ti.desc = .slice e) (iw:tt e=some ei) (da:ei.size=sz) (ui:0<sz) (xu:sz<=16777216) (hcb:iZ sz (qK ei.zero)=true)
  (afC:Dz (zQ sz) (pO (cellsOf (qK ei.zero)) (1 * sz)) [(0,.agg mav)] λcs=>cs=mav)
  (gK:∀ (c:Ctx) (E:Nat->Option Nat) (w:World) (cur:Array Value),(∀ b,lo<=b->b<lo+m->b<w.heap.size)->eK (aj c.M0 E L w) mav cur.toList ->
    Calls P f #[.slice (some ⟨w.heap.size,0,none⟩) 1 1] (w.alloc (.cells cur e)) λe w'=>e = .returned (.tuple #[])/\aY lo m w w')
  {Q:Exit->AF->List AB->Prop} (hQ:Q .normal (cu (cu (cu F (some d0) (.d .any)) (some d1) (.d .any)) (some d2) (.d .any)) (L.set i (.aN lo m false))) :
  AW P n k0 (.region id ops false) Q F L:=by
 intro c E a w hc dS _ hs;subst dS;refine wp_region_list ?_;rw [abY];refine uE ht hz eZ hc g0 (λx hx=>by rw [q0] at hx;cases hx;exact hd0) h0 hs ?_;rintro _ L1 E1 a1 w1 ⟨rfl,hL1⟩ dR;rw [hL1,q0] at dR;obtain ⟨jw,_⟩:=ht t ti IV;obtain ⟨_,info,j1,j2,j3,j4⟩:=ht e ei iw;rw [he] at jw;have v0:=dR.dL d0;have fR:∀ {b:Nat},lo<=b->b<lo+m->b<w1.heap.size:=λ{b} g1 g2=>dR.h.blt hL (by simp only [AB.boxes,Pv];exact ⟨g1,g2⟩);obtain ⟨u,hu⟩:∃ u,a1.tmps.getD d0 undef=u:=⟨_,rfl⟩;have hfg:bt (cu F (some d0) (.agg mav)) d0 = .agg mav:=by
  show bt ((d0,AV.agg mav) :: F) d0=_;rw [b_,Sc];rfl
 rw [hfg,hu] at v0;obtain ⟨sB,SF⟩:=ko hcb;have WG:=fg SF (lY (aj c.M0 E1 L w1) ei.zero);have vr:=uo WG (by rw [sB];exact ui) (1 * sz);have hzs:ei.zero.cells.size=sz:=by have:=cH WG;simp only [lU] at this;rw [this,sB]
 obtain ⟨cs',cur',m1,m2,m3,m4⟩:=oF (pl:=λi=>some (i * sz,sz)) (λi K hK=>⟨_,rfl,hK⟩) (vals:=[(0,u)]) afC rfl (λj i x hx=>by
  cases j with
  | zero=>simp at hx;obtain ⟨rfl,rfl⟩:=hx;exact ⟨u,rfl,v0⟩
  | succ j=>simp at hx) vr
 subst m2;have gi:(Instr.buildSlice t 1 #[(0,u)]).run P w1 = .ok (.slice (some ⟨w1.heap.size,0,none⟩) 1 1) (w1.alloc (.cells cur' e)):=by
  have yB:¬(16777216<1 * sz):=oM;have h0:¬(1 * sz=0):=oM;rw [Nu] at yB h0 m1;simp [Instr.buildSlice,run_underlying jw,run_sizeOf j1,j3,da,h0,yB,zeroValue,typeInfo,j1,j2,m1,newRow]
 refine wpList_plain g1 λK1 hK1=>?_;unfold Oper.wp;have aiO:a1.eval (.tmp d0)=u:=hu;rw [show (execOp a1.eval o1).run P w1 = .ok (.value (.slice (some ⟨w1.heap.size,0,none⟩) 1 1)) (w1.alloc (.cells cur' e)) by simp [execOp,p1,aiO,gi]];refine hK1 _ _ ?_;refine wpList_plain g2 λK2 hK2=>?_;unfold Oper.wp;obtain ⟨a2,ha2⟩:∃ a2,a1.put o1.dst (.slice (some ⟨w1.heap.size,0,none⟩) 1 1)=a2:=⟨_,rfl⟩;rw [ha2];have PN:a2.eval (.tmp d1) = .slice (some ⟨w1.heap.size,0,none⟩) 1 1:=by
  rw [<-ha2,q1];show Array.getD (a1.tmps.setIfInBounds d1 _) d1 undef=_;have:d1<a1.tmps.size:=by rw [dR.nt];exact hd1
  simp [Array.getD,this]
 have hrc:=yL eZ a2 o2 _ (.func f) p2 rfl (g:=f) aiN (us := #[]) rfl (w1.alloc (.cells cur' e));rw [hrc];have hae:(#[Operand.tmp d1].map a2.eval ++ #[]:Array Value) = #[.slice (some ⟨w1.heap.size,0,none⟩) 1 1]:=by simp [PN]
 simp only [hae];have vE:=gK c E1 w1 cur' (λb g1 g2=>fR g1 g2) m3;refine vE.mono ?_;rintro e2 w2 ⟨rfl,aiQ⟩;obtain ⟨r1,r2⟩:=dR.h.abZ hc hL aiQ;refine hK2 _ _ ?_;have e_:eE c E1 (cu (cu F (some d0) (.d .any)) (some d1) (.d .any)) L a2 w1:=by
  rw [<-ha2,q1];refine eE.put ?_ (some d1) (.d .any) _ (λx hx=>by cases hx;exact hd1) (by simp [VR,VD]);refine dR.vg λs=>?_;show bt ((d0,AV.d .any) :: F) s=bt ((d0,AV.agg cs') :: F) s∨bt ((d0,AV.d .any) :: F) s = .d .any;rw [b_,b_]
  cases Nat.beq d0 s with
  | true=>exact .inr rfl
  | false=>exact .inl rfl
 have Ga:eE c E1 (cu (cu F (some d0) (.d .any)) (some d1) (.d .any)) (L.set i (.aN lo m false)) a2 w2:=⟨r1,λs=>VR.mono r2 _ _ (e_.dL s),e_.nt,e_.df⟩;rw [q2];exact ⟨E1,_,_,Ga.put (some d2) (.d .any) _ (λx hx=>by cases hx;exact Oi) (by simp [VR,VD]),hQ⟩
theorem sM {x:Operand} {a b:Code} {Q:Exit->AF->List AB->Prop} {F:AF} {L:List AB} (h:A5 F x (λF=>AW P n k0 a Q F L) (λF=>AW P n k0 b Q F L)):AW P n k0 (.cond x a b) Q F L:=by
 intro c E ac w hc dS hk hs;obtain ⟨t,F',h1,h2,h3⟩:=A6 h hs;refine wp_cond h1 ?_
 cases t with
 | true=>exact h3 c E ac w hc dS hk h2
 | false=>exact h3 c E ac w hc dS hk h2
theorem v_ {id:Nat} {x:Code} {Q:Exit->AF->List AB->Prop} {F:AF} {L:List AB} (h:AW P n k0 x (λe F L=>match e with
   | .normal=>Q .normal F L
   | .exit Hd=>bif Nat.beq Hd id then Q .normal F L else Q (.exit Hd) F L
   | .goto l=>Q (.goto l) F L
   | .ret=>Q .ret F L
   | _=>False) F L):AW P n k0 (.block id x) Q F L:=by
 intro c E a w hc dS hk hs;refine wp_block (wp_mono (h c E a w hc dS hk hs) ?_);rintro e a' w' ⟨E',F',L',h1,h2⟩
 cases e with
 | normal=>exact ⟨E',F',L',h1,h2⟩
 | exit Hd =>
   simp only [Exit.inBlock];simp only at h2
   cases hb:Nat.beq Hd id with
   | true=>rw [hb] at h2;rw [bp (ie hb)];exact ⟨E',F',L',h1,h2⟩
   | false=>rw [hb] at h2;rw [aR (λe=>by rw [e,Sc] at hb;cases hb)];exact ⟨E',F',L',h1,h2⟩
 | goto l=>exact ⟨E',F',L',h1,h2⟩
 | ret=>exact ⟨E',F',L',h1,h2⟩
 | panic ch=>exact h2.elim
 | outgrown=>exact h2.elim
theorem aZ {x y:Code} {Q:Exit->AF->List AB->Prop} {F:AF} {L:List AB} (h:AW P n k0 x (λe F L=>match e with
   | .normal=>AW P n k0 y Q F L
   | .ret=>Q .ret F L
   | _=>False) F L):AW P n k0 (.seq x y) Q F L:=by
 intro c E a w hc dS hk hs;refine wp_seq (wp_mono (h c E a w hc dS hk hs) ?_);rintro e a' w' ⟨E',F',L',h1,h2⟩
 cases e with
 | normal=>exact h2 c E' a' w' hc dS hk h1
 | ret=>exact ⟨E',F',L',h1,h2⟩
 | exit Hd=>exact h2.elim
 | goto l=>exact h2.elim
 | panic ch=>exact h2.elim
 | outgrown=>exact h2.elim
end
end Go.Ab
