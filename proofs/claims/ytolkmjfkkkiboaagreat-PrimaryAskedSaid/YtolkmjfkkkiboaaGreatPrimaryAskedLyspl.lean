/- PrimaryAsked: abstract runs. -/
import Derived.Test.YtolkmjfkkkiboaaGreatPrimaryAskedLycl
set_option linter.unusedVariables false
set_option linter.unusedSimpArgs false
namespace Go.Ab
open Go.RowKit
theorem SimH.spoilL {c:Ctx} (hc:c.wf) {E:Nat→Option Nat} {L:List AB} {lo n:Nat} {ok:IsK} {w w':World} (h:SimH c E L w) {i:Nat} (hi:L[i]? = some (.isle lo n ok)) (hs:Spoil lo n w w') :
  SimH c E (L.set i (.isle lo n false)) w'∧(rcOf c.M0 E L w).le (rcOf c.M0 E (L.set i (.isle lo n false)) w'):=by
 have hbx:∀ b,(lo≤b∧b<lo+n)↔b∈(AB.isle lo n ok).boxes:=fun b=>by simp only [AB.boxes,List.mem_range'_1]
 have hbx':(AB.isle lo n false).boxes=(AB.isle lo n ok).boxes:=rfl
 have look:∀ (j:Nat) (ab:AB),(L.set i (.isle lo n false))[j]? = some ab→(j=i∧ab = .isle lo n false)∨(j≠i∧L[j]? = some ab):=by
  intro j ab hj
  by_cases hji:j=i
  ·subst hji
   rw [getElem?_set_same hi] at hj
   cases hj
   exact .inl ⟨rfl,rfl⟩
  ·rw [getElem?_set_other hji] at hj
   exact .inr ⟨hji,hj⟩
 have back:∀ (j:Nat) (ab:AB),L[j]? = some ab→j≠i→(L.set i (.isle lo n false))[j]? = some ab:=fun j ab hj hji=>by rw [getElem?_set_other hji];exact hj
 have same:∀ b,b<w.heap.size→¬(lo≤b∧b<lo+n)→w'.heap[b]? = w.heap[b]? := hs.block
 have livb:∀ (j:Nat) (ab:AB) (b:Nat),L[j]? = some ab→ab.live=true→E j=some b→w'.heap[b]? = w.heap[b]? := fun j ab b hj hl he =>
  same b (h.lt hj hl he) fun hb=>h.bx.own i j _ ab b hi ((hbx b).1 hb) hj hl he
 have boxb:∀ (j:Nat) (ab:AB) (b:Nat),L[j]? = some ab→j≠i→b∈ab.boxes→w'.heap[b]? = w.heap[b]? := fun j ab b hj hji hb =>
  same b (h.blt hj hb) fun hbi=>hji (h.bx.dj j i ab _ b hj hi hb ((hbx b).1 hbi))
 have hmut:∀ b o,Mut c.M0 E (L.set i (.isle lo n false)) b o→Mut c.M0 E L b o:=by
  rintro b o (hm|⟨j,ab,hj,he,hm⟩|⟨j,ab,hj,hm⟩)
  ·exact .inl hm
  ·rcases look j ab hj with ⟨rfl,rfl⟩|⟨_,hj⟩
   ·exact hm.elim
   ·exact .inr (.inl ⟨j,ab,hj,he,hm⟩)
  ·rcases look j ab hj with ⟨rfl,rfl⟩|⟨_,hj⟩
   ·exact .inr (.inr ⟨_,_,hi,by rw [← hbx'];exact hm⟩)
   ·exact .inr (.inr ⟨j,ab,hj,hm⟩)
 have hle:(rcOf c.M0 E L w).le (rcOf c.M0 E (L.set i (.isle lo n false)) w'):=by
  refine ⟨?_,?_,?_,?_,?_⟩
  ·refine rdle rfl hs.like fun a u h1 h2 => ?_
   have hn:¬(lo≤a.block∧a.block<lo+n):=fun hb=>h2 (.inr (.inr ⟨i,_,hi,(hbx _).1 hb⟩))
   exact ⟨by rw [World.cell?_of_block (w:=w) (same a.block (cell?_lt h1) hn)];exact h1,fun hm=>h2 (hmut _ _ hm)⟩
  ·rintro j b ⟨ab,h1,h2,h3⟩
   have hji:j≠i:=by rintro rfl;rw [hi] at h1;cases h1;simp [AB.isCell] at h2
   exact ⟨ab,back j ab h1 hji,h2,h3⟩
  ·rintro j v ⟨ab,h1,h2⟩
   have hji:j≠i:=by rintro rfl;rw [hi] at h1;cases h1;exact h2.elim
   refine ⟨ab,back j ab h1 hji,?_⟩
   cases ab with
   | row e m xs sh =>
     simp only [arRel] at h2 ⊢
     cases hE:E j with
     | none=>rw [hE] at h2;exact h2
     | some b =>
       rw [hE] at h2
       obtain ⟨cap,cur,k1,k2,k3⟩:=h2
       exact ⟨cap,cur,k1,by rw [livb j _ b h1 rfl hE];exact k2,k3⟩
   | _=>exact h2
  ·rintro j k o v ⟨ab,h1,h2⟩
   have hji:j≠i:=by rintro rfl;rw [hi] at h1;cases h1;exact h2.elim
   exact ⟨ab,back j ab h1 hji,h2⟩
  ·rintro j x v ⟨ab,h1,h2⟩
   by_cases hji:j=i
   ·subst hji
    rw [hi] at h1;cases h1
    refine ⟨.isle lo n false,getElem?_set_same hi,fun m hf => ?_⟩
    exact hs.sl _ _ _ (SL_of_is hf h2)
   ·refine ⟨ab,back j ab h1 hji,?_⟩
    cases ab with
    | isle lo' n' ok'=>exact islRel_mono (fun b hb=>boxb j _ b h1 hji hb) h2
    | _=>exact h2.elim
 refine ⟨⟨hs.os.trans h.os,hs.tape.trans h.tape,hs.output.trans h.output,Nat.le_trans h.size hs.size,?_,?_,?_,?_,h.old.trans hle,?_⟩,hle⟩
 ·intro b hp
  have hn:¬(lo≤b∧b<lo+n):=fun hb=>h.bx.low i _ b hi ((hbx _).1 hb) hp
  rw [same b (Nat.lt_of_lt_of_le (hc.low b hp) h.size) hn]
  exact h.prot b hp
 ·intro j ab hj
  rcases look j ab hj with ⟨rfl,rfl⟩|⟨hji,hj'⟩
  ·intro b h1 h2
   have:=h.blt hi ((hbx b).1 ⟨h1,h2⟩)
   exact ⟨_,Array.getElem?_eq_getElem (Nat.lt_of_lt_of_le this hs.size)⟩
  ·exact BR.mono hle (h.blk j ab hj') (fun b he hl=>livb j ab b hj' hl he) fun b hb=>boxb j ab b hj' hji hb
 ·intro j ab b hj hl he
  rcases look j ab hj with ⟨rfl,rfl⟩|⟨_,hj'⟩
  ·cases hl
  ·exact h.low j ab b hj' hl he
 ·intro j k ab ab' b hj hk hl hl' he he'
  rcases look j ab hj with ⟨rfl,rfl⟩|⟨_,hj'⟩
  ·cases hl
  ·rcases look k ab' hk with ⟨rfl,rfl⟩|⟨_,hk'⟩
   ·cases hl'
   ·exact h.inj j k ab ab' b hj' hk' hl hl' he he'
 ·have hbox:∀ (j:Nat) (ab:AB),(L.set i (.isle lo n false))[j]? = some ab→∃ ab0,L[j]? = some ab0∧ab.boxes=ab0.boxes∧ab.live=ab0.live:=by
   intro j ab hj
   rcases look j ab hj with ⟨rfl,rfl⟩|⟨_,hj'⟩
   ·exact ⟨_,hi,rfl,rfl⟩
   ·exact ⟨ab,hj',rfl,rfl⟩
  refine ⟨?_,?_,?_,?_⟩
  ·intro j ab b hj hb
   obtain ⟨a0,k1,k2,_⟩:=hbox j ab hj
   exact h.bx.low j a0 b k1 (k2▸hb)
  ·intro j k ab ab' b hj hb hk hl he
   obtain ⟨a0,k1,k2,_⟩:=hbox j ab hj
   obtain ⟨a1,l1,_,l3⟩:=hbox k ab' hk
   exact h.bx.own j k a0 a1 b k1 (k2▸hb) l1 (l3▸hl) he
  ·intro j ab hj
   obtain ⟨a0,k1,k2,_⟩:=hbox j ab hj
   rw [k2];exact h.bx.nd j a0 k1
  ·intro j k ab ab' b hj hk hb hb'
   obtain ⟨a0,k1,k2,_⟩:=hbox j ab hj
   obtain ⟨a1,l1,l2,_⟩:=hbox k ab' hk
   exact h.bx.dj j k a0 a1 b k1 l1 (k2▸hb) (l2▸hb')
section
variable {P:Program} {tt:TypeId→Option TI} {fo:FuncId→Bool} {n k0:Nat}
theorem aw_lit (ht:TTok P tt) (hz:ZOok tt) (hfo:FOok P fo) {id:Nat} {ops:Array Oper} {o0 o1 o2:Oper} (hops:ops.toList=[o0,o1,o2])
  {i lo m e:Nat} {ok:IsK} {sz:Nat} {t:TypeId} {F:AF} {L:List AB} {d0 d1 d2:Nat} {f:FuncId} {ts:Array TypeId} {mav:List AV} (hL:L[i]? = some (.isle lo m ok))
  (g0:o0.guard=none) (g1:o1.guard=none) (g2:o2.guard=none) (q0:o0.dst=some d0) (hd0:d0<n) (q1:o1.dst=some d1) (hd1:d1<n) (q2:o2.dst=some d2) (hd2:d2<n)
  (h0:aopK P tt fo o0 F L fun v L'=>v = .agg mav∧L'=L)
  (p1:o1.op = .buildSlice t 1 #[(0,.tmp d0)]) (p2:o2.op = .call { callee := .value (.func f),args := #[.tmp d1],argTypes:=ts }) (hfof:fo f=true)
  {ti:TI} (hti:tt t=some ti) {ei:TI} (he:ti.desc = .slice e) (hei:tt e=some ei) (hsz:ei.size=sz) (hs0:0<sz) (hbig:sz≤16777216) (hcb:cellsB sz (avOf ei.zero)=true)
  (hfill:fillK (eqPlace sz) (zerosOf (cellsOf (avOf ei.zero)) (1 * sz)) [(0,.agg mav)] fun cs=>cs=mav)
  (hsp:∀ (c:Ctx) (E:Nat→Option Nat) (w:World) (cur:Array Value),(∀ b,lo≤b→b<lo+m→b<w.heap.size)→VRs (rcOf c.M0 E L w) mav cur.toList →
    Calls P f #[.slice (some ⟨w.heap.size,0,none⟩) 1 1] (w.alloc (.cells cur e)) fun e w'=>e = .returned (.tuple #[])∧Spoil lo m w w')
  {Q:Exit→AF→List AB→Prop} (hQ:Q .normal (fput (fput (fput F (some d0) (.d .any)) (some d1) (.d .any)) (some d2) (.d .any)) (L.set i (.isle lo m false))) :
  AW P n k0 (.region id ops false) Q F L:=by
 intro c E a w hc hcn _ hs
 subst hcn
 refine wp_region_list ?_
 rw [hops]
 refine wpList_aop ht hz hfo hc g0 (fun x hx=>by rw [q0] at hx;cases hx;exact hd0) h0 hs ?_
 rintro _ L1 E1 a1 w1 ⟨rfl,hL1⟩ hs1
 rw [hL1,q0] at hs1
 obtain ⟨hut,_⟩:=ht t ti hti
 obtain ⟨_,info,j1,j2,j3,j4⟩:=ht e ei hei
 rw [he] at hut
 have v0:=hs1.slots d0
 have hb0:∀ {b:Nat},lo≤b→b<lo+m→b<w1.heap.size:=fun {b} g1 g2=>hs1.h.blt hL (by simp only [AB.boxes,List.mem_range'_1];exact ⟨g1,g2⟩)
 obtain ⟨u,hu⟩:∃ u,a1.tmps.getD d0 undef=u:=⟨_,rfl⟩
 have hfg:fget (fput F (some d0) (.agg mav)) d0 = .agg mav:=by
  show fget ((d0,AV.agg mav) :: F) d0=_
  rw [fget_cons,Nat.beq_refl];rfl
 rw [hfg,hu] at v0
 obtain ⟨hzl,hzne⟩:=cellsB_ok hcb
 have hzv:=cellsOf_ok hzne (VR_avOf (rcOf c.M0 E1 L w1) ei.zero)
 have hz0:=zerosOf_ok hzv (by rw [hzl];exact hs0) (1 * sz)
 have hzs:ei.zero.cells.size=sz:=by have:=VRs_length hzv;simp only [Array.length_toList] at this;rw [this,hzl]
 obtain ⟨cs',cur',m1,m2,m3,m4⟩:=fillK_ok (pl:=fun i=>some (i * sz,sz)) (fun i K hK=>⟨_,rfl,hK⟩) (vals:=[(0,u)]) hfill rfl (fun j i x hx=>by
  cases j with
  | zero=>simp at hx;obtain ⟨rfl,rfl⟩:=hx;exact ⟨u,rfl,v0⟩
  | succ j=>simp at hx) hz0
 subst m2
 have hrun:(Instr.buildSlice t 1 #[(0,u)]).run P w1 = .ok (.slice (some ⟨w1.heap.size,0,none⟩) 1 1) (w1.alloc (.cells cur' e)):=by
  have hbig2:¬(16777216<1 * sz):=by omega
  have h0:¬(1 * sz=0):=by omega
  rw [Nat.one_mul] at hbig2 h0 m1
  simp [Instr.buildSlice,run_underlying hut,run_sizeOf j1,j3,hsz,h0,hbig2,zeroValue,typeInfo,j1,j2,m1,newRow]
 refine wpList_plain g1 fun K1 hK1 => ?_
 unfold Oper.wp
 have hev0:a1.eval (.tmp d0)=u:=hu
 rw [show (execOp a1.eval o1).run P w1 = .ok (.value (.slice (some ⟨w1.heap.size,0,none⟩) 1 1)) (w1.alloc (.cells cur' e)) by simp [execOp,p1,hev0,hrun]]
 refine hK1 _ _ ?_
 refine wpList_plain g2 fun K2 hK2 => ?_
 unfold Oper.wp
 obtain ⟨a2,ha2⟩:∃ a2,a1.put o1.dst (.slice (some ⟨w1.heap.size,0,none⟩) 1 1)=a2:=⟨_,rfl⟩
 rw [ha2]
 have hev:a2.eval (.tmp d1) = .slice (some ⟨w1.heap.size,0,none⟩) 1 1:=by
  rw [← ha2,q1]
  show Array.getD (a1.tmps.setIfInBounds d1 _) d1 undef=_
  have:d1<a1.tmps.size:=by rw [hs1.nt];exact hd1
  simp [Array.getD,this]
 have hrc:=run_call_fn hfo a2 o2 _ (.func f) p2 rfl (g:=f) hfof (us := #[]) rfl (w1.alloc (.cells cur' e))
 rw [hrc]
 have hae:(#[Operand.tmp d1].map a2.eval ++ #[]:Array Value) = #[.slice (some ⟨w1.heap.size,0,none⟩) 1 1]:=by simp [hev]
 simp only [hae]
 have hcall:=hsp c E1 w1 cur' (fun b g1 g2=>hb0 g1 g2) m3
 refine hcall.mono ?_
 rintro e2 w2 ⟨rfl,hspl⟩
 obtain ⟨r1,r2⟩:=hs1.h.spoilL hc hL hspl
 refine hK2 _ _ ?_
 have hs2:Sim c E1 (fput (fput F (some d0) (.d .any)) (some d1) (.d .any)) L a2 w1:=by
  rw [← ha2,q1]
  refine Sim.put ?_ (some d1) (.d .any) _ (fun x hx=>by cases hx;exact hd1) (by simp [VR,VD])
  refine hs1.weak fun s => ?_
  show fget ((d0,AV.d .any) :: F) s=fget ((d0,AV.agg cs') :: F) s∨fget ((d0,AV.d .any) :: F) s = .d .any
  rw [fget_cons,fget_cons]
  cases Nat.beq d0 s with
  | true=>exact .inr rfl
  | false=>exact .inl rfl
 have hs3:Sim c E1 (fput (fput F (some d0) (.d .any)) (some d1) (.d .any)) (L.set i (.isle lo m false)) a2 w2:=⟨r1,fun s=>VR.mono r2 _ _ (hs2.slots s),hs2.nt,hs2.df⟩
 rw [q2]
 exact ⟨E1,_,_,hs3.put (some d2) (.d .any) _ (fun x hx=>by cases hx;exact hd2) (by simp [VR,VD]),hQ⟩
theorem aw_cond {x:Operand} {a b:Code} {Q:Exit→AF→List AB→Prop} {F:AF} {L:List AB} (h:condK F x (fun F=>AW P n k0 a Q F L) (fun F=>AW P n k0 b Q F L)):AW P n k0 (.cond x a b) Q F L:=by
 intro c E ac w hc hcn hk hs
 obtain ⟨t,F',h1,h2,h3⟩:=condK_ok h hs
 refine wp_cond h1 ?_
 cases t with
 | true=>exact h3 c E ac w hc hcn hk h2
 | false=>exact h3 c E ac w hc hcn hk h2
theorem aw_block {id:Nat} {x:Code} {Q:Exit→AF→List AB→Prop} {F:AF} {L:List AB} (h:AW P n k0 x (fun e F L=>match e with
   | .normal=>Q .normal F L
   | .exit id'=>bif Nat.beq id' id then Q .normal F L else Q (.exit id') F L
   | .goto l=>Q (.goto l) F L
   | .ret=>Q .ret F L
   | _=>False) F L):AW P n k0 (.block id x) Q F L:=by
 intro c E a w hc hcn hk hs
 refine wp_block (wp_mono (h c E a w hc hcn hk hs) ?_)
 rintro e a' w' ⟨E',F',L',h1,h2⟩
 cases e with
 | normal=>exact ⟨E',F',L',h1,h2⟩
 | exit id' =>
   simp only [Exit.inBlock]
   simp only at h2
   cases hb:Nat.beq id' id with
   | true=>rw [hb] at h2;rw [if_pos (Nat.eq_of_beq_eq_true hb)];exact ⟨E',F',L',h1,h2⟩
   | false=>rw [hb] at h2;rw [if_neg (fun e=>by rw [e,Nat.beq_refl] at hb;cases hb)];exact ⟨E',F',L',h1,h2⟩
 | goto l=>exact ⟨E',F',L',h1,h2⟩
 | ret=>exact ⟨E',F',L',h1,h2⟩
 | panic ch=>exact h2.elim
 | outgrown=>exact h2.elim
theorem aw_seqr {x y:Code} {Q:Exit→AF→List AB→Prop} {F:AF} {L:List AB} (h:AW P n k0 x (fun e F L=>match e with
   | .normal=>AW P n k0 y Q F L
   | .ret=>Q .ret F L
   | _=>False) F L):AW P n k0 (.seq x y) Q F L:=by
 intro c E a w hc hcn hk hs
 refine wp_seq (wp_mono (h c E a w hc hcn hk hs) ?_)
 rintro e a' w' ⟨E',F',L',h1,h2⟩
 cases e with
 | normal=>exact h2 c E' a' w' hc hcn hk h1
 | ret=>exact ⟨E',F',L',h1,h2⟩
 | exit id'=>exact h2.elim
 | goto l=>exact h2.elim
 | panic ch=>exact h2.elim
 | outgrown=>exact h2.elim
end
end Go.Ab
