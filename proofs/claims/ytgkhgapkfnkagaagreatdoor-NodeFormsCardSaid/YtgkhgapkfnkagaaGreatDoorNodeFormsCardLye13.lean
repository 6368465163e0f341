/- NodeFormsCard: abstract runs. -/
import Derived.Test.YtgkhgapkfnkagaaGreatDoorNodeFormsCardLye10k
set_option linter.unusedVariables false
set_option linter.unusedSimpArgs false
namespace Go.Ab
noncomputable section
open Go.RowKit
def idA (nx:Nat) (x:AV):Bool :=
 AV.rec (motive_1:=fun _=>Bool) (motive_2:=fun _=>Bool) (fun _=>true) (fun _=>true) (fun _ _=>true) (fun _ _ _=>true) (fun _ _=>true) (fun _=>true) (fun _ b _=>Nat.blt b nx) (fun _ ih=>ih) (fun _ ih=>ih) (fun _ _ ih=>ih) (fun _ _=>true) (fun _ _=>true) true (fun _ _ a b=>Bool.rec (motive:=fun _=>Bool) false b a) x
def idAs (nx:Nat) (l:List AV):Bool :=
 AV.rec_1 (motive_1:=fun _=>Bool) (motive_2:=fun _=>Bool) (fun _=>true) (fun _=>true) (fun _ _=>true) (fun _ _ _=>true) (fun _ _=>true) (fun _=>true) (fun _ b _=>Nat.blt b nx) (fun _ ih=>ih) (fun _ ih=>ih) (fun _ _ ih=>ih) (fun _ _=>true) (fun _ _=>true) true (fun _ _ a b=>Bool.rec (motive:=fun _=>Bool) false b a) l
def Bl (nx:Nat) (ρ ρ':Nat→Nat):Prop:=∀ i,i<nx→ρ' i=ρ i
mutual
theorem idA_ok {nx:Nat} {ρ ρ':Nat→Nat} (h:Bl nx ρ ρ'):∀ x:AV,idA nx x=true→inA ρ' x=inA ρ x
 | .d _,_=>rfl
 | .arr _,_=>rfl
 | .ptr _ _,_=>rfl
 | .ap _ _ _,_=>rfl
 | .im _ _,_=>rfl
 | .map _,_=>rfl
 | .mp i b o,k=>by
   have:b<nx:=(blt_iff _ _).1 k
   show AV.mp i (ρ' b) o = .mp i (ρ b) o
   rw [h b this]
 | .agg cs,k=>by
   show AV.agg (inAs ρ' cs) = .agg (inAs ρ cs)
   rw [idAs_ok h cs k]
 | .tup cs,k=>by
   show AV.tup (inAs ρ' cs) = .tup (inAs ρ cs)
   rw [idAs_ok h cs k]
 | .fn f cs,k=>by
   show AV.fn f (inAs ρ' cs) = .fn f (inAs ρ cs)
   rw [idAs_ok h cs k]
 | .sub _ _,_=>rfl
 | .isl _ _,_=>rfl
theorem idAs_ok {nx:Nat} {ρ ρ':Nat→Nat} (h:Bl nx ρ ρ'):∀ l:List AV,idAs nx l=true→inAs ρ' l=inAs ρ l
 | [],_=>rfl
 | x :: r,k=>by
   replace k:(Bool.rec (motive:=fun _=>Bool) false (idAs nx r) (idA nx x):Bool)=true:=k
   cases hx:idA nx x with
   | false=>rw [hx] at k;cases k
   | true =>
     rw [hx] at k
     show inA ρ' x :: inAs ρ' r=inA ρ x :: inAs ρ r
     rw [idA_ok h x hx,idAs_ok h r k]
end
def idE (nx:Nat) (es:List (KV×MV)):Bool:=List.rec (motive:=fun _=>Bool) true (fun p _ ih=>match p.2 with | .v _=>ih | .box b _=>Bool.rec (motive:=fun _=>Bool) false ih (Nat.blt b nx)) es
theorem idE_ok {nx:Nat} {ρ ρ':Nat→Nat} (h:Bl nx ρ ρ'):∀ es:List (KV×MV),idE nx es=true→inE ρ' es=inE ρ es
 | [],_=>rfl
 | (k0,m) :: r,k=>by
   show (k0,inM ρ' m) :: inE ρ' r=(k0,inM ρ m) :: inE ρ r
   cases m with
   | v x=>rw [idE_ok h r k];rfl
   | box b cs =>
     replace k:(Bool.rec (motive:=fun _=>Bool) false (idE nx r) (Nat.blt b nx):Bool)=true:=k
     cases hb:Nat.blt b nx with
     | false=>rw [hb] at k;cases k
     | true =>
       rw [hb] at k
       rw [idE_ok h r k]
       show (k0,MV.box (ρ' b) cs) :: _=(k0,MV.box (ρ b) cs) :: _
       rw [h b ((blt_iff _ _).1 hb)]
def idB (nx:Nat) (ab:AB):Bool :=
 match ab with
 | .cells cs=>idAs nx cs
 | .map es=>idE nx es
 | .pool b _=>Nat.blt b nx
 | _=>true
theorem idB_ok {nx:Nat} {ρ ρ':Nat→Nat} (h:Bl nx ρ ρ'):∀ ab:AB,idB nx ab=true→inB ρ' ab=inB ρ ab
 | .cells cs,k=>by
   show AB.cells (inAs ρ' cs) = .cells (inAs ρ cs)
   rw [idAs_ok h cs k]
 | .map es,k=>by
   show AB.map (inE ρ' es) = .map (inE ρ es)
   rw [idE_ok h es k]
 | .pool b cs,k=>by
   show AB.pool (ρ' b) cs = .pool (ρ b) cs
   rw [h b ((blt_iff _ _).1 k)]
 | .row _ _ _ _,_=>rfl
 | .dead,_=>rfl
 | .obj _,_=>rfl
 | .obs _ _ _,_=>rfl
 | .isle _ _ _,_=>rfl
def trA {α:Type} (p:α→Bool) (t:Tr α):Bool:=Tr.rec (motive:=fun _=>Bool) true (fun v _ _ l r=>Bool.rec (motive:=fun _=>Bool) false (Bool.rec (motive:=fun _=>Bool) false r l) (p v)) t
theorem trA_n {α:Type} {p:α→Bool} {v:α} {l r:Tr α} (h:trA p (.node v l r)=true):p v=true∧trA p l=true∧trA p r=true:=by
 replace h:(Bool.rec (motive:=fun _=>Bool) false (Bool.rec (motive:=fun _=>Bool) false (trA p r) (trA p l)) (p v):Bool)=true:=h
 cases h1:p v with
 | false=>rw [h1] at h;cases h
 | true =>
   rw [h1] at h
   replace h:(Bool.rec (motive:=fun _=>Bool) false (trA p r) (trA p l):Bool)=true:=h
   cases h2:trA p l with
   | false=>rw [h2] at h;cases h
   | true =>
     rw [h2] at h
     exact ⟨rfl,rfl,h⟩
theorem trA_ok {α:Type} {p:α→Bool} {d:α} (hd:p d=true):∀ (q:List Bool) (t:Tr α),trA p t=true→p (trG d q t)=true
 | q,.leaf,_=>by rw [trG_leaf];exact hd
 | [],.node v l r,h=>(trA_n h).1
 | false :: q,.node v l r,h=>trA_ok hd q l (trA_n h).2.1
 | true :: q,.node v l r,h=>trA_ok hd q r (trA_n h).2.2
def idT (nx:Nat) (T:Fr):Bool:=trA (idA nx) T
def idH (nx:Nat) (L:Hp):Bool:=trA (idB nx) L.t
theorem idT_ok {nx:Nat} {ρ ρ':Nat→Nat} (h:Bl nx ρ ρ') {T:Fr} (k:idT nx T=true) {F:AF} (hF:Ag ρ T F):Ag ρ' T F:=fun s=>by
 exact (hF s).trans (idA_ok h (tG T s) (trA_ok (d:=AV.d .any) rfl (pathOf s) T k)).symm
theorem idH_ok {nx:Nat} {ρ ρ':Nat→Nat} (h:Bl nx ρ ρ') {L:Hp} (k:idH nx L=true):inH ρ' L=inH ρ L:=by
 unfold inH inL
 refine List.map_congr_left fun ab hab => ?_
 unfold toL at hab
 obtain ⟨j,-,rfl⟩:=List.mem_map.1 hab
 exact idB_ok h _ (trA_ok (d:=AB.dead) rfl (pathOf j) L.t k)
def Ext (nx nx':Nat) (ρ ρ':Nat→Nat):Prop:=nx≤nx'∧Bl nx ρ ρ'∧(nx'=nx→ρ'=ρ)
theorem Ext.refl (nx:Nat) (ρ:Nat→Nat):Ext nx nx ρ ρ:=⟨Nat.le_refl _,fun _ _=>rfl,fun _=>rfl⟩
theorem Ext.trans {a b c:Nat} {ρ ρ1 ρ2:Nat→Nat} (h:Ext a b ρ ρ1) (k:Ext b c ρ1 ρ2):Ext a c ρ ρ2:=by
 refine ⟨Nat.le_trans h.1 k.1,fun i hi=>(k.2.1 i (Nat.lt_of_lt_of_le hi h.1)).trans (h.2.1 i hi),fun e => ?_⟩
 have e1:b=a:=by have:=h.1;have:=k.1;omega
 have e2:c=b:=by omega
 rw [k.2.2 e2,h.2.2 e1]
def stay (nx nx':Nat) (T:Fr):Bool:=Bool.rec (motive:=fun _=>Bool) (idT nx T) true (Nat.beq nx' nx)
theorem stay_ok {nx nx':Nat} {ρ ρ':Nat→Nat} {T:Fr} (h:stay nx nx' T=true) (k:Ext nx nx' ρ ρ') {F:AF} (hF:Ag ρ T F):Ag ρ' T F:=by
 unfold stay at h
 cases hb:Nat.beq nx' nx with
 | true=>rw [k.2.2 (Nat.eq_of_beq_eq_true hb)];exact hF
 | false =>
   rw [hb] at h
   exact idT_ok k.2.1 h hF
section
variable {P:Program} {tt:TypeId→Option TI} {fo:FuncId→Bool} {n:Nat}
def cX (P:Program) (fo:FuncId→Bool) (o:Oper) (F:AF) (L:List AB) (K:AV→List AB→Prop):Prop :=
 ∃ c f g caps,o.op = .call c∧c.callee = .value f∧ev F f = .fn g caps∧fo g=true∧ACalls P g (evs F c.args.toList++caps) L K
theorem cX_ok (hfo:FOok P fo) {o:Oper} {c:Ctx} (hc:c.wf) {E:Nat→Option Nat} {F:AF} {L:List AB} {a:Act} {w:World} {K:AV→List AB→Prop} (h:cX P fo o F L K) (hs:Sim c E F L a w):OpRes P o c F L a w K:=by
 obtain ⟨cl,f,g,caps,ho,hf,hg,hfg,hcall⟩:=h
 have hfe:=hs.ev f
 rw [hg] at hfe
 simp only [VR] at hfe
 obtain ⟨us,hfe1,hfe2⟩:=hfe
 refine .inr (.inr ⟨g,_,w,run_call_fn hfo a o cl f ho hf hfg hfe1 w,?_⟩)
 have hargs:VRt (rcOf c.M0 E L w) (evs F cl.args.toList++caps) (cl.args.map a.eval++us).toList:=by
  have:=VRt_append (VRt_evs hs cl.args.toList) hfe2
  simpa using this
 have h0:=hs.h
 let c2:Ctx:={ w0:=w,P0:=c.P0,M0:=c.M0,E0:=E,L0:=L,n:=c.n }
 have hc2:c2.wf:=⟨fun b hb=>Nat.lt_of_lt_of_le (hc.low b hb) h0.size,hc.sub,fun s hs'=>Nat.le_trans (hc.sle s hs') h0.size⟩
 have hs2:SimH c2 E L w:=⟨rfl,rfl,rfl,Nat.le_refl _,fun _ _=>rfl,h0.blk,h0.low,h0.inj,RC.le.refl _,h0.bx,Likes.refl _,h0.up⟩
 refine (hcall c2 _ hc2 rfl hs2 hargs).mono ?_
 rintro e w' ⟨v,av,L',E',rfl,hp,h',hv⟩
 have hb:SimH c E' L' w':=⟨h'.os.trans h0.os,h'.tape.trans h0.tape,h'.output.trans h0.output,Nat.le_trans h0.size h'.size,fun b hb=>(h'.prot b hb).trans (h0.prot b hb),h'.blk,h'.low,h'.inj,h0.old.trans h'.old,h'.bx,h0.lk.trans h'.lk,h'.up⟩
 exact ⟨v,av,rfl,E',L',hp,⟨hb,fun s=>VR.mono h'.old _ _ (hs.slots s),hs.nt,hs.df⟩,hv⟩
theorem cX_look {full:List Oper} {o:Oper} {F F':AF} {L:List AB} {K:AV→List AB→Prop} (h:∀ s∈lookS full o,fget F s=fget F' s) (hk:cX P fo o F L K):cX P fo o F' L K:=by
 obtain ⟨cl,f,g,caps,ho,hf,hg,hfg,hcall⟩:=hk
 have hx:∀ x∈o.op.operands,ev F x=ev F' x:=fun x hx=>ev_congr fun s hs=>h s (lookS_op (by rw [← hs];exact hx))
 rw [ho] at hx
 simp only [Op.operands,Call.operands,hf] at hx
 refine ⟨cl,f,g,caps,ho,hf,by rw [← hx f (by simp)];exact hg,hfg,?_⟩
 have e:evs F' cl.args.toList=evs F cl.args.toList:=List.map_congr_left fun x hm=>(hx x (by simp_all)).symm
 rw [e];exact hcall
def mX (P:Program) (tt:TypeId→Option TI) (o:Oper) (F:AF) (L:List AB) (K:AV→List AB→Prop):Prop :=
 (∃ t m k ok,o.op = .lookup t m k ok∧lkK P tt t ok L (ev F m) (ev F k) K)∨(∃ t m k v,(o.op = .mapUpdate t m k v∨o.op = .insert t m k v)∧upK P tt t L (ev F m) (ev F k) (ev F v) fun L'=>K (.d .any) L')
theorem mX_ok (ht:TTok P tt) {o:Oper} {c:Ctx} (hc:c.wf) {E:Nat→Option Nat} {F:AF} {L:List AB} {a:Act} {w:World} {K:AV→List AB→Prop} (h:mX P tt o F L K) (hs:Sim c E F L a w):OpRes P o c F L a w K:=by
 rcases h with ⟨t,m,k,ok,ho,h⟩|⟨t,m,k,v,ho,h⟩
 ·obtain ⟨r,av,h1,h2,h3⟩:=lkK_ok ht hs.h h (hs.ev m) (hs.ev k)
  exact .inl ⟨r,w,av,by simp [execOp,ho,h1],E,L,h2,hs,h3⟩
 ·obtain ⟨w',L',h2,h3,h4,h5⟩:=upK_ok ht hc hs.h h (hs.ev m) (hs.ev k) (hs.ev v)
  refine .inr (.inl ⟨w',.d .any,?_,E,L',h3,hs.mono h4 h5,by simp [VR,VD]⟩)
  rcases ho with ho|ho<;>simp [execOp,ho,h2]
theorem mX_look {full:List Oper} {o:Oper} {F F':AF} {L:List AB} {K:AV→List AB→Prop} (h:∀ s∈lookS full o,fget F s=fget F' s) (hk:mX P tt o F L K):mX P tt o F' L K:=by
 have hx:∀ x∈o.op.operands,ev F x=ev F' x:=fun x hx=>ev_congr fun s hs=>h s (lookS_op (by rw [← hs];exact hx))
 rcases hk with ⟨t,m,k,ok,ho,hk⟩|⟨t,m,k,v,ho,hk⟩
 ·rw [ho] at hx
  simp only [Op.operands] at hx
  exact .inl ⟨t,m,k,ok,ho,by rw [← hx m (by simp),← hx k (by simp)];exact hk⟩
 ·refine .inr ⟨t,m,k,v,ho,?_⟩
  have h3:ev F m=ev F' m∧ev F k=ev F' k∧ev F v=ev F' v:=by
   rcases ho with ho|ho<;>rw [ho] at hx<;>simp only [Op.operands] at hx<;>exact ⟨hx m (by simp),hx k (by simp),hx v (by simp)⟩
  rw [← h3.1,← h3.2.1,← h3.2.2]
  exact hk
def xX (tt:TypeId→Option TI) (o:Oper) (F:AF) (L:List AB) (K:AV→List AB→Prop):Prop :=
 ∃ t x ix i n e ei k z j off,o.op = .indexAddr t x ix∧tt t=some i∧i.desc = .array n e∧tt e=some ei∧ev F x = .ptr j off∧ev F ix = .d (.int k z)∧0≤z∧z<n∧K (.ptr j (off+z.toNat * ei.size)) L
theorem run_indexAtA {P:Program} {w:World} {t e:TypeId} {n:Nat} (hu:P.underlying t=some (.array n e)) {info:TypeInfo} (hi:P.info? e=some info) (a:Addr) (ha:a.spot=none) (k:IntKind) (z:Int) (h0:0≤z) (h1:z<n) :
  (Instr.indexAt t (.pointer (some a)) (.int k z)).run P w = .ok (.pointer (some ⟨a.block,a.off+z.toNat * info.size,none⟩)) w:=by
 simp only [Instr.indexAt,asIntOf,Sem.run_bind,Sem.run_pure,Result.andThen_ok,run_underlying hu,Instr.sureAddr]
 simp only [h0,h1,and_self,if_true,Sem.run_bind,run_sizeOf hi,Result.andThen_ok,Sem.run_pure]
 rw [add_lit a ha]
theorem xX_ok (ht:TTok P tt) {o:Oper} {c:Ctx} {E:Nat→Option Nat} {F:AF} {L:List AB} {a:Act} {w:World} {K:AV→List AB→Prop} (h:xX tt o F L K) (hs:Sim c E F L a w):OpRes P o c F L a w K:=by
 obtain ⟨t,x,ix,i,n,e,ei,k,z,j,off,ho,hi,hd,hei,hx,hix,h0,h1,hK⟩:=h
 have hv:=hs.ev x
 have hu:=hs.ev ix
 rw [hx] at hv
 rw [hix] at hu
 simp only [VR] at hv
 simp only [VR,VD] at hu
 obtain ⟨b,hb,hv⟩:=hv
 obtain ⟨hut,_⟩:=ht t i hi
 obtain ⟨_,info,k1,k2,k3,k4⟩:=ht e ei hei
 rw [hd] at hut
 have hr:=run_indexAtA (w:=w) hut k1 ⟨b,off,none⟩ rfl k z h0 h1
 refine .inl ⟨.pointer (some ⟨b,off+z.toNat * info.size,none⟩),w,.ptr j (off+z.toNat * ei.size),?_,E,L,hK,hs,?_⟩
 ·have hr':(Instr.indexAt t (a.eval x) (a.eval ix)).run P w = .ok (.pointer (some ⟨b,off+z.toNat * info.size,none⟩)) w:=by rw [hv,hu];exact hr
  simp [execOp,ho,hr']
 ·rw [k3];simp only [VR];exact ⟨b,hb,rfl⟩
theorem xX_look {full:List Oper} {o:Oper} {F F':AF} {L:List AB} {K:AV→List AB→Prop} (h:∀ s∈lookS full o,fget F s=fget F' s) (hk:xX tt o F L K):xX tt o F' L K:=by
 have hx:∀ x∈o.op.operands,ev F x=ev F' x:=fun x hx=>ev_congr fun s hs=>h s (lookS_op (by rw [← hs];exact hx))
 obtain ⟨t,x,ix,i,n,e,ei,k,z,j,off,ho,hi,hd,hei,h1,h2,h3⟩:=hk
 rw [ho] at hx
 simp only [Op.operands] at hx
 exact ⟨t,x,ix,i,n,e,ei,k,z,j,off,ho,hi,hd,hei,by rw [← hx x (by simp)];exact h1,by rw [← hx ix (by simp)];exact h2,h3⟩
def oX (P:Program) (tt:TypeId→Option TI) (fo:FuncId→Bool) (o:Oper) (F:AF) (L:List AB) (K:AV→List AB→Prop):Prop:=aopK P tt fo o F L K∨cX P fo o F L K∨mX P tt o F L K∨xX tt o F L K
theorem oX_ok (ht:TTok P tt) (hz:ZOok tt) (hfo:FOok P fo) {o:Oper} {c:Ctx} (hc:c.wf) {E:Nat→Option Nat} {F:AF} {L:List AB} {a:Act} {w:World} {K:AV→List AB→Prop} (h:oX P tt fo o F L K) (hs:Sim c E F L a w):OpRes P o c F L a w K:=by
 rcases h with h|h|h|h
 ·exact aopK_ok ht hz hfo hc h hs
 ·exact cX_ok hfo hc h hs
 ·exact mX_ok ht hc h hs
 ·exact xX_ok ht h hs
theorem oX_look {full:List Oper} {o:Oper} {F F':AF} {L:List AB} {K:AV→List AB→Prop} (h:∀ s∈lookS full o,fget F s=fget F' s) (hk:oX P tt fo o F L K):oX P tt fo o F' L K:=by
 rcases hk with hk|hk|hk|hk
 ·exact .inl (aopK_look h hk)
 ·exact .inr (.inl (cX_look h hk))
 ·exact .inr (.inr (.inl (mX_look h hk)))
 ·exact .inr (.inr (.inr (xX_look h hk)))
end
end
end Go.Ab
