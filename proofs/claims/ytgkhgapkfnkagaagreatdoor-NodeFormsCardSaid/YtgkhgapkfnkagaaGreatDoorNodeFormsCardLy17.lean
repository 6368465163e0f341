/- NodeFormsCard: abstract runs. -/
import Derived.Test.YtgkhgapkfnkagaaGreatDoorNodeFormsCardLbyA
import Derived.Orders
set_option linter.unusedVariables false
set_option linter.unusedSimpArgs false
namespace Go.Ab
noncomputable section
open Go.RowKit
theorem evsK_congr {F F':AF}:∀ {l:List Operand} {K:List AV→Prop},(∀ x∈l,ev F x=ev F' x)→evsK F l K→evsK F' l K
 | [],_,_,h=>h
 | x :: r,K,hx,h=>by
   simp only [evsK_nil,evsK_c] at h ⊢
   rw [← hx x (by simp)]
   have:=movK_ok h
   have h2:=evsK_congr (F':=F') (fun y hy=>hx y (by simp [hy])) this
   revert h2
   cases ev F x<;>exact id
theorem evPartsK_congr {F F':AF}:∀ {l:List (Nat×Operand)} {K:List (Nat×AV)→Prop},(∀ x∈l.map (·.2),ev F x=ev F' x)→evPartsK F l K→evPartsK F' l K
 | [],_,_,h=>h
 | (i,x) :: r,K,hx,h=>by
   simp only [evPartsK_nil,evPartsK_c] at h ⊢
   rw [← hx x (by simp)]
   have:=movK_ok h
   have h2:=evPartsK_congr (F':=F') (fun y hy=>hx y (by simp only [List.map_cons,List.mem_cons];exact .inr hy)) this
   revert h2
   cases ev F x<;>exact id
theorem optEv_congr {F F':AF} {x:Option Operand} (h:∀ y∈x.toArray,ev F y=ev F' y):optEv F x=optEv F' x:=by
 cases x with
 | none=>rfl
 | some x=>simp only [optEv];rw [h x (by simp)]
variable {P:Program} {tt:TypeId→Option TI} {fo:FuncId→Bool} {n:Nat}
theorem aopK_congr {o:Oper} {F F':AF} {L:List AB} {K:AV→List AB→Prop} (hx:∀ x∈o.op.operands,ev F x=ev F' x) (h:aopK P tt fo o F L K):aopK P tt fo o F' L K:=by
 unfold aopK at h ⊢
 cases ho:o.op<;>rw [ho] at h hx<;>simp only [Op.operands] at hx<;>simp only at h ⊢<;>first
  | exact h
  | (rw [← hx _ (by simp)];exact h)
  | (rw [← hx _ (by simp),← hx _ (by simp)];exact h)
  | skip
 case pick cc x y =>
  rw [← hx cc (by simp),← hx x (by simp),← hx y (by simp)];exact h
 case mapUpdate t m k v =>
  rw [← hx m (by simp),← hx k (by simp),← hx v (by simp)];exact h
 case insert t m k v =>
  rw [← hx m (by simp),← hx k (by simp),← hx v (by simp)];exact h
 case build t ps=>exact evPartsK_congr (fun x hm=>hx x (by simpa using hm)) h
 case buildSlice t l ps=>exact evPartsK_congr (fun x hm=>hx x (by simpa using hm)) h
 case slice t x lo hi mx =>
  rw [← hx x (by simp),← optEv_congr (F:=F) (x:=lo) (fun y hy=>hx y (by simp_all)),← optEv_congr (F:=F) (x:=hi) (fun y hy=>hx y (by simp_all))];exact h
 case makeFunc fn first caps =>
  obtain ⟨f,h1,h2,h3⟩:=mkFnK_ok h
  rw [h1,h2]
  exact evsK_congr (fun x hm=>hx x (by simp_all)) h3
 case call cl =>
  unfold callOpK at h ⊢
  simp only [Call.operands] at hx
  cases hc:cl.callee with
  | value f =>
    rw [hc] at h hx
    simp only at h hx ⊢
    rw [← hx f (by simp)]
    revert h
    cases ev F f<;>simp only [movK]<;>first|exact id|skip
    rename_i g caps
    intro h
    cases hg:fo g with
    | false=>rw [hg] at h;exact h.elim
    | true =>
      rw [hg] at h
      exact evsK_congr (fun x hm=>hx x (by simp_all)) h
  | builtin b =>
    rw [hc] at h hx
    cases b<;>simp only at h hx ⊢<;>first|exact h.elim|skip
    ·split at h
     ·rename_i s x t t' h1 h2
      have hs:s∈cl.args.toList:=by rw [h1];simp
      have hxx:x∈cl.args.toList:=by rw [h1];simp
      rw [← hx s (by simpa using hs),← hx x (by simpa using hxx)]
      exact h
     ·exact h.elim
    ·split at h
     ·rename_i x y h1
      have hs:x∈cl.args.toList:=by rw [h1];simp
      have hxx:y∈cl.args.toList:=by rw [h1];simp
      rw [← hx x (by simpa using hs),← hx y (by simpa using hxx)]
      exact h
     ·exact h.elim
    ·split at h
     ·rename_i s x t t' h1 h2
      have hs:s∈cl.args.toList:=by rw [h1];simp
      have hxx:x∈cl.args.toList:=by rw [h1];simp
      rw [← hx s (by simpa using hs),← hx x (by simpa using hxx)]
      exact h
     ·exact h.elim
    ·split at h
     ·rename_i s x t ts h1 h2
      have hs:s∈cl.args.toList:=by rw [h1];simp
      have hxx:x∈cl.args.toList:=by rw [h1];simp
      rw [← hx s (by simpa using hs),← hx x (by simpa using hxx)]
      exact h
     ·exact h.elim
    ·split at h
     ·rename_i x h1
      have hxx:x∈cl.args.toList:=by rw [h1];simp
      rw [← hx x (by simpa using hxx)]
      exact h
     ·exact h.elim
    ·split at h
     ·rename_i x t h1 h2
      have hxx:x∈cl.args.toList:=by rw [h1];simp
      rw [← hx x (by simpa using hxx)]
      exact h
     ·exact h.elim
    ·split at h
     ·rename_i x y h1
      have hs:x∈cl.args.toList:=by rw [h1];simp
      have hxx:y∈cl.args.toList:=by rw [h1];simp
      rw [← hx x (by simpa using hs),← hx y (by simpa using hxx)]
      exact h
     ·exact h.elim
    ·split at h
     ·rename_i x y h1
      have hs:x∈cl.args.toList:=by rw [h1];simp
      have hxx:y∈cl.args.toList:=by rw [h1];simp
      rw [← hx x (by simpa using hs),← hx y (by simpa using hxx)]
      exact h
     ·exact h.elim
    ·split at h
     ·rename_i x h1
      have hxx:x∈cl.args.toList:=by rw [h1];simp
      rw [← hx x (by simpa using hxx)]
      exact h
     ·exact h.elim
  | _=>rw [hc] at h;exact h.elim
noncomputable def dvsK (xs:List AV):(List DV→Prop)→Prop :=
 List.rec (motive:=fun _=>(List DV→Prop)→Prop) (fun K=>K []) (fun x _ ih K=>match x with | .d y=>ih fun l=>K (y :: l)|_=>False) xs
theorem dvsK_ok {R:RC}:∀ {xs:List AV} {K:List DV→Prop} {us:List Value},dvsK xs K→VRs R xs us→∃ ds,K ds∧VDs R.rd ds us
 | [],K,us,h,hv=>⟨[],h,by simpa [VRs,VDs,Cs] using hv⟩
 | x :: r,K,us,h,hv=>by
   simp only [VRs] at hv
   obtain ⟨u,us',rfl,h1,h2,h3⟩:=hv
   cases x with
   | d y =>
     obtain ⟨ds,k1,k2⟩:=dvsK_ok (xs:=r) (K:=fun l=>K (y :: l)) h h3
     refine ⟨y :: ds,k1,?_⟩
     simp only [VDs,Cs]
     exact ⟨u,us',rfl,h1,by simpa [VR] using h2,k2⟩
   | _=>exact h.elim
def buildDK (tt:TypeId→Option TI) (t:TypeId) (len:Nat) (parts:List (Nat×AV)) (K:AV→Prop):Prop :=
 ttK tt t fun i=>match sliceElem i.desc with
  | some e=>ttK tt e fun ei=>bif !(Nat.beq ei.size 0)&&Nat.ble (len * ei.size) 16777216&&cellsB ei.size (avOf ei.zero) then
     fillK (eqPlace ei.size) (zerosOf (cellsOf (avOf ei.zero)) (len * ei.size)) parts fun cs=>dvsK cs fun ds=>normNs (cellNs tt 6 e) ei.size ds 0 fun ds=>chunksK ei.size len ds fun xs=>K (.d (.sl ei.size xs))
    else False
  | none=>False
theorem buildDK_ok {P:Program} {tt:TypeId→Option TI} (ht:TTok P tt) {t:TypeId} {c:Ctx} (hc:c.wf) {E:Nat→Option Nat} {L:List AB} {w:World} (hs:SimH c E L w) {len:Nat} {parts:List (Nat×AV)} {vals:Array (Nat×Value)}
  {K:AV→Prop} (h:buildDK tt t len parts K) (hl:vals.size=parts.length) (hv:∀ (j i:Nat) (x:AV),parts[j]? = some (i,x)→∃ v,vals[j]? = some (i,v)∧VR (rcOf c.M0 E L w) x v) :
  ∃ r w' av,(Instr.buildSlice t len vals).run P w = .ok r w'∧K av∧SimH c E L w'∧(rcOf c.M0 E L w).le (rcOf c.M0 E L w')∧VR (rcOf c.M0 E L w') av r:=by
 obtain ⟨i,hi,h1⟩:=ttK_ok h
 split at h1
 ·rename_i e he
  obtain ⟨ei,hei,h2⟩:=ttK_ok h1
  have hd:i.desc = .slice e:=by
   revert he
   cases i.desc<;>simp [sliceElem]
  obtain ⟨hut,_⟩:=ht t i hi
  rw [hd] at hut
  obtain ⟨_,info,k1,k2,k3,k4⟩:=ht e ei hei
  cases hb:(!(Nat.beq ei.size 0)&&Nat.ble (len * ei.size) 16777216&&cellsB ei.size (avOf ei.zero)) with
  | false=>rw [hb] at h2;exact h2.elim
  | true =>
    rw [hb] at h2
    simp only [cond_true] at h2
    simp only [Bool.and_eq_true,Bool.not_eq_true'] at hb
    obtain ⟨⟨hz,hbig⟩,hcb⟩:=hb
    have hn:0<ei.size:=by
     rcases Nat.eq_zero_or_pos ei.size with h|h
     ·rw [h] at hz;cases hz
     ·exact h
    have hbig':len * ei.size≤16777216:=Nat.le_of_ble_eq_true hbig
    obtain ⟨hzl,hzne⟩:=cellsB_ok hcb
    have hzv:=cellsOf_ok hzne (VR_avOf (rcOf c.M0 E L w) ei.zero)
    have hz0:=zerosOf_ok hzv (by rw [hzl];exact hn) (len * ei.size)
    have hzs:ei.zero.cells.size=ei.size:=by have:=VRs_length hzv;simp only [Array.length_toList] at this;rw [this,hzl]
    obtain ⟨cs',cur',m1,m2,m3,m4⟩:=fillK_ok (pl:=fun i=>some (i * ei.size,ei.size)) (fun i K hK=>⟨_,rfl,hK⟩) (vals:=vals.toList) h2 (by simpa using hl) (fun j i x hx=>by
      obtain ⟨v,hv1,hv2⟩:=hv j i x hx
      exact ⟨v,by simpa using hv1,hv2⟩) hz0
    obtain ⟨ds0,q1,q4⟩:=dvsK_ok m2 m3
    obtain ⟨ds,q1,q5,q6⟩:=normNs_ok _ _ q1
    replace q4:=q6 _ _ q4
    clear q6 q5
    obtain ⟨n1,xs,n2,n3,n4,n5⟩:=chunksK_ok q1
    have hcs:cur'.size=len * ei.size:=by rw [m4];simp
    have hcl:ds.length=len * ei.size:=by have:=Cs_length q4;simp only [Array.length_toList] at this;rw [← this,hcs]
    have hfl:xs.flatten=ds:=by rw [n5,List.take_of_length_le (by omega)]
    have kk:=Keeps.alloc w (.cells cur' e)
    obtain ⟨hs',hle⟩:=hs.newRow hc kk (e:=e) (cap:=len) (xs:=xs) false ⟨hn,ht.sz _ _ hei⟩ n4 (heap_alloc_new w _) hcs (by omega) (by
      have h1:len≤len * ei.size:=Nat.le_mul_of_pos_right len hn
      unfold maxLen;omega) (by
      rw [hfl,n3,List.take_of_length_le (by simp [hcs])];exact q4)
    have hv':VR (rcOf c.M0 (Eupd E L.length (some w.heap.size)) (L++[.row e ei.size xs false]) (w.alloc (.cells cur' e))) (.arr L.length) (.slice (some ⟨w.heap.size,0,none⟩) xs.length len):=rc_arr_new (cap:=len) (heap_alloc_new w _) hcs
    obtain ⟨_,_,hcl2⟩:=hs'.close hc (i:=L.length) (e:=e) (n:=ei.size) (xs:=xs) (sh:=false) (by simp)
    have hv2:=hcl2 _ hv'
    have hsE:=hs.keeps hc kk
    have hleE:(rcOf c.M0 E L w).le (rcOf c.M0 E L (w.alloc (.cells cur' e))):=le_keeps hs.bl kk
    have hrd:∀ a u,(rcOf c.M0 (Eupd E L.length (some w.heap.size)) ((L++[AB.row e ei.size xs false]).set L.length (AB.row e ei.size xs true)) (w.alloc (.cells cur' e))).rd a u→(rcOf c.M0 E L (w.alloc (.cells cur' e))).rd a u:=by
     refine rdle rfl (.refl _) ?_
     rintro a u h1 h2
     refine ⟨h1,?_⟩
     rintro (hm|⟨i,ab',hi,he,hm⟩|⟨i,ab',hi,hm⟩)
     ·exact h2 (.inl hm)
     ·have hlt:i<L.length:=(List.getElem?_eq_some_iff.1 hi).1
      refine h2 (.inr (.inl ⟨i,ab',?_,?_,hm⟩))
      ·rw [List.getElem?_set_ne (by omega),List.getElem?_append_left hlt];exact hi
      ·simp only [Eupd];rw [if_neg (by omega)];exact he
     ·have hlt:i<L.length:=(List.getElem?_eq_some_iff.1 hi).1
      refine h2 (.inr (.inr ⟨i,ab',?_,hm⟩))
      rw [List.getElem?_set_ne (by omega),List.getElem?_append_left hlt];exact hi
    refine ⟨_,_,_,?_,n2,hsE,hleE,by simp only [VR] at hv2 ⊢;exact VD.mono hrd _ _ hv2⟩
    have hxl:xs.length=len:=n3
    rw [hxl]
    by_cases h0:len * ei.size=0
    ·have m1':Instr.fill (fun i=>some (i * ei.size,ei.size)) #[] vals.toList=some cur':=by
      have:(Array.range (len * ei.size)).map (ei.zero.cells[· % ei.zero.cells.size]!) = #[]:=by rw [h0];simp
      rw [this] at m1;exact m1
     have hr0:Array.range 0 = #[]:=by simp
     simp [Instr.buildSlice,run_underlying hut,run_sizeOf k1,k3,h0,hr0,m1',newRow]
    ·have hbig2:¬(16777216<len * ei.size):=by omega
     simp [Instr.buildSlice,run_underlying hut,run_sizeOf k1,k3,h0,hbig2,zeroValue,typeInfo,k1,k2,m1,newRow]
 ·exact h1.elim
def dopK (P:Program) (tt:TypeId→Option TI) (fo:FuncId→Bool) (o:Oper) (F:AF) (L:List AB) (K:AV→List AB→Prop):Prop :=
 match o.op with
 | .buildSlice t len parts=>evPartsK F parts.toList fun ps=>buildDK tt t len ps fun v=>K v L
 | _=>aopK P tt fo o F L K
theorem dopK_congr {o:Oper} {F F':AF} {L:List AB} {K:AV→List AB→Prop} (hx:∀ x∈o.op.operands,ev F x=ev F' x) (h:dopK P tt fo o F L K):dopK P tt fo o F' L K:=by
 unfold dopK at h ⊢
 split at h
 ·rename_i t len ps ho
  rw [ho] at hx
  simp only [Op.operands] at hx
  exact evPartsK_congr (fun x hm=>hx x (by simpa using hm)) h
 ·rename_i hne
  have:=aopK_congr hx h
  exact this
theorem dopK_ok (ht:TTok P tt) (hz:ZOok tt) (hfo:FOok P fo) {o:Oper} {c:Ctx} (hc:c.wf) {E:Nat→Option Nat} {F:AF} {L:List AB} {a:Act} {w:World} {K:AV→List AB→Prop}
  (h:dopK P tt fo o F L K) (hs:Sim c E F L a w):OpRes P o c F L a w K:=by
 unfold dopK at h
 split at h
 ·rename_i t len parts ho
  obtain ⟨hl,hp⟩:=evParts_ok hs parts
  obtain ⟨r,w',av,h1,h2,h3,h4,h5⟩:=buildDK_ok ht hc hs.h (evPartsK_ok h) hl hp
  exact .inl ⟨_,w',_,by simp [execOp,ho,h1],E,L,h2,hs.mono h3 h4,h5⟩
 ·exact aopK_ok ht hz hfo hc h hs
end
end Go.Ab
