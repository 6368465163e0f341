/- NodeFormsCard: abstract runs. -/
import Derived.Test.YtgkhgapkfnkagaaGreatDoorNodeFormsCardLayD
import Derived.ScopeJumps
set_option linter.unusedVariables false
set_option linter.unusedSimpArgs false
namespace Go.Ab
noncomputable section
open Go.RowKit
def movK (x:AV) (K:AV→Prop):Prop :=
 match x with
 | .d x=>K (.d x)
 | .arr i=>K (.arr i)
 | .ptr i o=>K (.ptr i o)
 | .ap i j o=>K (.ap i j o)
 | .im cs o=>K (.im cs o)
 | .map i=>K (.map i)
 | .mp i b o=>K (.mp i b o)
 | .agg cs=>K (.agg cs)
 | .tup cs=>K (.tup cs)
 | .fn f cs=>K (.fn f cs)
 | .sub i n=>K (.sub i n)
 | .isl i x=>K (.isl i x)
theorem movK_ok {x:AV} {K:AV→Prop} (h:movK x K):K x:=by cases x<;>exact h
def binLK (tt:TypeId→Option TI) (op:BinOp) (t:TypeId) (L:List AB) (x y:AV) (K:AV→Prop):Prop :=
 match x with
 | .arr j=>lgetK L j fun ab=>match ab with
   | .row _ n xs _=>binK tt op t (.d (.sl n xs)) y K
   | _=>False
 | x=>binK tt op t x y K
theorem binLK_ok {P:Program} {tt:TypeId→Option TI} (ht:TTok P tt) {c:Ctx} (hc:c.wf) {E:Nat→Option Nat} {L:List AB} {w:World} (hs:SimH c E L w) {op:BinOp} {t:TypeId} {x y:AV} {K:AV→Prop} (h:binLK tt op t L x y K)
  {u v:Value} (hu:VR (rcOf c.M0 E L w) x u) (hv:VR (rcOf c.M0 E L w) y v) (xo yo:Operand) :
  ∃ r av,(eqGuard op t xo yo u v).run P w = .ok () w∧(binOp op t u v).run P w = .ok r w∧K av∧∀ R,VR R av r:=by
 unfold binLK at h
 split at h
 ·obtain ⟨ab,hab,h1⟩:=lgetK_ok h
  cases ab<;>simp only at h1<;>first|exact h1.elim|skip
  obtain ⟨_,hle,h2⟩:=hs.close hc hab
  exact binK_ok ht h1 (h2 u hu) (VR.mono hle _ _ hv) xo yo
 ·exact binK_ok ht h hu hv xo yo
def unK (op:UnOp) (x:AV) (K:AV→Prop):Prop :=
 match op,x with
 | .not,.d (.bool b)=>K (.d (.bool (!b)))
 | .neg,.d (.int k n)=>∀ z,z=k.wrap (0 - n)→K (.d (.int k z))
 | _,_=>False
theorem unK_ok {P:Program} {w:World} {op:UnOp} {x:AV} {K:AV→Prop} (h:unK op x K) {R:RC} {v:Value} (hv:VR R x v):∃ r av,(Op.unary op v).run P w = .ok r w∧K av∧VR R av r:=by
 unfold unK at h
 split at h
 ·simp only [VR,VD] at hv;subst hv
  exact ⟨_,_,rfl,h,by simp [VR,VD]⟩
 ·rename_i k n
  simp only [VR,VD] at hv;subst hv
  exact ⟨.int k (k.wrap (0 - n)),_,rfl,h _ rfl,by simp [VR,VD]⟩
 ·exact h.elim
def evs (F:AF) (l:List Operand):List AV:=l.map (ev F)
def evParts (F:AF) (l:List (Nat×Operand)):List (Nat×AV):=l.map fun p=>(p.1,ev F p.2)
noncomputable def evsK (F:AF) (l:List Operand):(List AV→Prop)→Prop :=
 List.rec (motive:=fun _=>(List AV→Prop)→Prop) (fun K=>K []) (fun x _ ih K=>movK (ev F x) fun y=>ih fun l=>K (y :: l)) l
theorem evsK_nil (F:AF) (K:List AV→Prop):evsK F [] K=K []:=rfl
theorem evsK_c (F:AF) (x:Operand) (r:List Operand) (K:List AV→Prop):evsK F (x :: r) K=movK (ev F x) fun y=>evsK F r fun l=>K (y :: l):=rfl
theorem evsK_ok {F:AF}:∀ {l:List Operand} {K:List AV→Prop},evsK F l K→K (evs F l)
 | [],_,h=>h
 | x :: r,K,h=>evsK_ok (l:=r) (K:=fun l=>K (ev F x :: l)) (movK_ok (K:=fun y=>evsK F r fun l=>K (y :: l)) h)
noncomputable def evPartsK (F:AF) (l:List (Nat×Operand)):(List (Nat×AV)→Prop)→Prop :=
 List.rec (motive:=fun _=>(List (Nat×AV)→Prop)→Prop) (fun K=>K []) (fun p _ ih K=>movK (ev F p.2) fun y=>ih fun l=>K ((p.1,y) :: l)) l
theorem evPartsK_nil (F:AF) (K:List (Nat×AV)→Prop):evPartsK F [] K=K []:=rfl
theorem evPartsK_c (F:AF) (i:Nat) (x:Operand) (r:List (Nat×Operand)) (K:List (Nat×AV)→Prop):evPartsK F ((i,x) :: r) K=movK (ev F x) fun y=>evPartsK F r fun l=>K ((i,y) :: l):=rfl
theorem evPartsK_ok {F:AF}:∀ {l:List (Nat×Operand)} {K:List (Nat×AV)→Prop},evPartsK F l K→K (evParts F l)
 | [],_,h=>h
 | (i,x) :: r,K,h=>evPartsK_ok (l:=r) (K:=fun l=>K ((i,ev F x) :: l)) (movK_ok (K:=fun y=>evPartsK F r fun l=>K ((i,y) :: l)) h)
def optEv (F:AF):Option Operand→Option AV
 | none=>none
 | some x=>some (ev F x)
def lenAllK (L:List AB) (d:TypeDesc) (x:AV) (K:AV→Prop):Prop :=
 match mapDesc d with
 | some _=>mapLenK L d x K
 | none=>lenK' L d x K
def nilsK (tt:TypeId→Option TI) (t:TypeId) (v:AV) (K:AV→Prop):Prop :=
 match v with
 | .d .nils=>match tt t with
   | some i=>match sliceElem i.desc with
     | some e=>match tt e with
       | some ei=>bif Nat.beq ei.size 0 then K (.d .nils) else K (.d (.sl ei.size []))
       | none=>K (.d .nils)
     | none=>K (.d .nils)
   | none=>K (.d .nils)
 | v=>K v
theorem nilsK_ok {tt:TypeId→Option TI} {t:TypeId} {v:AV} {K:AV→Prop} (h:nilsK tt t v K):∃ v',K v'∧∀ (R:RC) (u:Value),VR R v u→VR R v' u:=by
 unfold nilsK at h
 split at h
 ·split at h
  ·split at h
   ·split at h
    ·rename_i ei _
     cases hb:Nat.beq ei.size 0 with
     | true=>rw [hb] at h;exact ⟨_,h,fun _ _ h=>h⟩
     | false =>
       rw [hb] at h
       refine ⟨_,h,fun R u hu => ?_⟩
       simp only [VR,VD] at hu ⊢
       subst hu
       refine ⟨?_,none,0,rfl,by simp,by simp [maxLen],fun _=>rfl,(fun _ h=>by cases h)⟩
       rcases Nat.eq_zero_or_pos ei.size with h|h
       ·rw [h] at hb;cases hb
       ·exact h
    ·exact ⟨_,h,fun _ _ h=>h⟩
   ·exact ⟨_,h,fun _ _ h=>h⟩
  ·exact ⟨_,h,fun _ _ h=>h⟩
 ·exact ⟨_,h,fun _ _ h=>h⟩
noncomputable def nilsKs (tt:TypeId→Option TI) (ts:List TypeId):List AV→(List AV→Prop)→Prop :=
 List.rec (motive:=fun _=>List AV→(List AV→Prop)→Prop) (fun r K=>K r) (fun t _ ih l=>List.rec (motive:=fun _=>(List AV→Prop)→Prop) (fun K=>K []) (fun v r _ K=>nilsK tt t v fun v=>ih r fun l=>K (v :: l)) l) ts
theorem nilsKs_nil (tt:TypeId→Option TI) (r:List AV) (K:List AV→Prop):nilsKs tt [] r K=K r:=rfl
theorem nilsKs_n (tt:TypeId→Option TI) (t:TypeId) (ts:List TypeId) (K:List AV→Prop):nilsKs tt (t :: ts) [] K=K []:=rfl
theorem nilsKs_c (tt:TypeId→Option TI) (t:TypeId) (ts:List TypeId) (v:AV) (r:List AV) (K:List AV→Prop):nilsKs tt (t :: ts) (v :: r) K=nilsK tt t v fun v=>nilsKs tt ts r fun l=>K (v :: l):=rfl
theorem nilsKs_ok {tt:TypeId→Option TI}:∀ {ts:List TypeId} {vs:List AV} {K:List AV→Prop},nilsKs tt ts vs K→∃ vs',K vs'∧∀ (R:RC) (us:List Value),VRt R vs us→VRt R vs' us
 | [],vs,K,h=>⟨vs,by simpa [nilsKs_nil,nilsKs_n,nilsKs_c] using h,fun _ _ h=>h⟩
 | t :: ts,[],K,h=>⟨[],by simpa [nilsKs_nil,nilsKs_n,nilsKs_c] using h,fun _ _ h=>h⟩
 | t :: ts,v :: r,K,h=>by
   simp only [nilsKs_nil,nilsKs_n,nilsKs_c] at h
   obtain ⟨v',h1,h2⟩:=nilsK_ok h
   obtain ⟨r',h3,h4⟩:=nilsKs_ok h1
   refine ⟨v' :: r',h3,fun R us hu => ?_⟩
   simp only [VRt] at hu ⊢
   obtain ⟨u,us',e,k1,k2⟩:=hu
   exact ⟨u,us',e,h2 R u k1,h4 R us' k2⟩
def rowArgK (tt:TypeId→Option TI) (t:TypeId) (v:AV) (L:List AB) (K:AV→List AB→Prop):Prop :=
 match v with
 | .d .nils=>nilRowK tt t L K
 | v=>K v L
def rowArgsK (tt:TypeId→Option TI) (ts:List TypeId):List AV→List AB→(List AV→List AB→Prop)→Prop :=
 List.rec (motive:=fun _=>List AV→List AB→(List AV→List AB→Prop)→Prop) (fun r L K=>K r L) (fun t _ ih l=>List.rec (motive:=fun _=>List AB→(List AV→List AB→Prop)→Prop) (fun L K=>K [] L) (fun v r _ L K=>rowArgK tt t v L fun v L1=>ih r L1 fun l L2=>K (v :: l) L2) l) ts
theorem rowArgK_ok {P:Program} {tt:TypeId→Option TI} (ht:TTok P tt) {t:TypeId} {c:Ctx} (hc:c.wf) {E:Nat→Option Nat} {L:List AB} {w:World} (hs:SimH c E L w) {v:AV} {K:AV→List AB→Prop} (h:rowArgK tt t v L K) {u:Value} (hv:VR (rcOf c.M0 E L w) v u) :
  ∃ E' av L',K av L'∧SimH c E' L' w∧(rcOf c.M0 E L w).le (rcOf c.M0 E' L' w)∧VR (rcOf c.M0 E' L' w) av u:=by
 unfold rowArgK at h
 split at h
 ·simp only [VR,VD] at hv
  subst hv
  exact nilRowK_ok ht hc hs h
 ·exact ⟨E,v,L,h,hs,.refl _,hv⟩
theorem rowArgsK_ok {P:Program} {tt:TypeId→Option TI} (ht:TTok P tt) {c:Ctx} (hc:c.wf) {w:World}:∀ {ts:List TypeId} {E:Nat→Option Nat} {L:List AB} {vs:List AV} {K:List AV→List AB→Prop} {us:List Value},SimH c E L w→rowArgsK tt ts vs L K→VRt (rcOf c.M0 E L w) vs us →
  ∃ E' avs L',K avs L'∧SimH c E' L' w∧(rcOf c.M0 E L w).le (rcOf c.M0 E' L' w)∧VRt (rcOf c.M0 E' L' w) avs us
 | [],E,L,vs,K,us,hs,h,hv=>⟨E,vs,L,h,hs,.refl _,hv⟩
 | t :: ts,E,L,[],K,us,hs,h,hv=>⟨E,[],L,h,hs,.refl _,hv⟩
 | t :: ts,E,L,v :: r,K,us,hs,h,hv=>by
   simp only [VRt] at hv
   obtain ⟨u,us',rfl,h1,h2⟩:=hv
   obtain ⟨E1,av,L1,k1,k2,k3,k4⟩:=rowArgK_ok ht hc hs (show rowArgK tt t v L fun v L1=>rowArgsK tt ts r L1 fun l L2=>K (v :: l) L2 from h) h1
   obtain ⟨E2,avs,L2,m1,m2,m3,m4⟩:=rowArgsK_ok ht hc (ts:=ts) k2 k1 (VRt.mono k3 _ _ h2)
   exact ⟨E2,av :: avs,L2,m1,m2,k3.trans m3,by simp only [VRt];exact ⟨u,us',rfl,VR.mono m3 _ _ k4,m4⟩⟩
def flatTs (tt:TypeId→Option TI):Nat→TypeId→List TypeId
 | 0,t=>[t]
 | n+1,t=>match tt t with
   | some i=>match i.desc with
     | .struct fs=>fs.toList.flatMap fun f=>flatTs tt n f.type
     | _=>[t]
   | none=>[t]
def boxRowsK (tt:TypeId→Option TI) (i:TI) (x:AV) (L:List AB) (K:AV→List AB→Prop):Prop :=
 match i.desc with
 | .struct fs=>bif oneAV x||aggB x then rowArgsK tt (fs.toList.flatMap fun f=>flatTs tt 3 f.type) (cellsOf x) L fun cs L1=>bif Nat.beq cs.length (cellsOf x).length then lpushK L1 (.cells cs) 0 fun j L2=>K (.ptr j 0) L2 else False else False
 | _=>False
theorem VRs_t {R:RC}:∀ {cs:List AV} {us:List Value},VRs R cs us→VRt R cs us∧∀ u∈us,u.oneCell'=true
 | [],us,h=>by simp only [VRs] at h;subst h;exact ⟨rfl,by simp⟩
 | c :: r,us,h=>by
   simp only [VRs] at h
   obtain ⟨u,us',rfl,h1,h2,h3⟩:=h
   obtain ⟨k1,k2⟩:=VRs_t h3
   refine ⟨by simp only [VRt];exact ⟨u,us',rfl,h2,k1⟩,fun x hx => ?_⟩
   rcases List.mem_cons.1 hx with rfl|h
   ·exact h1
   ·exact k2 x h
theorem VRt_s {R:RC}:∀ {cs:List AV} {us:List Value},VRt R cs us→(∀ u∈us,u.oneCell'=true)→VRs R cs us
 | [],us,h,_=>by simp only [VRt] at h;subst h;simp [VRs]
 | c :: r,us,h,h1=>by
   simp only [VRt] at h
   obtain ⟨u,us',rfl,k1,k2⟩:=h
   simp only [VRs]
   exact ⟨u,us',rfl,h1 u (by simp),k1,VRt_s k2 fun x hx=>h1 x (by simp [hx])⟩
theorem boxRowsK_ok {P:Program} {tt:TypeId→Option TI} (ht:TTok P tt) {i:TI} {c:Ctx} (hc:c.wf) {E:Nat→Option Nat} {L:List AB} {w:World} (hs:SimH c E L w) {x:AV} {K:AV→List AB→Prop} (h:boxRowsK tt i x L K) (t:TypeId) {v:Value} (hv:VR (rcOf c.M0 E L w) x v) :
  ∃ r w' E' av L',(Instr.box t v).run P w = .ok r w'∧K av L'∧SimH c E' L' w'∧(rcOf c.M0 E L w).le (rcOf c.M0 E' L' w')∧VR (rcOf c.M0 E' L' w') av r:=by
 unfold boxRowsK at h
 split at h
 rotate_left
 ·exact h.elim
 cases hb:(oneAV x||aggB x) with
 | false=>rw [hb] at h;exact h.elim
 | true =>
   rw [hb] at h
   simp only [cond_true] at h
   have hne:cellsOf x≠[]∨∃ cs,x = .agg cs:=by
    cases x with
    | agg cs=>exact .inr ⟨_,rfl⟩
    | tup cs=>cases hb
    | d x =>
      cases x with
      | any=>cases hb
      | _=>exact .inl (by simp [cellsOf])
    | _=>exact .inl (by simp [cellsOf])
   have hvs:=cellsOf_ok hne hv
   obtain ⟨ht1,ht2⟩:=VRs_t hvs
   obtain ⟨E1,cs,L1,k1,k2,k3,k4⟩:=rowArgsK_ok ht hc hs h ht1
   cases hl:Nat.beq cs.length (cellsOf x).length with
   | false=>rw [hl] at k1;exact k1.elim
   | true =>
     rw [hl] at k1
     simp only [cond_true] at k1
     have h1:=lpushK_ok k1
     rw [Nat.zero_add] at h1
     obtain ⟨hs',hle⟩:=k2.newCells hc t (VRt_s k4 ht2)
     exact ⟨.pointer (some ⟨w.heap.size,0,none⟩),w.alloc (.cells v.cells t),_,_,_,by simp [Instr.box,newVar,newRow],h1,hs',k3.trans hle,rc_ptr_new⟩
def boxTK (tt:TypeId→Option TI) (t:TypeId) (x:AV) (L:List AB) (K:AV→List AB→Prop):Prop :=
 match tt t with
 | some i=>bif i.pool then boxPK x L K else bif i.rows then boxRowsK tt i x L K else boxK x L K
 | none=>boxK x L K
theorem boxTK_ok {P:Program} {tt:TypeId→Option TI} (ht:TTok P tt) {c:Ctx} (hc:c.wf) {E:Nat→Option Nat} {L:List AB} {w:World} (hs:SimH c E L w) {t':TypeId} {x:AV} {K:AV→List AB→Prop} (h:boxTK tt t' x L K) (t:TypeId) {v:Value} (hv:VR (rcOf c.M0 E L w) x v) :
  ∃ r w' E' av L',(Instr.box t v).run P w = .ok r w'∧K av L'∧SimH c E' L' w'∧(rcOf c.M0 E L w).le (rcOf c.M0 E' L' w')∧VR (rcOf c.M0 E' L' w') av r:=by
 unfold boxTK at h
 split at h
 ·rename_i i _
  cases hp:i.pool with
  | true=>rw [hp] at h;exact boxPK_ok hc hs h t hv
  | false =>
    rw [hp] at h
    simp only [cond_false] at h
    cases hr:i.rows with
    | true=>rw [hr] at h;exact boxRowsK_ok ht hc hs h t hv
    | false=>rw [hr] at h;exact boxK_ok hc hs h t hv
 ·exact boxK_ok hc hs h t hv
def allocTK (tt:TypeId→Option TI) (t:TypeId) (L:List AB) (K:AV→List AB→Prop):Prop :=
 ttK tt t fun i=>bif i.rows then boxRowsK tt i (avOf i.zero) L K else boxK (avOf i.zero) L K
theorem allocTK_ok {P:Program} {tt:TypeId→Option TI} (ht:TTok P tt) {c:Ctx} (hc:c.wf) {E:Nat→Option Nat} {L:List AB} {w:World} (hs:SimH c E L w) {t:TypeId} {K:AV→List AB→Prop} (h:allocTK tt t L K) :
  ∃ r w' E' av L',(Instr.alloc t true (.tuple #[])).run P w = .ok r w'∧K av L'∧SimH c E' L' w'∧(rcOf c.M0 E L w).le (rcOf c.M0 E' L' w')∧VR (rcOf c.M0 E' L' w') av r:=by
 obtain ⟨i,hi,h1⟩:=ttK_ok h
 obtain ⟨hu,info,k1,k2,k3,k4⟩:=ht t i hi
 have:(Instr.alloc t true (.tuple #[])).run P w=(Instr.box t i.zero).run P w:=by
  simp [Instr.alloc,Instr.box,zeroValue,typeInfo,k1,k2]
 cases hr:i.rows with
 | true =>
   rw [hr] at h1
   obtain ⟨r,w',E',av,L',m1,m2⟩:=boxRowsK_ok ht hc hs h1 t (VR_avOf _ i.zero)
   exact ⟨r,w',E',av,L',this▸m1,m2⟩
 | false =>
   rw [hr] at h1
   obtain ⟨r,w',E',av,L',m1,m2⟩:=boxK_ok (P:=P) hc hs h1 t (VR_avOf _ i.zero)
   exact ⟨r,w',E',av,L',this▸m1,m2⟩
def anyArr (l:List AV):Bool:=List.rec (motive:=fun _=>Bool) false (fun x _ ih=>match x with | .arr _=>true|_=>ih) l
def rowNilB (tt:TypeId→Option TI) (t:TypeId):Bool:=match tt t with|some i=>i.rows&&isSliceD0 i.desc|none=>false
noncomputable def anyArrT (tt:TypeId→Option TI) (ts:List TypeId):List AV→Bool :=
 List.rec (motive:=fun _=>List AV→Bool) (fun l=>anyArr l) (fun t _ ih l=>List.rec (motive:=fun _=>Bool) false (fun x r _=>match x with | .arr _=>true | .d .nils=>bif rowNilB tt t then true else ih r|_=>ih r) l) ts
def lessK (mx:Bool) (x y:AV) (K:AV→Prop):Prop :=
 match x,y with
 | .d (.int k a),.d (.int _ b)=>match mx with
   | true=>K (.d (.int k (max a b)))
   | false=>K (.d (.int k (min a b)))
 | _,_=>False
def cplxK (x y:AV) (K:AV→Prop):Prop :=
 match x,y with
 | .d (.flt k a),.d (.flt k' b)=>bif fkeq k k' then K (.d (.cplx k a b)) else False
 | _,_=>False
def partK (re:Bool) (x:AV) (K:AV→Prop):Prop :=
 match x with
 | .d (.cplx k a b)=>match re with
   | true=>K (.d (.flt k a))
   | false=>K (.d (.flt k b))
 | _=>False
theorem cplxK_ok {P:Program} {w:World} {ts:Array TypeId} {ty:TypeId} {x y:AV} {K:AV→Prop} (h:cplxK x y K) {R:RC} {u v:Value} (hu:VR R x u) (hv:VR R y v) :
  ∃ r av,(Builtin.complex_ ts ty #[u,v]:Sem Value).run P w = .ok r w∧K av∧VR R av r:=by
 unfold cplxK at h
 split at h
 ·rename_i k a k' b
  simp only [VR,VD] at hu hv
  subst hu;subst hv
  cases hk:fkeq k k' with
  | false=>rw [hk] at h;exact h.elim
  | true =>
    rw [hk] at h
    have:=fkeq_eq hk
    subst this
    exact ⟨.complex k a b,_,(by show ((if k=k then pure (.complex k a b) else stuck "complex: parts of different kinds"):Sem Value).run P w=_;rw [if_pos rfl];rfl),h,by simp [VR,VD]⟩
 ·exact h.elim
theorem partK_ok {P:Program} {w:World} {ts:Array TypeId} {ty:TypeId} {re:Bool} {x:AV} {K:AV→Prop} (h:partK re x K) {R:RC} {u:Value} (hu:VR R x u) :
  ∃ r av,((match re with|true=>Builtin.real_ ts ty #[u]|false=>Builtin.imag_ ts ty #[u]):Sem Value).run P w = .ok r w∧K av∧VR R av r:=by
 unfold partK at h
 split at h
 ·rename_i k a b
  simp only [VR,VD] at hu
  subst hu
  cases re with
  | true=>exact ⟨.float k a,_,rfl,h,by simp [VR,VD]⟩
  | false=>exact ⟨.float k b,_,rfl,h,by simp [VR,VD]⟩
 ·exact h.elim
def callOpK (P:Program) (tt:TypeId→Option TI) (fo:FuncId→Bool) (c:Call) (F:AF) (L:List AB) (K:AV→List AB→Prop):Prop :=
 match c.callee with
 | .value f=>movK (ev F f) fun fv=>match fv with
   | .fn g caps=>bif fo g then evsK F c.args.toList fun avs=>bif anyArrT tt c.argTypes.toList avs then
      (nilsKs tt c.argTypes.toList avs fun avs=>callK P g (avs++caps) L K)∨rowArgsK tt c.argTypes.toList avs L fun avs L=>callRawK P g (avs++caps) L K
      else nilsKs tt c.argTypes.toList avs fun avs=>callK P g (avs++caps) L K else False
   | _=>False
 | .builtin .max=>match c.args.toList with
   | [x,y]=>lessK true (ev F x) (ev F y) fun v=>K v L
   | _=>False
 | .builtin .min=>match c.args.toList with
   | [x,y]=>lessK false (ev F x) (ev F y) fun v=>K v L
   | _=>False
 | .builtin .complex=>match c.args.toList with
   | [x,y]=>cplxK (ev F x) (ev F y) fun v=>K v L
   | _=>False
 | .builtin .real=>match c.args.toList with
   | [x]=>partK true (ev F x) fun v=>K v L
   | _=>False
 | .builtin .imag=>match c.args.toList with
   | [x]=>partK false (ev F x) fun v=>K v L
   | _=>False
 | .builtin .len=>match c.args.toList,c.argTypes.toList with
   | [x],[t]=>ttK tt t fun i=>lenAllK L i.desc (ev F x) fun v=>K v L
   | _,_=>False
 | .builtin .delete=>match c.args.toList,c.argTypes.toList with
   | [x,k],t :: _=>deleteK tt t L (ev F x) (ev F k) fun L'=>K (.d .any) L'
   | _,_=>False
 | .builtin .append=>match c.args.toList,c.argTypes.toList with
   | [s,x],[t,t']=>bif Nat.beq t t' then appendK tt t L (ev F s) (ev F x) K else appendXK tt t t' L (ev F s) (ev F x) K
   | _,_=>False
 | .builtin .copy=>match c.args.toList,c.argTypes.toList with
   | [s,x],[t,_]=>copyK tt t L (ev F s) (ev F x) K
   | _,_=>False
 | _=>False
def isNilSl:Operand→Bool
 | .const (.slice none 0 0)=>true
 | _=>false
def noneK {α:Type} (x:Option α) (K:Prop):Prop:=match x with|none=>K|some _=>False
theorem noneK_ok {α:Type} {x:Option α} {K:Prop} (h:noneK x K):x=none∧K:=by cases x;exact ⟨rfl,h⟩;exact h.elim
def mkFnK (fn:Fn) (l:List Operand) (K:FuncId→Prop):Prop:=match fn,l with | .func f,[]=>K f|_,_=>False
theorem mkFnK_ok {fn:Fn} {l:List Operand} {K:FuncId→Prop} (h:mkFnK fn l K):∃ f,fn = .func f∧l=[]∧K f:=by
 unfold mkFnK at h
 split at h
 ·exact ⟨_,rfl,rfl,h⟩
 ·exact h.elim
def aopK (P:Program) (tt:TypeId→Option TI) (fo:FuncId→Bool) (o:Oper) (F:AF) (L:List AB) (K:AV→List AB→Prop):Prop :=
 match o.op with
 | .move x=>movK (ev F x) fun v=>K v L
 | .assign x=>bif isNilSl x then nilRowK tt o.type L K else movK (ev F x) fun v=>K v L
 | .pick c a b=>match ev F c with
   | .d (.bool t)=>splitB t (movK (ev F a) fun v=>K v L) (movK (ev F b) fun v=>K v L)
   | _=>False
 | .alloc t=>allocTK tt t L K
 | .box t x=>boxTK tt t (ev F x) L K
 | .makeMap _ r=>noneK r (makeMapK L K)
 | .lookup t m k ok=>lookupK tt t ok L (ev F m) (ev F k) K
 | .mapUpdate t m k v=>mapUpdateK tt t L (ev F m) (ev F k) (ev F v) fun L'=>K (.d .any) L'
 | .insert t m k v=>mapUpdateK tt t L (ev F m) (ev F k) (ev F v) fun L'=>K (.d .any) L'
 | .build t parts=>evPartsK F parts.toList fun ps=>buildK tt t ps fun v=>K v L
 | .buildSlice t len parts=>evPartsK F parts.toList fun ps=>buildSliceK tt t len ps L K
 | .makeSlice t l c=>makeSliceK tt t (ev F l) (ev F c) L K
 | .load t a=>ttK tt t fun i=>loadK i L (ev F a) fun v=>movK v fun v=>K v L
 | .store t a v=>storeAllK tt t L (ev F a) (ev F v) fun L'=>K (.d .any) L'
 | .nilCheck x=>nilCheckK (ev F x) fun v=>K v L
 | .binOp op t x y _=>bif isNilSl y then binLK tt op t L (ev F x) (ev F y) fun v=>K v L else bif isAggA (ev F x) then aggK P op t (ev F x) (ev F y) fun v=>K v L else binK tt op t (ev F x) (ev F y) fun v=>K v L
 | .unOp op _ x=>unK op (ev F x) fun v=>K v L
 | .convert s d x=>convertK tt s d L (ev F x) K
 | .slice t x lo hi mx=>noneK mx (sliceK tt t L (ev F x) (optEv F lo) (optEv F hi) K)
 | .fieldAddr s x k=>fieldAddrK tt s k L (ev F x) fun v=>K v L
 | .field s x k=>fieldK tt s k (ev F x) fun v=>movK v fun v=>K v L
 | .indexAddr t x ix=>indexAddrK tt t L (ev F x) (ev F ix) fun v=>K v L
 | .index t x ix=>indexK tt t (ev F x) (ev F ix) fun v=>K v L
 | .extract x k=>extractK (ev F x) k fun v=>movK v fun v=>K v L
 | .call c=>callOpK P tt fo c F L K
 | .makeFunc fn first caps=>mkFnK fn first.toList fun f=>evsK F caps.toList fun l=>K (.fn f l) L
 | .range t x=>rangeSK tt t L (ev F x) K
 | .next x str=>nextSK str L (ev F x) K
 | _=>False
theorem lessK_ok {P:Program} {w:World} {ts:Array TypeId} {ty:TypeId} {mx:Bool} {x y:AV} {K:AV→Prop} (h:lessK mx x y K) {R:RC} {u v:Value} (hu:VR R x u) (hv:VR R y v) :
  ∃ r av,((match mx with|true=>Builtin.max_ ts ty #[u,v]|false=>Builtin.min_ ts ty #[u,v]):Sem Value).run P w = .ok r w∧K av∧VR R av r:=by
 unfold lessK at h
 split at h
 ·rename_i k a k' b
  simp only [VR,VD] at hu hv
  subst hu;subst hv
  cases mx with
  | true=>exact ⟨.int k (if b>a then b else a),_,by simp [Builtin.max_,Builtin.max2],h,by simp only [VR,VD];congr 1;omega⟩
  | false=>exact ⟨.int k (if b<a then b else a),_,by simp [Builtin.min_,Builtin.min2],h,by simp only [VR,VD];congr 1;omega⟩
 ·exact h.elim
def FOok (P:Program) (fo:FuncId→Bool):Prop:=∀ f,fo f=true→∃ fn,P.funcs[f]? = some fn∧(fn.name == "runtime.NumGoroutine")=false∧fn.body.isNone=false
def ZOok (tt:TypeId→Option TI):Prop:=∀ t i,tt t=some i→i.zero.cells.size=i.size
def OpPost (c:Ctx) (F:AF) (a:Act) (K:AV→List AB→Prop) (av:AV) (v:Value) (w':World):Prop:=∃ E' L',K av L'∧Sim c E' F L' a w'∧VR (rcOf c.M0 E' L' w') av v
def OpRes (P:Program) (o:Oper) (c:Ctx) (F:AF) (L:List AB) (a:Act) (w:World) (K:AV→List AB→Prop):Prop :=
 (∃ v w' av,(execOp a.eval o).run P w = .ok (.value v) w'∧OpPost c F a K av v w') ∨
 (∃ w' av,(execOp a.eval o).run P w = .ok .skip w'∧OpPost c F a K av undef w') ∨
 (∃ f vs w',(execOp a.eval o).run P w = .ok (.enter f vs) w'∧Calls P f vs w' fun e w''=>∃ v av,e = .returned v∧OpPost c F a K av v w'')
section
variable {P:Program} {tt:TypeId→Option TI} {fo:FuncId→Bool}
theorem VRt_evs {c:Ctx} {E:Nat→Option Nat} {F:AF} {L:List AB} {a:Act} {w:World} (h:Sim c E F L a w):∀ (l:List Operand),VRt (rcOf c.M0 E L w) (evs F l) (l.map a.eval)
 | []=>by simp [evs,VRt]
 | x :: r=>by
   simp only [evs,List.map_cons,VRt]
   exact ⟨_,_,rfl,h.ev x,VRt_evs h r⟩
theorem VRt_append {R:RC}:∀ {xs ys:List AV} {us vs:List Value},VRt R xs us→VRt R ys vs→VRt R (xs++ys) (us++vs)
 | [],ys,us,vs,h,k=>by simp only [VRt] at h;subst h;simpa using k
 | x :: xs,ys,us,vs,h,k=>by
   simp only [VRt] at h
   obtain ⟨u,us',rfl,h1,h2⟩:=h
   simp only [List.cons_append,VRt]
   exact ⟨u,us'++vs,rfl,h1,VRt_append h2 k⟩
theorem optEv_ok {c:Ctx} {E:Nat→Option Nat} {F:AF} {L:List AB} {a:Act} {w:World} (h:Sim c E F L a w) (x:Option Operand) :
  (∀ y,optEv F x=some y→∃ u,x.map a.eval=some u∧VR (rcOf c.M0 E L w) y u)∧(optEv F x=none→x.map a.eval=none):=by
 cases x with
 | none=>exact ⟨(fun y h=>by cases h),fun _=>rfl⟩
 | some x=>exact ⟨fun y hy=>by simp only [optEv,Option.some.injEq] at hy;subst hy;exact ⟨_,rfl,h.ev x⟩,(fun h=>by cases h)⟩
theorem evParts_ok {c:Ctx} {E:Nat→Option Nat} {F:AF} {L:List AB} {a:Act} {w:World} (h:Sim c E F L a w) (parts:Array (Nat×Operand)) :
  (parts.map fun (i,x)=>(i,a.eval x)).size=(evParts F parts.toList).length ∧
  ∀ (j i:Nat) (x:AV),(evParts F parts.toList)[j]? = some (i,x)→∃ v,(parts.map fun (i,x)=>(i,a.eval x))[j]? = some (i,v)∧VR (rcOf c.M0 E L w) x v:=by
 refine ⟨by simp [evParts],fun j i x hx => ?_⟩
 simp only [evParts,List.getElem?_map] at hx
 cases hp:parts.toList[j]? with
 | none=>rw [hp] at hx;cases hx
 | some p =>
   rw [hp] at hx
   simp only [Option.map_some,Option.some.injEq,Prod.mk.injEq] at hx
   obtain ⟨rfl,rfl⟩:=hx
   have:parts[j]? = some p:=by simpa using hp
   exact ⟨a.eval p.2,by simp [this],h.ev p.2⟩
theorem run_builtin_len (a:Act) (o:Oper) (x:Operand) (ts:Array TypeId) (ho:o.op = .call { callee := .builtin .len,args := #[x],argTypes:=ts }) {w:World} {v:Value}
  (h:(Builtin.len_ ts o.type #[a.eval x]).run P w = .ok v w):(execOp a.eval o).run P w = .ok (.value v) w:=by
 simp [execOp,ho,resolve,invoke,builtin,h]
theorem lenAllK_ok (ht:TTok P tt) {t:TypeId} {i:TI} (hi:tt t=some i) {c:Ctx} {E:Nat→Option Nat} {L:List AB} {w:World} (hs:SimH c E L w) {x:AV} {K:AV→Prop} (h:lenAllK L i.desc x K) {v:Value} (hv:VR (rcOf c.M0 E L w) x v)
  (ts:Array TypeId) (rt:TypeId) (hts:ts[0]? = some t):∃ z:Int,(Builtin.len_ ts rt #[v]).run P w = .ok (.int .i64 z) w∧K (.d (.int .i64 z)):=by
 unfold lenAllK at h
 split at h
 ·exact mapLenK_ok ht hs hi h hv ts rt hts
 ·exact lenK'_ok ht hi hs h hv ts rt hts
theorem run_builtin_delete (a:Act) (o:Oper) (s x:Operand) (ts:Array TypeId) (ho:o.op = .call { callee := .builtin .delete,args := #[s,x],argTypes:=ts }) {w w':World} {v:Value}
  (h:(Builtin.delete_ ts o.type #[a.eval s,a.eval x]).run P w = .ok v w'):(execOp a.eval o).run P w = .ok (.value v) w':=by
 simp [execOp,ho,resolve,invoke,builtin,h]
theorem run_builtin_append (a:Act) (o:Oper) (s x:Operand) (ts:Array TypeId) (ho:o.op = .call { callee := .builtin .append,args := #[s,x],argTypes:=ts }) {w w':World} {v:Value}
  (h:(Builtin.append_ ts o.type #[a.eval s,a.eval x]).run P w = .ok v w'):(execOp a.eval o).run P w = .ok (.value v) w':=by
 simp [execOp,ho,resolve,invoke,builtin,h]
theorem run_builtin_copy (a:Act) (o:Oper) (s x:Operand) (ts:Array TypeId) (ho:o.op = .call { callee := .builtin .copy,args := #[s,x],argTypes:=ts }) {w w':World} {v:Value}
  (h:(Builtin.copy_ ts o.type #[a.eval s,a.eval x]).run P w = .ok v w'):(execOp a.eval o).run P w = .ok (.value v) w':=by
 simp [execOp,ho,resolve,invoke,builtin,h]
theorem run_call_fn (hfo:FOok P fo) (a:Act) (o:Oper) (cl:Call) (f:Operand) (ho:o.op = .call cl) (hf:cl.callee = .value f) {g:FuncId} (hg:fo g=true) {us:Array Value} (hev:a.eval f = .func (.func g) #[] us) (w:World) :
  (execOp a.eval o).run P w = .ok (.enter g (cl.args.map a.eval++us)) w:=by
 obtain ⟨fn,h1,h2,h3⟩:=hfo g hg
 have h4:¬fn.name = "runtime.NumGoroutine" := by simpa using h2
 have h5:¬fn.body=none:=by intro e;rw [e] at h3;cases h3
 simp [execOp,ho,resolve,hf,hev,Deferred.ofValue,invoke,callFunc,h1,h4,h5]
theorem aopK_ok (ht:TTok P tt) (hz:ZOok tt) (hfo:FOok P fo) {o:Oper} {c:Ctx} (hc:c.wf) {E:Nat→Option Nat} {F:AF} {L:List AB} {a:Act} {w:World} {K:AV→List AB→Prop}
  (h:aopK P tt fo o F L K) (hs:Sim c E F L a w):OpRes P o c F L a w K:=by
 -- three ways to end
 have val:∀ {v:Value} {av:AV},(execOp a.eval o).run P w = .ok (.value v) w→VR (rcOf c.M0 E L w) av v→K av L→OpRes P o c F L a w K :=
  fun hr hv hK => .inl ⟨_,w,_,hr,E,L,hK,hs,hv⟩
 have valL:∀ {v:Value} {w':World} {E':Nat→Option Nat} {av:AV} {L':List AB},(execOp a.eval o).run P w = .ok (.value v) w'→K av L'→SimH c E' L' w'→(rcOf c.M0 E L w).le (rcOf c.M0 E' L' w')→VR (rcOf c.M0 E' L' w') av v→OpRes P o c F L a w K :=
  fun hr hK hs' hle hv => .inl ⟨_,_,_,hr,_,_,hK,hs.mono hs' hle,hv⟩
 unfold aopK at h
 split at h
 ·rename_i x ho
  exact val (by simp [execOp,ho]) (hs.ev x) (movK_ok h)
 ·rename_i x ho
  cases hn:isNilSl x with
  | false=>rw [hn] at h;simp only [cond_false] at h;exact val (by simp [execOp,ho]) (hs.ev x) (movK_ok h)
  | true =>
    rw [hn] at h
    have hx:x = .const (.slice none 0 0):=by
     revert hn
     unfold isNilSl
     split<;>simp
    subst hx
    obtain ⟨E',av,L',h1,h2,h3,h4⟩:=nilRowK_ok ht hc hs.h h
    exact valL (by simp [execOp,ho];rfl) h1 h2 h3 h4
 ·rename_i cc x y ho
  split at h
  ·rename_i t hcv
   have hb:=hs.ev cc
   rw [hcv] at hb
   simp only [VR,VD] at hb
   cases t with
   | true=>simp only [splitB] at h;exact val (by simp [execOp,ho,hb,asBool]) (hs.ev x) (movK_ok h)
   | false=>simp only [splitB] at h;exact val (by simp [execOp,ho,hb,asBool]) (hs.ev y) (movK_ok h)
  ·exact h.elim
 ·rename_i t ho
  obtain ⟨r,w',E',av,L',h1,h2,h3,h4,h5⟩:=allocTK_ok ht hc hs.h h
  exact valL (by simp [execOp,ho,h1]) h2 h3 h4 h5
 ·rename_i t x ho
  obtain ⟨r,w',E',av,L',h1,h2,h3,h4,h5⟩:=boxTK_ok ht hc hs.h h t (hs.ev x)
  exact valL (by simp [execOp,ho,h1]) h2 h3 h4 h5
 ·rename_i t r ho
  obtain ⟨rfl,h⟩:=noneK_ok h
  obtain ⟨r,w',E',av,L',h1,h2,h3,h4,h5⟩:=makeMapK_ok (P:=P) hc hs.h h t
  exact valL (by simp [execOp,ho,h1]) h2 h3 h4 h5
 ·rename_i t m k ok ho
  obtain ⟨r,av,h1,h2,h3⟩:=lookupK_ok ht hs.h h (hs.ev m) (hs.ev k)
  exact val (by simp [execOp,ho,h1]) h3 h2
 ·rename_i t m k v ho
  obtain ⟨w',L',h2,h3,h4,h5⟩:=mapUpdateK_ok ht hc hs.h h (hs.ev m) (hs.ev k) (hs.ev v)
  exact .inr (.inl ⟨w',.d .any,by simp [execOp,ho,h2],E,L',h3,hs.mono h4 h5,by simp [VR,VD]⟩)
 ·rename_i t m k v ho
  obtain ⟨w',L',h2,h3,h4,h5⟩:=mapUpdateK_ok ht hc hs.h h (hs.ev m) (hs.ev k) (hs.ev v)
  exact .inr (.inl ⟨w',.d .any,by simp [execOp,ho,h2],E,L',h3,hs.mono h4 h5,by simp [VR,VD]⟩)
 ·rename_i t parts ho
  obtain ⟨hl,hp⟩:=evParts_ok hs parts
  obtain ⟨r,av,h1,h2,h3⟩:=buildK_ok (P:=P) ht (evPartsK_ok h) hl hp
  exact val (by simp [execOp,ho,h1]) h3 h2
 ·rename_i t len parts ho
  obtain ⟨hl,hp⟩:=evParts_ok hs parts
  obtain ⟨r,w',E',av,L',h1,h2,h3,h4,h5⟩:=buildSliceK_ok ht hc hs.h (evPartsK_ok h) hl hp
  exact valL (by simp [execOp,ho,h1]) h2 h3 h4 h5
 ·rename_i t x y ho
  obtain ⟨r,w',E',av,L',h1,h2,h3,h4,h5⟩:=makeSliceK_ok (P:=P) ht hc hs.h h (hs.ev x) (hs.ev y)
  exact valL (by simp [execOp,ho,h1]) h2 h3 h4 h5
 ·rename_i t x ho
  obtain ⟨i,hi,h1⟩:=ttK_ok h
  obtain ⟨r,av,h2,h3,h4⟩:=loadK_ok ht hi hs.h h1 (hs.ev x)
  exact val (by simp [execOp,ho,h2]) h4 (movK_ok h3)
 ·rename_i t x y ho
  obtain ⟨w',L',h2,h3,h4,h5⟩:=storeAllK_ok ht hc hs.h h (hs.ev x) (hs.ev y)
  exact .inr (.inl ⟨w',.d .any,by simp [execOp,ho,h2],E,L',h3,hs.mono h4 h5,by simp [VR,VD]⟩)
 ·rename_i x ho
  obtain ⟨p,h1,h2⟩:=nilCheckK_ok h (hs.ev x)
  exact val (v := .pointer (some p)) (by simp [execOp,ho,h1]) (by rw [← h1];exact hs.ev x) h2
 ·rename_i op t x y yt ho
  have key:∃ r av,(eqGuard op t x y (a.eval x) (a.eval y)).run P w = .ok () w∧(binOp op t (a.eval x) (a.eval y)).run P w = .ok r w∧K av L∧∀ R,VR R av r:=by
   cases hn:isNilSl y with
   | true=>rw [hn] at h;simp only [cond_true] at h;exact binLK_ok (P:=P) (w:=w) ht hc hs.h h (hs.ev x) (hs.ev y) x y
   | false =>
     rw [hn] at h
     simp only [cond_false] at h
     cases ha:isAggA (ev F x) with
     | true=>rw [ha] at h;simp only [cond_true] at h;exact aggK_ok (P:=P) (w:=w) h (hs.ev x) (hs.ev y) x y
     | false=>rw [ha] at h;simp only [cond_false] at h;exact binK_ok (P:=P) (w:=w) ht h (hs.ev x) (hs.ev y) x y
  obtain ⟨r,av,h1,h2,h3,h4⟩:=key
  exact val (by simp [execOp,ho,h1,h2]) (h4 _) h3
 ·rename_i op t x ho
  obtain ⟨r,av,h1,h2,h3⟩:=unK_ok (P:=P) (w:=w) h (hs.ev x)
  exact val (by simp [execOp,ho,h1]) h3 h2
 ·rename_i s d x ho
  obtain ⟨r,w',E',av,L',h1,h2,h3,h4,h5⟩:=convertK_ok ht hc hs.h h (hs.ev x)
  exact valL (by simp [execOp,ho,h1]) h2 h3 h4 h5
 ·rename_i t x lo hi mx ho
  obtain ⟨rfl,h⟩:=noneK_ok h
  obtain ⟨l1,l2⟩:=optEv_ok hs lo
  obtain ⟨m1,m2⟩:=optEv_ok hs hi
  obtain ⟨r,av,L',h1,h2,h3,h4,h5⟩:=sliceK_ok ht hc hs.h h (hs.ev x) l1 l2 m1 m2
  exact valL (by simp [execOp,ho,h1]) h2 h3 h4 h5
 ·rename_i s x k ho
  obtain ⟨r,av,h1,h2,h3⟩:=fieldAddrK_ok (P:=P) ht h (hs.ev x)
  exact val (by simp [execOp,ho,h1]) h3 h2
 ·rename_i s x k ho
  obtain ⟨r,av,h1,h2,h3⟩:=fieldK_ok (P:=P) (w:=w) ht h (hs.ev x)
  exact val (by simp [execOp,ho,h1]) h3 (movK_ok h2)
 ·rename_i t x ix ho
  obtain ⟨r,av,h1,h2,h3⟩:=indexAddrK_ok ht hs.h h (hs.ev x) (hs.ev ix)
  exact val (by simp [execOp,ho,h1]) h3 h2
 ·rename_i t x ix ho
  obtain ⟨r,av,h1,h2,h3⟩:=indexK_ok (P:=P) (w:=w) ht h (hs.ev x) (hs.ev ix)
  exact val (by simp [execOp,ho,h1]) h3 h2
 ·rename_i x k ho
  obtain ⟨r,av,h1,h2,h3⟩:=extractK_ok (P:=P) (w:=w) h (hs.ev x)
  exact val (by simp [execOp,ho,h1]) h3 (movK_ok h2)
 ·rename_i cl ho
  unfold callOpK at h
  split at h
  ·rename_i f hf
   have h1:=movK_ok h
   split at h1
   ·rename_i g caps hg
    cases hfg:fo g with
    | false=>rw [hfg] at h1;exact h1.elim
    | true =>
      rw [hfg] at h1
      have h1:=evsK_ok h1
      have hfe:=hs.ev f
      rw [hg] at hfe
      simp only [VR] at hfe
      obtain ⟨us,hfe1,hfe2⟩:=hfe
      refine .inr (.inr ⟨g,_,w,run_call_fn hfo a o cl f ho hf hfg hfe1 w,?_⟩)
      have h1:(nilsKs tt cl.argTypes.toList (evs F cl.args.toList) fun avs=>callK P g (avs++caps) L K)∨rowArgsK tt cl.argTypes.toList (evs F cl.args.toList) L fun avs L=>callRawK P g (avs++caps) L K:=by
       cases hb:anyArrT tt cl.argTypes.toList (evs F cl.args.toList) with
       | true=>rw [hb] at h1;exact h1
       | false=>rw [hb] at h1;exact .inl h1
      rcases h1 with h1|h1
      rotate_left
      ·obtain ⟨E1,avs',L1,h2,hs1,hle1,hv1⟩:=rowArgsK_ok ht hc hs.h h1 (VRt_evs hs cl.args.toList)
       have hargs:VRt (rcOf c.M0 E1 L1 w) (avs'++caps) (cl.args.map a.eval++us).toList:=by
        have:=VRt_append hv1 (VRt.mono hle1 _ _ hfe2)
        simpa using this
       refine (callRawK_ok hc hs1 h2 hargs).mono ?_
       rintro e w' ⟨v,av,E',L',rfl,k1,k2,k3,k4⟩
       exact ⟨v,av,rfl,E',L',k1,hs.mono k2 (hle1.trans k3),k4⟩
      obtain ⟨avs',h2,hnil⟩:=nilsKs_ok h1
      have hargs:VRt (rcOf c.M0 E L w) (avs'++caps) (cl.args.map a.eval++us).toList:=by
       have:=VRt_append (hnil _ _ (VRt_evs hs cl.args.toList)) hfe2
       simpa using this
      refine (callK_ok hc hs.h h2 hargs).mono ?_
      rintro e w' ⟨v,av,E',L',rfl,k1,k2,k3,k4⟩
      exact ⟨v,av,rfl,E',L',k1,hs.mono k2 k3,k4⟩
   ·exact h1.elim
  ·rename_i hf
   split at h
   ·rename_i x y hargs
    have ea:cl.args = #[x,y]:=by rw [← Array.toArray_toList (xs:=cl.args),hargs]
    obtain ⟨r,av,h2,h3,h4⟩:=lessK_ok (P:=P) (w:=w) (ts:=cl.argTypes) (ty:=o.type) h (hs.ev x) (hs.ev y)
    exact val (by
     have h2':=h2
     simp only at h2'
     simp [execOp,ho,resolve,hf,invoke,builtin,ea,h2']) h4 h3
   ·exact h.elim
  ·rename_i hf
   split at h
   ·rename_i x y hargs
    have ea:cl.args = #[x,y]:=by rw [← Array.toArray_toList (xs:=cl.args),hargs]
    obtain ⟨r,av,h2,h3,h4⟩:=lessK_ok (P:=P) (w:=w) (ts:=cl.argTypes) (ty:=o.type) h (hs.ev x) (hs.ev y)
    exact val (by
     have h2':=h2
     simp only at h2'
     simp [execOp,ho,resolve,hf,invoke,builtin,ea,h2']) h4 h3
   ·exact h.elim
  ·rename_i hf
   split at h
   ·rename_i x y hargs
    have ea:cl.args = #[x,y]:=by rw [← Array.toArray_toList (xs:=cl.args),hargs]
    obtain ⟨r,av,h2,h3,h4⟩:=cplxK_ok (P:=P) (w:=w) (ts:=cl.argTypes) (ty:=o.type) h (hs.ev x) (hs.ev y)
    exact val (by simp [execOp,ho,resolve,hf,invoke,builtin,ea,h2]) h4 h3
   ·exact h.elim
  ·rename_i hf
   split at h
   ·rename_i x hargs
    have ea:cl.args = #[x]:=by rw [← Array.toArray_toList (xs:=cl.args),hargs]
    obtain ⟨r,av,h2,h3,h4⟩:=partK_ok (P:=P) (w:=w) (ts:=cl.argTypes) (ty:=o.type) h (hs.ev x)
    simp only at h2
    exact val (by simp [execOp,ho,resolve,hf,invoke,builtin,ea,h2]) h4 h3
   ·exact h.elim
  ·rename_i hf
   split at h
   ·rename_i x hargs
    have ea:cl.args = #[x]:=by rw [← Array.toArray_toList (xs:=cl.args),hargs]
    obtain ⟨r,av,h2,h3,h4⟩:=partK_ok (P:=P) (w:=w) (ts:=cl.argTypes) (ty:=o.type) h (hs.ev x)
    simp only at h2
    exact val (by simp [execOp,ho,resolve,hf,invoke,builtin,ea,h2]) h4 h3
   ·exact h.elim
  ·rename_i hf
   split at h
   ·rename_i x t hargs htys
    obtain ⟨i,hi,h1⟩:=ttK_ok h
    have ea:cl.args = #[x]:=by rw [← Array.toArray_toList (xs:=cl.args),hargs]
    have et:cl.argTypes = #[t]:=by rw [← Array.toArray_toList (xs:=cl.argTypes),htys]
    obtain ⟨z,h2,h3⟩:=lenAllK_ok (P:=P) ht hi hs.h h1 (hs.ev x) #[t] o.type (by simp)
    exact val (run_builtin_len a o x #[t] (by rw [ho];cases cl;simp_all) h2) (by simp [VR,VD]) h3
   ·exact h.elim
  ·rename_i hf
   split at h
   ·rename_i x k t ts hargs htys
    have ea:cl.args = #[x,k]:=by rw [← Array.toArray_toList (xs:=cl.args),hargs]
    have et:cl.argTypes[0]? = some t:=by rw [← Array.getElem?_toList,htys];rfl
    obtain ⟨w',L',h2,h3,h4,h5⟩:=deleteK_ok ht hc hs.h h (hs.ev x) (hs.ev k) cl.argTypes et o.type
    exact .inl ⟨_,w',.d .any,run_builtin_delete a o x k cl.argTypes (by rw [ho];cases cl;simp_all) h2,E,L',h3,hs.mono h4 h5,by simp [VR,VD]⟩
   ·exact h.elim
  ·rename_i hf
   split at h
   ·rename_i s x t t' hargs htys
    cases hb:Nat.beq t t' with
    | false =>
      rw [hb] at h
      simp only [cond_false] at h
      have ea:cl.args = #[s,x]:=by rw [← Array.toArray_toList (xs:=cl.args),hargs]
      have et:cl.argTypes = #[t,t']:=by rw [← Array.toArray_toList (xs:=cl.argTypes),htys]
      obtain ⟨r,w',E',av,L',m1,m2,m3,m4,m5⟩:=appendXK_ok ht hz hc hs.h h o.type (hs.ev s) (hs.ev x)
      exact valL (run_builtin_append a o s x #[t,t'] (by rw [ho];cases cl;simp_all) m1) m2 m3 m4 m5
    | true =>
      rw [hb] at h
      have:=Nat.eq_of_beq_eq_true hb
      subst this
      simp only [cond_true] at h
      have ea:cl.args = #[s,x]:=by rw [← Array.toArray_toList (xs:=cl.args),hargs]
      have et:cl.argTypes = #[t,t]:=by rw [← Array.toArray_toList (xs:=cl.argTypes),htys]
      unfold appendK at h
      obtain ⟨i,hi,h1⟩:=ttK_ok h
      split at h1
      ·rename_i e he
       obtain ⟨ei,hei,h2⟩:=ttK_ok h1
       have hd:i.desc = .slice e:=by
        revert he
        cases i.desc<;>simp [sliceElem]
       obtain ⟨hut,_⟩:=ht t i hi
       rw [hd] at hut
       cases hb2:(Nat.beq ei.size 0||Nat.beq ei.bytes 0) with
       | true=>rw [hb2] at h2;exact h2.elim
       | false =>
         rw [hb2] at h2
         simp only [cond_false] at h2
         simp only [Bool.or_eq_false_iff] at hb2
         have hn:0<ei.size:=by
          rcases Nat.eq_zero_or_pos ei.size with h|h
          ·rw [h] at hb2;cases hb2.1
          ·exact h
         have hby:0<ei.bytes:=by
          rcases Nat.eq_zero_or_pos ei.bytes with h|h
          ·rw [h] at hb2;cases hb2.2
          ·exact h
         obtain ⟨ys,k1,k4⟩:=srcAK_ok hs.h hn h2 (hs.ev x)
         obtain ⟨r,w',E',av,L',m1,m2,m3,m4,m5⟩:=appendTo_ok ht hut hei (hz e ei hei) hn hby hc hs.h k1 o.type (hs.ev s) k4
         exact valL (run_builtin_append a o s x #[t,t] (by rw [ho];cases cl;simp_all) m1) m2 m3 m4 m5
      ·exact h1.elim
   ·exact h.elim
  ·rename_i hf
   split at h
   ·rename_i s x t t' hargs htys
    have ea:cl.args = #[s,x]:=by rw [← Array.toArray_toList (xs:=cl.args),hargs]
    have et:cl.argTypes = #[t,t']:=by rw [← Array.toArray_toList (xs:=cl.argTypes),htys]
    obtain ⟨r,w',av,L',m1,m2,m3,m4,m5⟩:=copyK_ok (t':=t') ht hc hs.h h o.type (hs.ev s) (hs.ev x)
    exact valL (run_builtin_copy a o s x #[t,t'] (by rw [ho];cases cl;simp_all) m1) m2 m3 m4 m5
   ·exact h.elim
  ·exact h.elim
 ·rename_i fn first caps ho
  obtain ⟨f,rfl,hf0,h⟩:=mkFnK_ok h
  have hfe:first = #[]:=by rw [← Array.toArray_toList (xs:=first),hf0]
  subst hfe
  refine val (v := .func (.func f) #[] (caps.map a.eval)) (by simp [execOp,ho,Instr.makeFunc]) ?_ (evsK_ok h)
  simp only [VR]
  exact ⟨_,rfl,by simpa using VRt_evs hs caps.toList⟩
 ·rename_i t x ho
  obtain ⟨r,w',E',av,L',h1,h2,h3,h4,h5⟩:=rangeSK_ok (P:=P) ht hc hs.h h (hs.ev x)
  exact valL (by simp [execOp,ho,h1]) h2 h3 h4 h5
 ·rename_i x str ho
  obtain ⟨r,w',av,L',h1,h2,h3,h4,h5⟩:=nextSK_ok (P:=P) hs.h h o.type (hs.ev x)
  exact valL (by simp [execOp,ho,h1]) h2 h3 h4 h5
 ·exact h.elim
end
end
end Go.Ab
namespace Go.Ab
noncomputable section
open Go.RowKit
def AW (P:Program) (n k0:Nat) (code:Code) (Q:Exit→AF→List AB→Prop) (F:AF) (L:List AB):Prop :=
 ∀ (c:Ctx) (E:Nat→Option Nat) (a:Act) (w:World),c.wf→c.n=n→c.L0.length=k0→Sim c E F L a w →
   code.wp P (fun x a' w'=>∃ E' F' L',Sim c E' F' L' a' w'∧Q x F' L') a w
theorem AW.mono {P:Program} {n k0:Nat} {code:Code} {Q Q':Exit→AF→List AB→Prop} {F:AF} {L:List AB} (h:AW P n k0 code Q F L) (hq:∀ x F L,Q x F L→Q' x F L):AW P n k0 code Q' F L :=
 fun c E a w h1 h2 h3 h4=>wp_mono (h c E a w h1 h2 h3 h4) fun _ _ _ ⟨E',F',L',k1,k2⟩=>⟨E',F',L',k1,hq _ _ _ k2⟩
def dstOk (n:Nat):Option Nat→Bool
 | none=>true
 | some d=>Nat.blt d n
theorem dstOk_ok {n:Nat} {d:Option Nat} (h:dstOk n d=true):∀ x,d=some x→x<n:=by
 intro x hx
 subst hx
 simp only [dstOk] at h
 exact Nat.lt_of_lt_of_le (Nat.lt_succ_self _) (Nat.le_of_ble_eq_true h)
noncomputable def nthDst (l:List Oper):Nat→Option Nat :=
 List.rec (motive:=fun _=>Nat→Option Nat) (fun _=>none) (fun o _ ih j=>Nat.rec (motive:=fun _=>Option Nat) o.dst (fun m _=>ih m) j) l
theorem nthDst_ok:∀ {ops:List Oper} {j:Nat} {s:Nat},nthDst ops j=some s→∃ o,ops[j]? = some o∧o.dst=some s
 | [],_,_,h=>by cases h
 | o :: _,0,s,h=>⟨o,by simp,h⟩
 | _ :: r,j+1,s,h=>by
   obtain ⟨o,h1,h2⟩:=nthDst_ok (ops:=r) h
   exact ⟨o,by simpa using h1,h2⟩
def aopsK (P:Program) (tt:TypeId→Option TI) (fo:FuncId→Bool) (n:Nat) (full:List Oper):List Oper→AF→List AB→(AF→List AB→Prop)→Prop
 | [],F,L,K=>K F L
 | o :: r,F,L,K =>
   bif dstOk n o.dst then
    match o.guard with
    | none=>aopK P tt fo o F L fun v L'=>aopsK P tt fo n full r (fput F o.dst v) L' K
    | some (j,want)=>match nthDst full j with
      | some s=>match fget F s with
        | .d (.bool t)=>match want with
          | true=>splitB t (aopK P tt fo o ((s,.d (.bool true)) :: F) L fun v L'=>aopsK P tt fo n full r (fput ((s,.d (.bool true)) :: F) o.dst v) L' K)
             (aopsK P tt fo n full r (fput ((s,.d (.bool false)) :: F) o.dst (.tup [])) L K)
          | false=>splitB t (aopsK P tt fo n full r (fput ((s,.d (.bool true)) :: F) o.dst (.tup [])) L K)
             (aopK P tt fo o ((s,.d (.bool false)) :: F) L fun v L'=>aopsK P tt fo n full r (fput ((s,.d (.bool false)) :: F) o.dst v) L' K)
        | .tup cs=>match cs with
          | []=>aopsK P tt fo n full r (fput F o.dst (.tup [])) L K
          | _=>False
        | _=>False
      | none=>False
   else False
section
variable {P:Program} {tt:TypeId→Option TI} {fo:FuncId→Bool} {n:Nat}
theorem opRes_wp {o:Oper} {c:Ctx} (hn:∀ x,o.dst=some x→x<c.n) {F:AF} {L:List AB} {a:Act} {w:World} {K:AV→List AB→Prop} (h:OpRes P o c F L a w K)
  {K':Act→World→Prop} {Q:Exit→Act→World→Prop} (hK:∀ av L' E' a' w',K av L'→Sim c E' (fput F o.dst av) L' a' w'→K' a' w'):o.wp P a w K' Q:=by
 unfold Oper.wp
 rcases h with ⟨v,w',av,hr,E',L',h1,h2,h3⟩|⟨w',av,hr,E',L',h1,h2,h3⟩|⟨f,vs,w',hr,hcall⟩
 ·rw [hr];exact hK av L' E' _ w' h1 (h2.put o.dst av v hn h3)
 ·rw [hr];exact hK av L' E' _ w' h1 (h2.put o.dst av undef hn h3)
 ·rw [hr]
  refine hcall.mono ?_
  rintro e w'' ⟨v,av,rfl,E',L',h1,h2,h3⟩
  exact hK av L' E' _ w'' h1 (h2.put o.dst av v hn h3)
theorem Sim.know {c:Ctx} {E:Nat→Option Nat} {F:AF} {L:List AB} {a:Act} {w:World} (h:Sim c E F L a w) {s:Nat} {x:AV} (hx:fget F s=x):Sim c E ((s,x) :: F) L a w :=
 h.weak fun s'=>by
  simp only [fget_nil,fget_cons]
  cases hb:Nat.beq s s' with
  | true=>left;rw [← Nat.eq_of_beq_eq_true hb,hx];rfl
  | false=>left;rfl
theorem aopsK_ok (ht:TTok P tt) (hz:ZOok tt) (hfo:FOok P fo) {full:List Oper} {c:Ctx} (hc:c.wf) (hcn:c.n=n) {Q:Exit→Act→World→Prop} {K:AF→List AB→Prop} :
  ∀ {ops:List Oper} {E:Nat→Option Nat} {F:AF} {L:List AB} {a:Act} {w:World},aopsK P tt fo n full ops F L K→Sim c E F L a w →
    (∀ E' F' L' a' w',K F' L'→Sim c E' F' L' a' w'→Q .normal a' w')→wpList P full.toArray Q ops a w
 | [],E,F,L,a,w,h,hs,hq=>hq E F L a w h hs
 | o :: r,E,F,L,a,w,h,hs,hq=>by
   simp only [aopsK] at h
   cases hd:dstOk n o.dst with
   | false=>rw [hd] at h;exact h.elim
   | true =>
     rw [hd] at h
     simp only [cond_true] at h
     have hdn:∀ x,o.dst=some x→x<c.n:=by rw [hcn];exact dstOk_ok hd
     split at h
     ·rename_i hg
      refine wpList_plain hg fun K' hK' => ?_
      refine opRes_wp hdn (aopK_ok ht hz hfo hc h hs) ?_
      intro av L' E' a' w' hk hs'
      exact hK' _ _ (aopsK_ok ht hz hfo hc hcn hk hs' hq)
     ·rename_i j want hg
      split at h
      ·rename_i s hs0
       obtain ⟨og,hog,hogd⟩:=nthDst_ok hs0
       split at h
       ·rename_i t htv
        have hb:=hs.slots s
        rw [htv] at hb
        simp only [VR,VD] at hb
        -- what the guard reads
        have hy:t=true∨t=false:=by cases t<;>simp
        have hslot:yielded full.toArray a.tmps j=some t:=by
         unfold yielded
         have:full.toArray[j]? = some og:=by simpa using hog
         simp only [this,Option.bind_some,hogd]
         by_cases hlt:s<a.tmps.size
         ·have:a.tmps[s]? = some (a.tmps.getD s undef):=by simp [hlt]
          rw [this,hb]
         ·exfalso
          have:a.tmps.getD s undef=undef:=by simp [Nat.le_of_not_lt hlt]
          rw [this] at hb
          cases hb
        have hw:Region.wanted o (yielded full.toArray a.tmps)=decide (t=want):=by
         unfold Region.wanted
         rw [hg]
         simp only [hslot]
         cases t<;>cases want<;>rfl
        have hsk:∀ b,t=b→Sim c E ((s,.d (.bool b)) :: F) L a w:=fun b hb'=>hs.know (by rw [htv,hb'])
        -- the operation runs
        have run:∀ b,t=b→t=want→(aopK P tt fo o ((s,.d (.bool b)) :: F) L fun v L'=>aopsK P tt fo n full r (fput ((s,.d (.bool b)) :: F) o.dst v) L' K)→wpList P full.toArray Q (o :: r) a w:=by
         intro b hb' hwant hop
         refine wpList_step fun K' hK' => ?_
         rw [hw,if_pos (by simpa using hwant)]
         refine opRes_wp hdn (aopK_ok ht hz hfo hc hop (hsk b hb')) ?_
         intro av L' E' a' w' hk hs'
         exact hK' _ _ (aopsK_ok ht hz hfo hc hcn hk hs' hq)
        have skip:∀ b,t=b→t≠want→(aopsK P tt fo n full r (fput ((s,.d (.bool b)) :: F) o.dst (.tup [])) L K)→wpList P full.toArray Q (o :: r) a w:=by
         intro b hb' hwant hop
         refine wpList_step fun K' hK' => ?_
         rw [hw,if_neg (by simpa using hwant)]
         exact hK' _ _ (aopsK_ok ht hz hfo hc hcn hop ((hsk b hb').put o.dst (.tup []) undef hdn (by simp [VR,VRt,undef])) hq)
        cases want with
        | true =>
          simp only at h
          cases t with
          | true=>simp only [splitB] at h;exact run true rfl rfl h
          | false=>simp only [splitB] at h;exact skip false rfl (by simp) h
        | false =>
          simp only at h
          cases t with
          | true=>simp only [splitB] at h;exact skip true rfl (by simp) h
          | false=>simp only [splitB] at h;exact run false rfl rfl h
       ·rename_i cs htv
        cases cs with
        | cons x r=>exact h.elim
        | nil =>
          have hb:=hs.slots s
          rw [htv] at hb
          simp only [VR,VRt] at hb
          obtain ⟨us,hb1,hb2⟩:=hb
          have hslot:yielded full.toArray a.tmps j=none:=by
           unfold yielded
           have:full.toArray[j]? = some og:=by simpa using hog
           simp only [this,Option.bind_some,hogd]
           by_cases hlt:s<a.tmps.size
           ·have:a.tmps[s]? = some (a.tmps.getD s undef):=by simp [hlt]
            rw [this,hb1]
           ·have:a.tmps[s]? = none:=by simp [Nat.le_of_not_lt hlt]
            rw [this]
          have hw:Region.wanted o (yielded full.toArray a.tmps)=false:=by
           unfold Region.wanted
           rw [hg]
           simp only [hslot]
           rfl
          refine wpList_step fun K' hK' => ?_
          rw [hw,if_neg (by simp)]
          exact hK' _ _ (aopsK_ok ht hz hfo hc hcn h (hs.put o.dst (.tup []) undef hdn (by simp [VR,VRt,undef])) hq)
       ·exact h.elim
      ·exact h.elim
end
def ADraw (P:Program) (n k0:Nat) (id:Nat) (ops:Array Oper) (K:AF→List AB→Prop) (F:AF) (L:List AB):Prop :=
 AW P n k0 (.region id ops true) (fun e F' L'=>e = .normal∧K F' L') F L
def condK (F:AF) (x:Operand) (A B:AF→Prop):Prop :=
 match x with
 | .tmp s=>match fget F s with
   | .d (.bool t)=>splitB t (A ((s,.d (.bool true)) :: F)) (B ((s,.d (.bool false)) :: F))
   | _=>False
 | .const (.bool t)=>splitB t (A F) (B F)
 | _=>False
def acodeK (P:Program) (tt:TypeId→Option TI) (fo:FuncId→Bool) (n k0:Nat):Code→(Exit→AF→List AB→Prop)→AF→List AB→Prop
 | .skip,Q,F,L=>Q .normal F L
 | .region id ops draw,Q,F,L=>match draw with
   | false=>aopsK P tt fo n ops.toList ops.toList F L fun F L=>Q .normal F L
   | true=>ADraw P n k0 id ops (fun F L=>Q .normal F L) F L
 | .seq x y,Q,F,L=>match x with
   | .label _=>AW P n k0 y Q F L
   | x=>acodeK P tt fo n k0 x (fun e F L=>match e with
     | .normal=>acodeK P tt fo n k0 y Q F L
     | .exit id=>Q (.exit id) F L
     | .goto l=>Q (.goto l) F L
     | .ret=>Q .ret F L
     | _=>False) F L
 | .cond c x y,Q,F,L=>condK F c (fun F=>acodeK P tt fo n k0 x Q F L) (fun F=>acodeK P tt fo n k0 y Q F L)
 | .block id x,Q,F,L=>acodeK P tt fo n k0 x (fun e F L=>match e with
    | .normal=>Q .normal F L
    | .exit id'=>bif Nat.beq id' id then Q .normal F L else Q (.exit id') F L
    | .goto l=>Q (.goto l) F L
    | .ret=>Q .ret F L
    | _=>False) F L
 | .loop x,Q,F,L=>AW P n k0 (.loop x) Q F L
 | .exit id,Q,F,L=>Q (.exit id) F L
 | .ret,Q,F,L=>Q .ret F L
 | .goto l,Q,F,L=>Q (.goto l) F L
 | .label _,Q,F,L=>Q .normal F L
 | .scope x,Q,F,L=>AW P n k0 (.scope x) Q F L
 | _,_,_,_=>False
section
variable {P:Program} {tt:TypeId→Option TI} {fo:FuncId→Bool} {n k0:Nat}
theorem condK_ok {F:AF} {x:Operand} {A B:AF→Prop} (h:condK F x A B) {c:Ctx} {E:Nat→Option Nat} {L:List AB} {a:Act} {w:World} (hs:Sim c E F L a w) :
  ∃ t F',a.eval x = .bool t∧Sim c E F' L a w∧(if t then A F' else B F'):=by
 unfold condK at h
 split at h
 ·rename_i s
  split at h
  ·rename_i t ht
   have hb:=hs.slots s
   rw [ht] at hb
   simp only [VR,VD] at hb
   cases t with
   | true=>exact ⟨true,_,hb,hs.know (by rw [ht]),by simpa [splitB] using h⟩
   | false=>exact ⟨false,_,hb,hs.know (by rw [ht]),by simpa [splitB] using h⟩
  ·exact h.elim
 ·rename_i t
  cases t with
  | true=>exact ⟨true,_,rfl,hs,by simpa [splitB] using h⟩
  | false=>exact ⟨false,_,rfl,hs,by simpa [splitB] using h⟩
 ·exact h.elim
theorem acodeK_ok (ht:TTok P tt) (hz:ZOok tt) (hfo:FOok P fo):∀ (code:Code) {Q:Exit→AF→List AB→Prop} {F:AF} {L:List AB},acodeK P tt fo n k0 code Q F L→AW P n k0 code Q F L
 | .skip,Q,F,L,h=>fun c E a w _ _ _ hs=>wp_skip ⟨E,F,L,hs,h⟩
 | .region id ops draw,Q,F,L,h=>by
   cases draw with
   | false =>
     intro c E a w hc hcn _ hs
     simp only [acodeK] at h
     refine wp_region_list ?_
     have:=aopsK_ok (Q:=fun x a' w'=>∃ E' F' L',Sim c E' F' L' a' w'∧Q x F' L') ht hz hfo hc hcn h hs (fun E' F' L' a' w' hk hs'=>⟨E',F',L',hs',hk⟩)
     rw [Array.toArray_toList] at this
     exact this
   | true =>
     intro c E a w hc hcn hk hs
     simp only [acodeK] at h
     refine wp_mono (h c E a w hc hcn hk hs) ?_
     rintro x a' w' ⟨E',F',L',h1,rfl,h2⟩
     exact ⟨E',F',L',h1,h2⟩
 | .seq x y,Q,F,L,h=>by
   intro c E a w hc hcn hk hs
   have h':(∃ l,x = .label l∧AW P n k0 y Q F L)∨acodeK P tt fo n k0 x (fun e F L=>match e with
    | .normal=>acodeK P tt fo n k0 y Q F L
    | .exit id=>Q (.exit id) F L
    | .goto l=>Q (.goto l) F L
    | .ret=>Q .ret F L
    | _=>False) F L:=by
    cases x<;>first|exact .inr h|exact .inl ⟨_,rfl,h⟩
   rcases h' with ⟨l,rfl,h⟩|h
   ·exact wp_seq (wp_label (h c E a w hc hcn hk hs))
   refine wp_seq (wp_mono (acodeK_ok ht hz hfo x h c E a w hc hcn hk hs) ?_)
   rintro e a' w' ⟨E',F',L',h1,h2⟩
   cases e with
   | normal=>exact acodeK_ok ht hz hfo y h2 c E' a' w' hc hcn hk h1
   | exit id=>exact ⟨E',F',L',h1,h2⟩
   | goto l=>exact ⟨E',F',L',h1,h2⟩
   | ret=>exact ⟨E',F',L',h1,h2⟩
   | panic ch=>exact h2.elim
   | outgrown=>exact h2.elim
 | .cond cx x y,Q,F,L,h=>by
   intro c E a w hc hcn hk hs
   simp only [acodeK] at h
   obtain ⟨t,F',h1,h2,h3⟩:=condK_ok h hs
   refine wp_cond h1 ?_
   cases t with
   | true=>exact acodeK_ok ht hz hfo x h3 c E a w hc hcn hk h2
   | false=>exact acodeK_ok ht hz hfo y h3 c E a w hc hcn hk h2
 | .block id x,Q,F,L,h=>by
   intro c E a w hc hcn hk hs
   simp only [acodeK] at h
   refine wp_block (wp_mono (acodeK_ok ht hz hfo x h c E a w hc hcn hk hs) ?_)
   rintro e a' w' ⟨E',F',L',h1,h2⟩
   cases e with
   | normal=>exact ⟨E',F',L',h1,h2⟩
   | exit id' =>
     simp only [Exit.inBlock]
     simp only at h2
     cases hb:Nat.beq id' id with
     | true=>rw [hb] at h2;rw [if_pos (Nat.eq_of_beq_eq_true hb)];exact ⟨E',F',L',h1,h2⟩
     | false=>rw [hb] at h2;rw [if_neg (fun e=>by rw [e,Nat.beq_refl] at hb;cases hb)];exact ⟨E',F',L',h1,h2⟩
   | goto l=>exact ⟨E',F',L',h1,h2⟩
   | ret=>exact ⟨E',F',L',h1,h2⟩
   | panic ch=>exact h2.elim
   | outgrown=>exact h2.elim
 | .loop x,Q,F,L,h=>h
 | .exit id,Q,F,L,h=>fun c E a w _ _ _ hs=>wp_exit ⟨E,F,L,hs,h⟩
 | .ret,Q,F,L,h=>fun c E a w _ _ _ hs=>wp_ret ⟨E,F,L,hs,h⟩
 | .goto l,Q,F,L,h=>fun c E a w _ _ _ hs=>wp_goto ⟨E,F,L,hs,h⟩
 | .label l,Q,F,L,h=>fun c E a w _ _ _ hs=>wp_label ⟨E,F,L,hs,h⟩
 | .scope x,Q,F,L,h=>h
 | .rangeFunc _ _ _ _,Q,F,L,h=>h.elim
 | .refuse _,Q,F,L,h=>h.elim
end
end
end Go.Ab
namespace Go.Ab
noncomputable section
open Go.RowKit
def restr (F:AF):List Nat→AF
 | []=>[]
 | s :: r=>(s,fget F s) :: restr F r
noncomputable def restrK (F:AF) (l:List Nat):(AF→Prop)→Prop :=
 List.rec (motive:=fun _=>(AF→Prop)→Prop) (fun K=>K []) (fun s _ ih K=>movK (fget F s) fun v=>ih fun l=>K ((s,v) :: l)) l
theorem restrK_ok {F:AF}:∀ {l:List Nat} {K:AF→Prop},restrK F l K→K (restr F l)
 | [],_,h=>h
 | s :: r,K,h=>restrK_ok (l:=r) (K:=fun l=>K ((s,fget F s) :: l)) (movK_ok (K:=fun v=>restrK F r fun l=>K ((s,v) :: l)) h)
theorem fget_restr {F:AF} (s:Nat):∀ (l:List Nat),fget (restr F l) s=fget F s∨fget (restr F l) s = .d .any
 | [] => .inr rfl
 | t :: r=>by
   simp only [restr,fget_nil,fget_cons]
   cases hb:Nat.beq t s with
   | true=>left;rw [← Nat.eq_of_beq_eq_true hb];rfl
   | false=>exact fget_restr s r
noncomputable def idsF (F:AF):List Nat→(List Nat→Prop)→Prop :=
 List.rec (motive:=fun _=>List Nat→(List Nat→Prop)→Prop) (fun acc K=>K acc) (fun p _ ih acc K=>idsK p.2 acc fun acc=>ih acc K) F
theorem idsF_ok:∀ (F:AF) (acc:List Nat) (K:List Nat→Prop),idsF F acc K→∃ l,K l
 | [],acc,K,h=>⟨_,h⟩
 | (_,x) :: r,acc,K,h=>by
   obtain ⟨l,h1⟩:=idsK_ok x acc (fun acc=>idsF r acc K) h
   exact idsF_ok r l K h1
def renF (rho:Nat→Option Nat):AF→Option AF
 | []=>some []
 | (s,x) :: r=>match renA rho x with
   | some y=>match renF rho r with
     | some l=>some ((s,y) :: l)
     | none=>none
   | none=>none
noncomputable def fF (F:AF):(AF→Prop)→Prop :=
 List.rec (motive:=fun _=>(AF→Prop)→Prop) (fun K=>K []) (fun p _ ih K=>fA p.2 fun y=>ih fun l=>K ((p.1,y) :: l)) F
theorem fF_ok:∀ {F:AF} {K:AF→Prop},fF F K→K F
 | [],_,h=>h
 | (s,x) :: r,K,h=>fF_ok (F:=r) (K:=fun l=>K ((s,x) :: l)) (fA_ok x (fun y=>fF r fun l=>K ((s,y) :: l)) h)
def upto:Nat→List Nat
 | 0=>[]
 | k+1=>upto k++[k]
theorem upto_get:∀ {k i:Nat},i<k→(upto k)[i]? = some i
 | 0,i,h=>by omega
 | k+1,i,h=>by
   have hl:∀ k,(upto k).length=k:=by
    intro k
    induction k with
    | zero=>rfl
    | succ k ih=>simp [upto,ih]
   simp only [upto]
   rcases Nat.lt_or_ge i k with h1|h1
   ·rw [List.getElem?_append_left (by rw [hl];exact h1)];exact upto_get h1
   ·have:i=k:=by omega
    subst this
    rw [List.getElem?_append_right (by rw [hl];omega),hl];simp
def prefB:List Nat→List Nat→Bool
 | [],_=>true
 | _ :: _,[]=>false
 | a :: r,b :: s=>Nat.beq a b&&prefB r s
theorem prefB_ok:∀ {l m:List Nat},prefB l m=true→∀ (i x:Nat),l[i]? = some x→m[i]? = some x
 | [],m,_,i,x,h=>by simp at h
 | a :: r,[],h,_,_,_=>by cases h
 | a :: r,b :: s,h,i,x,hx=>by
   simp only [prefB,Bool.and_eq_true] at h
   cases i with
   | zero=>simp at hx ⊢;rw [← hx];exact (Nat.eq_of_beq_eq_true h.1).symm
   | succ i=>simp only [List.getElem?_cons_succ] at hx ⊢;exact prefB_ok h.2 i x hx
def normK (k0:Nat) (live:List Nat) (F:AF) (L:List AB) (K:AF→List AB→Prop):Prop :=
 restrK F live fun F1=>fN (upto k0) fun ix0=>idsF F1 ix0 fun ix1=>reachK 64 ix1 0 L fun ix =>
 bif nodupB ix&&prefB (upto k0) ix then
  match renF (posN ix · 0) F1,linA (posN ix · 0) L ix with
  | some F2,some L2=>fF F2 fun F2=>fL L2 fun L2=>K F2 L2
  | _,_=>False
 else False
theorem renF_ok {R R':RC} {rho:Nat→Option Nat} (h:Leads R R' rho):∀ {F F':AF},renF rho F=some F'→∀ {tmps:Array Value},(∀ s,VR R (fget F s) (tmps.getD s undef))→∀ s,VR R' (fget F' s) (tmps.getD s undef)
 | [],F',hF,tmps,hv,s=>by simp only [renF,Option.some.injEq] at hF;subst hF;simp [fget_nil,fget_cons,VR,VD]
 | (t,x) :: r,F',hF,tmps,hv,s=>by
   simp only [renF] at hF
   split at hF
   ·rename_i y hy
    split at hF
    ·rename_i l hl
     cases hF
     simp only [fget_nil,fget_cons]
     cases hb:Nat.beq t s with
     | true =>
       have:=hv s
       simp only [fget_nil,fget_cons,hb,cond_true] at this
       exact renA_ok h x y hy _ this
     | false =>
       simp only [cond_false]
       -- the rest, at the slots that the first one does not shadow: said of every slot by cases
       have key:∀ {F F':AF},renF rho F=some F'→VR R (fget F s) (tmps.getD s undef)→VR R' (fget F' s) (tmps.getD s undef):=by
        intro F
        induction F with
        | nil=>intro F' hF' _;simp only [renF,Option.some.injEq] at hF';subst hF';simp [fget_nil,fget_cons,VR,VD]
        | cons p r' ih =>
          intro F' hF' hv'
          obtain ⟨t',x'⟩:=p
          simp only [renF] at hF'
          split at hF'
          ·rename_i y' hy'
           split at hF'
           ·rename_i l' hl'
            cases hF'
            simp only [fget_nil,fget_cons] at hv' ⊢
            cases hb':Nat.beq t' s with
            | true=>rw [hb'] at hv';exact renA_ok h x' y' hy' _ hv'
            | false=>rw [hb'] at hv';exact ih hl' hv'
           ·cases hF'
          ·cases hF'
       have:=hv s
       simp only [fget_nil,fget_cons,hb,cond_false] at this
       exact key hl this
    ·cases hF
   ·cases hF
theorem SimH.part {c:Ctx} {E:Nat→Option Nat} {L:List AB} {w:World} (hs:SimH c E L w) {ix:List Nat} (hnd:ix.Nodup) (hp:∀ i,i<c.L0.length→ix[i]? = some i) {l:List AB} (hl:linA (posN ix · 0) L ix=some l) :
  SimH c (Esub E ix) l w∧Leads (rcOf c.M0 E L w) (rcOf c.M0 (Esub E ix) l w) (posN ix · 0):=by
 have hM:∀ b o,c.M0 b o→Mut c.M0 E L b o:=fun b o h => .inl h
 have hleads:=sub_leads (w:=w) hl hM rfl
 obtain ⟨h1,h2,h3,h4⟩:=sub_blocks hs hnd hl hM rfl
 refine ⟨⟨hs.os,hs.tape,hs.output,hs.size,hs.prot,h1,?_,h3,?_,h4 _ fun b hp j ab hj hb => ?_,hs.lk,fun s0 hs0 j e1 m1 ys sh1 b hj he => ?_⟩,hleads⟩
 rotate_right
 ·obtain ⟨hlen,hlook⟩:=linA_ok hl
  have hjl:j<ix.length:=by rw [← hlen];exact (List.getElem?_eq_some_iff.1 hj).1
  obtain ⟨ab1,ab2,q3,q4,q5⟩:=hlook j ix[j] (List.getElem?_eq_getElem hjl)
  rw [hj] at q4;cases q4
  obtain ⟨sh2,rfl⟩:=renAB_row q5
  refine hs.up s0 hs0 ix[j] _ _ _ _ b q3 ?_
  have he':Esub E ix j=some b:=he
  simpa [Esub,List.getElem?_eq_getElem hjl] using he'
 rotate_right
 ·obtain ⟨hlen,hlook⟩:=linA_ok hl
  have hjl:j<ix.length:=by rw [← hlen];exact (List.getElem?_eq_some_iff.1 hj).1
  obtain ⟨ab1,ab2,q3,q4,q5⟩:=hlook j ix[j] (List.getElem?_eq_getElem hjl)
  rw [hj] at q4;cases q4
  exact hs.bx.low ix[j] ab1 b q3 (by rw [← (renAB_alike q5).boxes];exact hb) hp
 ·intro j ab b hj hlv he hp'
  obtain ⟨i,ab0,_,k2,k3,k4⟩:=h2 j ab b hj hlv he
  exact hs.low i ab0 b k2 k3 k4 hp'
 ·have hid:∀ i,i<c.L0.length→posN ix i 0=some i:=fun i hi=>posN_some hnd (hp i hi)
  refine ⟨fun a u h=>hleads.rd a u (hs.old.rd a u h),?_,?_,?_,?_⟩
  rotate_right
  ·intro i x v h
   obtain ⟨ab,h4,_⟩:=id h
   exact hleads.is i i (hid i (List.getElem?_eq_some_iff.1 h4).1) x v (hs.old.is i x v h)
  ·intro i b h
   obtain ⟨ab,h4,_⟩:=id h
   exact hleads.pt i i (hid i (List.getElem?_eq_some_iff.1 h4).1) b (hs.old.pt i b h)
  ·intro i v h
   obtain ⟨ab,h4,_⟩:=id h
   exact hleads.ar i i (hid i (List.getElem?_eq_some_iff.1 h4).1) v (hs.old.ar i v h)
  ·intro i k o v h
   obtain ⟨ab,h4,_⟩:=id h
   exact hleads.ap i i (hid i (List.getElem?_eq_some_iff.1 h4).1) k o v (hs.old.ap i k o v h)
theorem normK_ok {k0:Nat} {live:List Nat} {F:AF} {L:List AB} {K:AF→List AB→Prop} (h:normK k0 live F L K) {c:Ctx} (hk:c.L0.length=k0) {E:Nat→Option Nat} {a:Act} {w:World} (hs:Sim c E F L a w) :
  ∃ E' F' L',K F' L'∧Sim c E' F' L' a w:=by
 unfold normK at h
 have h1:=restrK_ok h
 have h2:=fN_ok h1
 obtain ⟨ix1,h3⟩:=idsF_ok _ _ _ h2
 obtain ⟨ix,h4⟩:=reachK_ok h3
 cases hb:(nodupB ix&&prefB (upto k0) ix) with
 | false=>rw [hb] at h4;exact h4.elim
 | true =>
   rw [hb] at h4
   simp only [cond_true] at h4
   simp only [Bool.and_eq_true] at hb
   split at h4
   ·rename_i F2 L2 hF2 hL2
    have hK:=fL_ok (fF_ok h4)
    have hpre:∀ i,i<c.L0.length→ix[i]? = some i:=fun i hi=>prefB_ok hb.2 i i (upto_get (by rw [← hk];exact hi))
    obtain ⟨hs',hl⟩:=hs.h.part (nodupB_ok hb.1) hpre hL2
    have hw:=hs.weak (F':=restr F live) fun s=>fget_restr s live
    exact ⟨_,F2,L2,hK,hs',renF_ok hl hF2 hw.slots,hs.nt,hs.df⟩
   ·exact h4.elim
section
variable {P:Program} {tt:TypeId→Option TI} {fo:FuncId→Bool} {n k0:Nat}
theorem aw_loop (ht:TTok P tt) (hz:ZOok tt) (hfo:FOok P fo) {σ:Type} (st:σ→AF×List AB) (inv:σ→Prop) (mu:σ→Nat) (live:List Nat) {x:Code} {Q:Exit→AF→List AB→Prop} {F:AF} {L:List AB}
  (start:normK k0 live F L fun F' L'=>∃ s,F'=(st s).1∧L'=(st s).2∧inv s)
  (round:∀ s,inv s→acodeK P tt fo n k0 x (fun e F' L'=>match e with
    | .normal=>normK k0 live F' L' fun F'' L''=>∃ s',F''=(st s').1∧L''=(st s').2∧inv s'∧mu s'<mu s
    | .exit id=>Q (.exit id) F' L'
    | .goto l=>Q (.goto l) F' L'
    | .ret=>Q .ret F' L'
    | _=>False) (st s).1 (st s).2):AW P n k0 (.loop x) Q F L:=by
 intro c E a w hc hcn hk hs
 -- by the measure
 obtain ⟨E0,F0,L0,⟨s0,rfl,rfl,hi0⟩,hs0⟩:=normK_ok start hk hs
 intro b k cs
 have key:∀ m s,mu s=m→inv s→∀ E a w,Sim c E (st s).1 (st s).2 a w →
   ∃ e a' w',(∃ E' F' L',Sim c E' F' L' a' w'∧Q e F' L')∧Arrives P (lone (b.at a (.code x :: .inLoop x :: k)) cs w) b k cs e a' w':=by
  intro m
  induction m using Nat.strongRecOn with
  | _ m ih =>
    intro s hm hi E a w hs
    obtain ⟨e,a₁,w₁,hq,harr⟩:=acodeK_ok ht hz hfo x (round s hi) c E a w hc hcn hk hs b (.inLoop x :: k) cs
    obtain ⟨E',F',L',hs',hq⟩:=hq
    cases e with
    | normal =>
      obtain ⟨E2,F2,L2,⟨s',rfl,rfl,hi',hlt⟩,hs2⟩:=normK_ok hq hk hs'
      obtain ⟨e₂,a₂,w₂,hq₂,harr₂⟩:=ih (mu s') (hm▸hlt) s' rfl hi' E2 a₁ w₁ hs2
      exact ⟨e₂,a₂,w₂,hq₂,.of_steps (Steps.trans harr (.one step_inLoop)) harr₂⟩
    | exit id=>exact ⟨_,a₁,w₁,⟨E',F',L',hs',hq⟩,.pass (x := .inLoop x) rfl (fun _ _ => .inl (by simp)) harr⟩
    | goto l=>exact ⟨_,a₁,w₁,⟨E',F',L',hs',hq⟩,.pass (x := .inLoop x) rfl (fun _ _ => .inl (by simp)) harr⟩
    | ret=>exact ⟨_,a₁,w₁,⟨E',F',L',hs',hq⟩,.pass (x := .inLoop x) rfl (fun _ _ => .inl (by simp)) harr⟩
    | panic ch=>exact hq.elim
    | outgrown=>exact hq.elim
 obtain ⟨e,a',w',hq,harr⟩:=key _ s0 rfl hi0 E0 a w hs0
 exact ⟨e,a',w',hq,.of_steps (.one step_loop) harr⟩
end
def argF:List AV→Nat→AF
 | [],_=>[]
 | x :: r,i=>(i,x) :: argF r (i+1)
noncomputable def resK (tt:TypeId→Option TI) (F:AF) (L:List AB) (l:List ResultVar):(List AV→Prop)→Prop :=
 List.rec (motive:=fun _=>(List AV→Prop)→Prop) (fun K=>K []) (fun q _ ih K=>match q with
  | .tmp t=>movK (fget F t) fun v=>ih fun l=>K (v :: l)
  | .cell p t=>ttK tt t fun i=>loadK i L (fget F p) fun v=>movK v fun v=>nilsK tt t v fun v=>ih fun l=>K (v :: l)) l
theorem resK_nil (tt:TypeId→Option TI) (F:AF) (L:List AB) (K:List AV→Prop):resK tt F L [] K=K []:=rfl
theorem resK_t (tt:TypeId→Option TI) (F:AF) (L:List AB) (t:Nat) (r:List ResultVar) (K:List AV→Prop):resK tt F L (.tmp t :: r) K=movK (fget F t) fun v=>resK tt F L r fun l=>K (v :: l):=rfl
theorem resK_c (tt:TypeId→Option TI) (F:AF) (L:List AB) (p t:Nat) (r:List ResultVar) (K:List AV→Prop):resK tt F L (.cell p t :: r) K=ttK tt t fun i=>loadK i L (fget F p) fun v=>movK v fun v=>nilsK tt t v fun v=>resK tt F L r fun l=>K (v :: l):=rfl
def outK (ex:Bool) (l:List AV) (L:List AB) (K:List AV→List AB→Prop):Prop :=
 match ex with
 | true=>K l L
 | false=>argsK l L K
def tupOf:List AV→AV
 | [x]=>x
 | l => .tup l
def finK (k0:Nat) (av:AV) (L:List AB) (K:AV→List AB→Prop):Prop :=
 fN (upto k0) fun ix0=>idsK av ix0 fun ix1=>reachK 64 ix1 0 L fun ix =>
 bif nodupB ix&&prefB (upto k0) ix then
  match renA (posN ix · 0) av,linA (posN ix · 0) L ix with
  | some av',some L2=>fA av' fun av'=>fL L2 fun L2=>K av' L2
  | _,_=>False
 else False
def retK (tt:TypeId→Option TI) (ex:Bool) (k0:Nat) (rs:List ResultVar) (post:AV→List AB→Prop) (e:Exit) (F:AF) (L:List AB):Prop :=
 match e with
 | .normal | .ret=>resK tt F L rs fun l=>outK ex l L fun l L'=>finK k0 (tupOf l) L' post
 | _=>False
section
variable {P:Program} {tt:TypeId→Option TI} {fo:FuncId→Bool} {n:Nat}
def resRun (tmps:Array Value) (r:ResultVar):Sem Value :=
 match r with
 | .tmp t=>pure (tmps.getD t undef)
 | .cell a t=>do loadVar t (← asAddr (tmps.getD a undef))
def tupV:List Value→Value
 | [v]=>v
 | l => .tuple l.toArray
theorem run_results (fn:Func) (tmps:Array Value) (w:World) (vs:List Value) (h:(fn.results.toList.mapM (resRun tmps)).run P w = .ok vs w) :
  (results fn tmps).run P w = .ok (tupV vs) w:=by
 have e:results fn tmps=(do let vs ← fn.results.mapM (resRun tmps);pure (if h:vs.size=1 then vs[0] else .tuple vs)):=rfl
 rw [e,Array.mapM_eq_mapM_toList]
 simp only [Sem.run_bind,Sem.run_map,h,Result.andThen_ok,Sem.run_pure]
 congr 1
 match vs with
 | []=>simp [tupV]
 | [v]=>simp [tupV]
 | v :: u :: r=>simp [tupV]
theorem resK_ok (ht:TTok P tt) {c:Ctx} {E:Nat→Option Nat} {F:AF} {L:List AB} {a:Act} {w:World} (hs:Sim c E F L a w):∀ {rs:List ResultVar} {K:List AV→Prop},resK tt F L rs K →
  ∃ l vs,K l∧(rs.mapM (resRun a.tmps)).run P w = .ok vs w∧VRt (rcOf c.M0 E L w) l vs
 | [],K,h=>⟨[],[],h,by simp,by simp [VRt]⟩
 | .tmp t :: r,K,h=>by
   simp only [resK_nil,resK_t,resK_c] at h
   obtain ⟨l,vs,h1,h2,h3⟩:=resK_ok ht hs (movK_ok h)
   refine ⟨_,_ :: vs,h1,?_,by simp only [VRt];exact ⟨_,_,rfl,hs.slots t,h3⟩⟩
   simp [List.mapM_cons,resRun,h2]
 | .cell p t :: r,K,h=>by
   simp only [resK_nil,resK_t,resK_c] at h
   obtain ⟨i,hi,h0⟩:=ttK_ok h
   obtain ⟨v,av,k1,k2,k3⟩:=loadK_ok ht hi hs.h h0 (hs.slots p)
   obtain ⟨av',k2',kn⟩:=nilsK_ok (movK_ok k2)
   obtain ⟨l,vs,h1,h2,h3⟩:=resK_ok ht hs k2'
   refine ⟨_,v :: vs,h1,?_,by simp only [VRt];exact ⟨_,_,rfl,kn _ _ k3,h3⟩⟩
   have hrr:(resRun a.tmps (.cell p t)).run P w = .ok v w:=by
    unfold resRun
    simp only [Instr.loadAt,Sem.run_bind] at k1 ⊢
    cases hv:a.tmps.getD p undef with
    | pointer q =>
      rw [hv] at k1
      cases q with
      | none=>simp [Instr.sureAddr] at k1
      | some q=>simpa [Instr.sureAddr,asAddr] using k1
    | _=>rw [hv] at k1;simp [Instr.sureAddr] at k1
   simp only [List.mapM_cons,Sem.run_bind,hrr,Result.andThen_ok,h2,Sem.run_pure]
theorem finK_ok {k0:Nat} {av:AV} {L:List AB} {K:AV→List AB→Prop} (h:finK k0 av L K) {c:Ctx} (hk:c.L0.length=k0) {E:Nat→Option Nat} {w:World} (hs:SimH c E L w) {v:Value} (hv:VR (rcOf c.M0 E L w) av v) :
  ∃ E' av' L',K av' L'∧SimH c E' L' w∧VR (rcOf c.M0 E' L' w) av' v:=by
 unfold finK at h
 have h2:=fN_ok h
 obtain ⟨ix1,h3⟩:=idsK_ok _ _ _ h2
 obtain ⟨ix,h4⟩:=reachK_ok h3
 cases hb:(nodupB ix&&prefB (upto k0) ix) with
 | false=>rw [hb] at h4;exact h4.elim
 | true =>
   rw [hb] at h4
   simp only [cond_true] at h4
   simp only [Bool.and_eq_true] at hb
   split at h4
   ·rename_i av' L2 hav hL2
    have hK:=fL_ok (fA_ok _ _ h4)
    have hpre:∀ i,i<c.L0.length→ix[i]? = some i:=fun i hi=>prefB_ok hb.2 i i (upto_get (by rw [← hk];exact hi))
    obtain ⟨hs',hl⟩:=hs.part (nodupB_ok hb.1) hpre hL2
    exact ⟨_,av',L2,hK,hs',renA_ok hl av av' hav v hv⟩
   ·exact h4.elim
theorem acalls_of (ht:TTok P tt) (hz:ZOok tt) (hfo:FOok P fo) {f:FuncId} {fn:Func} {code:Code} (hf:P.funcs[f]? = some fn) (hb:fn.body=some code) (hn:fn.ntmps=n) {rs:List ResultVar} (hr:fn.results.toList=rs)
  (ex:Bool) {avs:List AV} {Lin:List AB} {post:AV→List AB→Prop} (hlen:Nat.ble avs.length n=true)
  (h:acodeK P tt fo n Lin.length code (retK tt ex Lin.length rs post) (argF avs 0) Lin):ACalls P f avs Lin post:=by
 intro c vs hc hL hs hv
 let c':Ctx:={ c with n:=n }
 have hc':c'.wf:=⟨hc.low,hc.sub,hc.sle⟩
 have hs':SimH c' c.E0 Lin c.w0:=⟨hs.os,hs.tape,hs.output,hs.size,hs.prot,hs.blk,hs.low,hs.inj,hs.old,hs.bx,hs.lk,hs.up⟩
 have hvl:vs.size=avs.length:=by
  have:∀ (l:List AV) (us:List Value),VRt (rcOf c.M0 c.E0 Lin c.w0) l us→us.length=l.length:=by
   intro l
   induction l with
   | nil=>intro us h;simp only [VRt] at h;subst h;rfl
   | cons x l ih=>intro us h;simp only [VRt] at h;obtain ⟨u,us',rfl,_,h2⟩:=h;simp [ih us' h2]
  have:=this _ _ hv
  simpa using this
 have hlen':avs.length≤n:=Nat.le_of_ble_eq_true hlen
 refine calls_of_wp hf hb ?_
 rw [hn]
 have hsim:Sim c' c.E0 (argF avs 0) Lin { tmps:=vs++Array.replicate (n - vs.size) undef,defers:=[] } c.w0:=by
  refine ⟨hs',?_,(by show (vs++Array.replicate (n - vs.size) undef).size=n;simp;omega),rfl⟩
  have key:∀ (l:List AV) (us:List Value) (k:Nat),VRt (rcOf c.M0 c.E0 Lin c.w0) l us→∀ s,(fget (argF l k) s = .d .any)∨(k≤s∧∃ u,us[s - k]? = some u∧VR (rcOf c.M0 c.E0 Lin c.w0) (fget (argF l k) s) u):=by
   intro l
   induction l with
   | nil=>intro us k _ s;exact .inl rfl
   | cons x l ih =>
     intro us k h s
     simp only [VRt] at h
     obtain ⟨u,us',rfl,h1,h2⟩:=h
     simp only [argF,fget_nil,fget_cons]
     cases hbq:Nat.beq k s with
     | true =>
       have:=Nat.eq_of_beq_eq_true hbq
       subst this
       exact .inr ⟨Nat.le_refl _,u,by simp,h1⟩
     | false =>
       simp only [cond_false]
       rcases ih us' (k+1) h2 s with h3|⟨h3,u',h4,h5⟩
       ·exact .inl h3
       ·refine .inr ⟨by omega,u',?_,h5⟩
        have:s - k=(s - (k+1))+1:=by omega
        rw [this];simpa using h4
  intro s
  rcases key avs vs.toList 0 hv s with h1|⟨_,u,h2,h3⟩
  ·rw [h1];simp [VR,VD]
  ·have hlt:s<vs.size:=by
    have:=(List.getElem?_eq_some_iff.1 h2).1
    simpa using this
   have e:(vs++Array.replicate (n - vs.size) undef).getD s undef=u:=by
    have:vs[s]? = some u:=by simpa using h2
    simp [Array.getElem?_append_left hlt,this]
   show VR _ _ ((vs++Array.replicate (n - vs.size) undef).getD s undef)
   rw [e];exact h3
 have hL':c'.L0.length=Lin.length:=by rw [← hL]
 refine wp_mono (acodeK_ok ht hz hfo code h c' c.E0 _ c.w0 hc' rfl hL' hsim) ?_
 rintro e a w' ⟨E',F',L',hsF,hret⟩
 have fin:(resK tt F' L' rs fun l=>outK ex l L' fun l L'=>finK Lin.length (tupOf l) L' post)→a.defers=[]∧∃ v,(results fn a.tmps).run P w' = .ok v w'∧∃ v' av L'' E'',Ending.returned v = .returned v'∧post av L''∧SimH c E'' L'' w'∧VR (rcOf c.M0 E'' L'' w') av v':=by
  intro hres
  obtain ⟨l,us,h1,h2,h3⟩:=resK_ok ht hsF hres
  have hout:∃ l' L2,finK Lin.length (tupOf l') L2 post∧SimH c' E' L2 w'∧VRt (rcOf c'.M0 E' L2 w') l' us:=by
   unfold outK at h1
   cases ex with
   | true=>exact ⟨l,L',h1,hsF.h,h3⟩
   | false =>
     obtain ⟨ys,L2,k1,k2,_,k4⟩:=argsK_ok hc' hsF.h h1 h3
     exact ⟨ys,L2,k1,k2,k4⟩
  obtain ⟨l',L2,h4,h5,h6⟩:=hout
  have hrun:=run_results (P:=P) fn a.tmps w' us (by rw [hr];exact h2)
  have htup:VR (rcOf c'.M0 E' L2 w') (tupOf l') (tupV us):=by
   unfold tupOf
   split
   ·rename_i x
    simp only [VRt] at h6
    obtain ⟨u,us',rfl,k1,rfl⟩:=h6
    exact k1
   ·rename_i hne
    have hus:∀ v,us≠[v]:=by
     intro v e
     subst e
     cases l' with
     | nil=>simp [VRt] at h6
     | cons x l'' =>
       simp only [VRt] at h6
       obtain ⟨u,us',e1,_,h7⟩:=h6
       cases e1
       cases l'' with
       | nil=>exact hne x rfl
       | cons y l3=>simp [VRt] at h7
    have e:tupV us = .tuple us.toArray:=by
     match us,hus with
     | [],_=>rfl
     | [v],h=>exact absurd rfl (h v)
     | v :: u :: r,_=>rfl
    rw [e]
    simp only [VR]
    exact ⟨_,rfl,by simpa using h6⟩
  obtain ⟨E'',av,L'',k1,k2,k3⟩:=finK_ok h4 hL' h5 htup
  exact ⟨hsF.df,_,hrun,_,av,L'',E'',rfl,k1,⟨k2.os,k2.tape,k2.output,k2.size,k2.prot,k2.blk,k2.low,k2.inj,k2.old,k2.bx,k2.lk,k2.up⟩,k3⟩
 cases e with
 | normal=>exact fin hret
 | ret=>exact fin hret
 | exit id=>exact hret.elim
 | goto l=>exact hret.elim
 | panic ch=>exact hret.elim
 | outgrown=>exact hret.elim
end
end
end Go.Ab
namespace Go.Ab
noncomputable section
open Go.RowKit
noncomputable def tget (l:List (Nat×TI)) (s:Nat):Option TI:=List.rec (motive:=fun _=>Option TI) none (fun p _ ih=>bif Nat.beq p.1 s then some p.2 else ih) l
theorem tget_nil (s:Nat):tget [] s=none:=rfl
theorem tget_c (t:Nat) (i:TI) (r:List (Nat×TI)) (s:Nat):tget ((t,i) :: r) s=bif Nat.beq t s then some i else tget r s:=rfl
def ttAll (P:Program):List (Nat×TI)→Prop
 | []=>True
 | (t,i) :: r=>(P.underlying t=some i.desc∧(P.info? t).map (fun f=>(f.zero,f.size,f.bytes))=some (some i.zero,i.size,i.bytes))∧ttAll P r
theorem TTok_ok {P:Program}:∀ {l:List (Nat×TI)},ttAll P l→∀ t i,tget l t=some i→P.underlying t=some i.desc∧∃ info,P.info? t=some info∧info.zero=some i.zero∧info.size=i.size∧info.bytes=i.bytes
 | [],_,t,i,h=>by cases h
 | (t',i') :: r,h,t,i,hi=>by
   simp only [ttAll] at h
   simp only [tget_nil,tget_c] at hi
   cases hb:Nat.beq t' t with
   | true =>
     rw [hb] at hi
     cases hi
     have:=Nat.eq_of_beq_eq_true hb
     subst this
     refine ⟨h.1.1,?_⟩
     cases hp:P.info? t' with
     | none=>rw [hp] at h;cases h.1.2
     | some f =>
       rw [hp] at h
       have h2:=h.1.2
       simp only [Option.map_some,Option.some.injEq,Prod.mk.injEq] at h2
       exact ⟨f,rfl,h2.1,h2.2.1,h2.2.2⟩
   | false =>
     rw [hb] at hi
     exact TTok_ok h.2 t i hi
def szAll:List (Nat×TI)→Bool
 | []=>true
 | (t,i) :: r=>Nat.beq (gsz t) i.size&&szAll r
theorem TTok_sz:∀ {l:List (Nat×TI)},szAll l=true→∀ t i,tget l t=some i→gsz t=i.size
 | [],_,t,i,h=>by cases h
 | (t',i') :: r,h,t,i,hi=>by
   simp only [szAll,Bool.and_eq_true] at h
   simp only [tget_nil,tget_c] at hi
   cases hb:Nat.beq t' t with
   | true =>
     rw [hb] at hi
     cases hi
     have:=Nat.eq_of_beq_eq_true hb
     subst this
     exact Nat.eq_of_beq_eq_true h.1
   | false =>
     rw [hb] at hi
     exact TTok_sz h.2 t i hi
theorem TTok_of {P:Program} {l:List (Nat×TI)} (h:ttAll P l) (k:szAll l=true):TTok P (tget l):=⟨TTok_ok h,TTok_sz k⟩
def zoAll:List (Nat×TI)→Bool
 | []=>true
 | (_,i) :: r=>Nat.beq i.zero.cells.size i.size&&zoAll r
theorem ZOok_of:∀ {l:List (Nat×TI)},zoAll l=true→ZOok (tget l)
 | [],_,t,i,h=>by cases h
 | (t',i') :: r,h,t,i,hi=>by
   simp only [zoAll,Bool.and_eq_true] at h
   simp only [tget_nil,tget_c] at hi
   cases hb:Nat.beq t' t with
   | true=>rw [hb] at hi;cases hi;exact Nat.eq_of_beq_eq_true h.1
   | false=>rw [hb] at hi;exact ZOok_of h.2 t i hi
def foAll (P:Program):List Nat→Bool
 | []=>true
 | g :: r=>(match P.funcs[g]? with|some fn => !(fn.name == "runtime.NumGoroutine") && !fn.body.isNone|none=>false)&&foAll P r
theorem FOok_of {P:Program}:∀ {l:List Nat},foAll P l=true→FOok P (fun g=>memB g l)
 | [],_,f,h=>by cases h
 | g :: r,h,f,hf=>by
   simp only [foAll,Bool.and_eq_true] at h
   simp only [memB_nil,memB_cons] at hf
   cases hb:Nat.beq g f with
   | false=>rw [hb] at hf;exact FOok_of h.2 f (by simpa using hf)
   | true =>
     have:=Nat.eq_of_beq_eq_true hb
     subst this
     have h1:=h.1
     cases hp:P.funcs[g]? with
     | none=>rw [hp] at h1;cases h1
     | some fn =>
       rw [hp] at h1
       simp only [Bool.and_eq_true,Bool.not_eq_true'] at h1
       exact ⟨fn,rfl,h1.1,h1.2⟩
end
end Go.Ab
