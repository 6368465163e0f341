/- PrimaryExact: abstract runs. -/
import Derived.Test.YtolkmjfkkkiboaaGreatPrimaryExactLayE
import Derived.ScopeJumps
set_option linter.all false
namespace Go.Ab
noncomputable section
open Go.RowKit
def pZ (x:AV) (K:AV->Prop):Prop :=
 match x with
 | .d x=>K (.d x)
 | .arr i=>K (.arr i)
 | .ptr i o=>K (.ptr i o)
 | .ap i j o=>K (.ap i j o)
 | .im cs o=>K (.im cs o)
 | .map i=>K (.map i)
 | .mp i b o=>K (.mp i b o)
 | .agg cs=>K (.agg cs)
 | .tup cs=>K (.tup cs)
 | .fn f cs=>K (.fn f cs)
 | .sub i n=>K (.sub i n)
 | .isl i x=>K (.isl i x)
theorem gj {x:AV} {K:AV->Prop} (h:pZ x K):K x:=by cases x<;>exact h
def Tf (tt:TypeId->Option TI) (op:BinOp) (t:TypeId) (L:List AB) (x y:AV) (K:AV->Prop):Prop :=
 match x with
 | .arr j=>fC L j λab=>match ab with
   | .row _ n xs _=>Sm tt op t (.d (.sl n xs)) y K
   | _=>False
 | x=>Sm tt op t x y K
theorem Tg {P:Program} {tt:TypeId->Option TI} (ht:cp P tt) {c:Ctx} (hc:c.wf) {E:Nat->Option Nat} {L:List AB} {w:World} (hs:aI c E L w) {op:BinOp} {t:TypeId} {x y:AV} {K:AV->Prop} (h:Tf tt op t L x y K)
  {u v:Value} (hu:VR (aj c.M0 E L w) x u) (hv:VR (aj c.M0 E L w) y v) (xo yo:Operand) :
  ∃ r av,(eqGuard op t xo yo u v).run P w = .ok () w/\(binOp op t u v).run P w = .ok r w/\K av/\∀ R,VR R av r:=by
 unfold Tf at h;split at h
 ·obtain ⟨ab,bC,h1⟩:=cq h
  cases ab<;>simp only at h1<;>first|exact h1.elim|skip
  obtain ⟨_,hle,h2⟩:=hs.close hc bC;exact Fp ht h1 (h2 u hu) (VR.mono hle _ _ hv) xo yo
 ·exact Fp ht h hu hv xo yo
def unK (op:UnOp) (x:AV) (K:AV->Prop):Prop :=
 match op,x with
 | .not,.d (.bool b)=>K (.d (.bool (!b)))
 | .neg,.d (.int k n)=>∀ z,z=k.wrap (0 - n)->K (.d (.int k z))
 | _,_=>False
theorem abG {P:Program} {w:World} {op:UnOp} {x:AV} {K:AV->Prop} (h:unK op x K) {R:RC} {v:Value} (hv:VR R x v):∃ r av,(Op.unary op v).run P w = .ok r w/\K av/\VR R av r:=by
 unfold unK at h;split at h
 ·simp only [VR,VD] at hv;subst hv;exact ⟨_,_,rfl,h,by simp [VR,VD]⟩
 ·rename_i k n;simp only [VR,VD] at hv;subst hv;exact ⟨.int k (k.wrap (0 - n)),_,rfl,h _ rfl,by simp [VR,VD]⟩
 ·exact h.elim
def evs (F:AF) (l:List Operand):List AV:=l.map (ev F)
def vB (F:AF) (l:List (Nat×Operand)):List (Nat×AV):=l.map λp=>(p.1,ev F p.2)
noncomputable def FO (F:AF) (l:List Operand):(List AV->Prop)->Prop :=
 List.rec (motive:=λ_=>(List AV->Prop)->Prop) (λK=>K []) (λx _ ih K=>pZ (ev F x) λy=>ih λl=>K (y :: l)) l
theorem Th (F:AF) (K:List AV->Prop):FO F [] K=K []:=rfl
theorem abI (F:AF) (x:Operand) (r:List Operand) (K:List AV->Prop):FO F (x :: r) K=pZ (ev F x) λy=>FO F r λl=>K (y :: l):=rfl
theorem FP {F:AF}:∀ {l:List Operand} {K:List AV->Prop},FO F l K->K (evs F l)
 | [],_,h=>h
 | x :: r,K,h=>FP (l:=r) (K:=λl=>K (ev F x :: l)) (gj (K:=λy=>FO F r λl=>K (y :: l)) h)
noncomputable def iK (F:AF) (l:List (Nat×Operand)):(List (Nat×AV)->Prop)->Prop :=
 List.rec (motive:=λ_=>(List (Nat×AV)->Prop)->Prop) (λK=>K []) (λp _ ih K=>pZ (ev F p.2) λy=>ih λl=>K ((p.1,y) :: l)) l
theorem FQ (F:AF) (K:List (Nat×AV)->Prop):iK F [] K=K []:=rfl
theorem Ln (F:AF) (i:Nat) (x:Operand) (r:List (Nat×Operand)) (K:List (Nat×AV)->Prop):iK F ((i,x) :: r) K=pZ (ev F x) λy=>iK F r λl=>K ((i,y) :: l):=rfl
theorem nH {F:AF}:∀ {l:List (Nat×Operand)} {K:List (Nat×AV)->Prop},iK F l K->K (vB F l)
 | [],_,h=>h
 | (i,x) :: r,K,h=>nH (l:=r) (K:=λl=>K ((i,ev F x) :: l)) (gj (K:=λy=>iK F r λl=>K ((i,y) :: l)) h)
def yJ (F:AF):Option Operand->Option AV
 | none=>none
 | some x=>some (ev F x)
def FR (L:List AB) (d:TypeDesc) (x:AV) (K:AV->Prop):Prop :=
 match vz d with
 | some _=>FL L d x K
 | none=>NC L d x K
def DN (tt:TypeId->Option TI) (t:TypeId) (v:AV) (K:AV->Prop):Prop :=
 match v with
 | .d .nils=>match tt t with
   | some i=>match bY i.desc with
     | some e=>match tt e with
       | some ei=>bif Nat.beq ei.size 0 then K (.d .nils) else K (.d (.sl ei.size []))
       | none=>K (.d .nils)
     | none=>K (.d .nils)
   | none=>K (.d .nils)
 | v=>K v
theorem H4 {tt:TypeId->Option TI} {t:TypeId} {v:AV} {K:AV->Prop} (h:DN tt t v K):∃ v',K v'/\∀ (R:RC) (u:Value),VR R v u->VR R v' u:=by
 unfold DN at h;split at h
 ·split at h
  ·split at h
   ·split at h
    ·rename_i ei _
     cases hb:Nat.beq ei.size 0 with
     | true=>rw [hb] at h;exact ⟨_,h,λ_ _ h=>h⟩
     | false =>
       rw [hb] at h;refine ⟨_,h,λR u hu=>?_⟩;simp only [VR,VD] at hu ⊢;subst hu;refine ⟨?_,none,0,rfl,by simp,by simp [maxLen],λ_=>rfl,(λ_ h=>by cases h)⟩;rcases Hk ei.size with h|h
       ·rw [h] at hb;cases hb
       ·exact h
    ·exact ⟨_,h,λ_ _ h=>h⟩
   ·exact ⟨_,h,λ_ _ h=>h⟩
  ·exact ⟨_,h,λ_ _ h=>h⟩
 ·exact ⟨_,h,λ_ _ h=>h⟩
noncomputable def rB (tt:TypeId->Option TI) (ts:List TypeId):List AV->(List AV->Prop)->Prop :=
 List.rec (motive:=λ_=>List AV->(List AV->Prop)->Prop) (λr K=>K r) (λt _ ih l=>List.rec (motive:=λ_=>(List AV->Prop)->Prop) (λK=>K []) (λv r _ K=>DN tt t v λv=>ih r λl=>K (v :: l)) l) ts
theorem uv (tt:TypeId->Option TI) (r:List AV) (K:List AV->Prop):rB tt [] r K=K r:=rfl
theorem A2 (tt:TypeId->Option TI) (t:TypeId) (ts:List TypeId) (K:List AV->Prop):rB tt (t :: ts) [] K=K []:=rfl
theorem A3 (tt:TypeId->Option TI) (t:TypeId) (ts:List TypeId) (v:AV) (r:List AV) (K:List AV->Prop):rB tt (t :: ts) (v :: r) K=DN tt t v λv=>rB tt ts r λl=>K (v :: l):=rfl
theorem DO {tt:TypeId->Option TI}:∀ {ts:List TypeId} {vs:List AV} {K:List AV->Prop},rB tt ts vs K->∃ Xc,K Xc/\∀ (R:RC) (us:List Value),cD R vs us->cD R Xc us
 | [],vs,K,h=>⟨vs,by simpa [uv,A2,A3] using h,λ_ _ h=>h⟩
 | t :: ts,[],K,h=>⟨[],by simpa [uv,A2,A3] using h,λ_ _ h=>h⟩
 | t :: ts,v :: r,K,h=>by
   simp only [uv,A2,A3] at h;obtain ⟨v',h1,h2⟩:=H4 h;obtain ⟨r',h3,h4⟩:=DO h1;refine ⟨v' :: r',h3,λR us hu=>?_⟩;simp only [cD] at hu ⊢;obtain ⟨u,dt,e,k1,k2⟩:=hu;exact ⟨u,dt,e,h2 R u k1,h4 R dt k2⟩
def zT (tt:TypeId->Option TI) (t:TypeId) (v:AV) (L:List AB) (K:AV->List AB->Prop):Prop :=
 match v with
 | .d .nils=>Fv tt t L K
 | v=>K v L
def rC (tt:TypeId->Option TI) (ts:List TypeId):List AV->List AB->(List AV->List AB->Prop)->Prop :=
 List.rec (motive:=λ_=>List AV->List AB->(List AV->List AB->Prop)->Prop) (λr L K=>K r L) (λt _ ih l=>List.rec (motive:=λ_=>List AB->(List AV->List AB->Prop)->Prop) (λL K=>K [] L) (λv r _ L K=>zT tt t v L λv L1=>ih r L1 λl L2=>K (v :: l) L2) l) ts
theorem Lp {P:Program} {tt:TypeId->Option TI} (ht:cp P tt) {t:TypeId} {c:Ctx} (hc:c.wf) {E:Nat->Option Nat} {L:List AB} {w:World} (hs:aI c E L w) {v:AV} {K:AV->List AB->Prop} (h:zT tt t v L K) {u:Value} (hv:VR (aj c.M0 E L w) v u) :
  ∃ E' av L',K av L'/\aI c E' L' w/\(aj c.M0 E L w).le (aj c.M0 E' L' w)/\VR (aj c.M0 E' L' w) av u:=by
 unfold zT at h;split at h
 ·simp only [VR,VD] at hv;subst hv;exact AA ht hc hs h
 ·exact ⟨E,v,L,h,hs,.refl _,hv⟩
theorem rD {P:Program} {tt:TypeId->Option TI} (ht:cp P tt) {c:Ctx} (hc:c.wf) {w:World}:∀ {ts:List TypeId} {E:Nat->Option Nat} {L:List AB} {vs:List AV} {K:List AV->List AB->Prop} {us:List Value},aI c E L w->rC tt ts vs L K->cD (aj c.M0 E L w) vs us ->
  ∃ E' cS L',K cS L'/\aI c E' L' w/\(aj c.M0 E L w).le (aj c.M0 E' L' w)/\cD (aj c.M0 E' L' w) cS us
 | [],E,L,vs,K,us,hs,h,hv=>⟨E,vs,L,h,hs,.refl _,hv⟩
 | t :: ts,E,L,[],K,us,hs,h,hv=>⟨E,[],L,h,hs,.refl _,hv⟩
 | t :: ts,E,L,v :: r,K,us,hs,h,hv=>by
   simp only [cD] at hv;obtain ⟨u,dt,rfl,h1,h2⟩:=hv;obtain ⟨E1,av,L1,k1,k2,k3,k4⟩:=Lp ht hc hs (show zT tt t v L λv L1=>rC tt ts r L1 λl L2=>K (v :: l) L2 from h) h1;obtain ⟨E2,cS,L2,m1,m2,m3,m4⟩:=rD ht hc (ts:=ts) k2 k1 (cD.mono k3 _ _ h2);exact ⟨E2,av :: cS,L2,m1,m2,k3.trans m3,by simp only [cD];exact ⟨u,dt,rfl,VR.mono m3 _ _ k4,m4⟩⟩
def Ti (tt:TypeId->Option TI):Nat->TypeId->List TypeId
 | 0,t=>[t]
 | n+1,t=>match tt t with
   | some i=>match i.desc with
     | .struct fs=>fs.toList.flatMap λf=>Ti tt n f.type
     | _=>[t]
   | none=>[t]
def vC (tt:TypeId->Option TI) (i:TI) (x:AV) (L:List AB) (K:AV->List AB->Prop):Prop :=
 match i.desc with
 | .struct fs=>bif qw x||K7 x then rC tt (fs.toList.flatMap λf=>Ti tt 3 f.type) (cellsOf x) L λcs L1=>bif Nat.beq cs.length (cellsOf x).length then gU L1 (.cells cs) 0 λj L2=>K (.ptr j 0) L2 else False else False
 | _=>False
theorem ZY {R:RC}:∀ {cs:List AV} {us:List Value},eK R cs us->cD R cs us/\∀ u∈us,u.oneCell'=true
 | [],us,h=>by simp only [eK] at h;subst h;exact ⟨rfl,by simp⟩
 | c :: r,us,h=>by
   simp only [eK] at h;obtain ⟨u,dt,rfl,h1,h2,h3⟩:=h;obtain ⟨k1,k2⟩:=ZY h3;refine ⟨by simp only [cD];exact ⟨u,dt,rfl,h2,k1⟩,λx hx=>?_⟩;rcases jy.1 hx with rfl|h
   ·exact h1
   ·exact k2 x h
theorem ZZ {R:RC}:∀ {cs:List AV} {us:List Value},cD R cs us->(∀ u∈us,u.oneCell'=true)->eK R cs us
 | [],us,h,_=>by simp only [cD] at h;subst h;simp [eK]
 | c :: r,us,h,h1=>by
   simp only [cD] at h;obtain ⟨u,dt,rfl,k1,k2⟩:=h;simp only [eK];exact ⟨u,dt,rfl,h1 u (by simp),k1,ZZ k2 λx hx=>h1 x (by simp [hx])⟩
theorem yK {P:Program} {tt:TypeId->Option TI} (ht:cp P tt) {i:TI} {c:Ctx} (hc:c.wf) {E:Nat->Option Nat} {L:List AB} {w:World} (hs:aI c E L w) {x:AV} {K:AV->List AB->Prop} (h:vC tt i x L K) (t:TypeId) {v:Value} (hv:VR (aj c.M0 E L w) x v) :
  ∃ r w' E' av L',(Instr.box t v).run P w = .ok r w'/\K av L'/\aI c E' L' w'/\(aj c.M0 E L w).le (aj c.M0 E' L' w')/\VR (aj c.M0 E' L' w') av r:=by
 unfold vC at h;split at h
 rotate_left
 ·exact h.elim
 cases hb:(qw x||K7 x) with
 | false=>rw [hb] at h;exact h.elim
 | true =>
   rw [hb] at h;simp only [jB] at h;have ef:cellsOf x≠[]∨∃ cs,x = .agg cs:=by
    cases x with
    | agg cs=>exact .inr ⟨_,rfl⟩
    | tup cs=>cases hb
    | d x =>
      cases x with
      | any=>cases hb
      | _=>exact .inl (by simp [cellsOf])
    | _=>exact .inl (by simp [cellsOf])
   have kQ:=fg ef hv;obtain ⟨ht1,PM⟩:=ZY kQ;obtain ⟨E1,cs,L1,k1,k2,k3,k4⟩:=rD ht hc hs h ht1
   cases hl:Nat.beq cs.length (cellsOf x).length with
   | false=>rw [hl] at k1;exact k1.elim
   | true =>
     rw [hl] at k1;simp only [jB] at k1;have h1:=dA k1;rw [gP] at h1;obtain ⟨bP,hle⟩:=k2.Az hc t (ZZ k4 PM);exact ⟨.pointer (some ⟨w.heap.size,0,none⟩),w.alloc (.cells v.cells t),_,_,_,by simp [Instr.box,newVar,newRow],h1,bP,k3.trans hle,Ay⟩
def Tj (tt:TypeId->Option TI) (t:TypeId) (x:AV) (L:List AB) (K:AV->List AB->Prop):Prop :=
 match tt t with
 | some i=>bif i.cK then SK x L K else bif i.rows then vC tt i x L K else SD x L K
 | none=>SD x L K
theorem Tl {P:Program} {tt:TypeId->Option TI} (ht:cp P tt) {c:Ctx} (hc:c.wf) {E:Nat->Option Nat} {L:List AB} {w:World} (hs:aI c E L w) {t':TypeId} {x:AV} {K:AV->List AB->Prop} (h:Tj tt t' x L K) (t:TypeId) {v:Value} (hv:VR (aj c.M0 E L w) x v) :
  ∃ r w' E' av L',(Instr.box t v).run P w = .ok r w'/\K av L'/\aI c E' L' w'/\(aj c.M0 E L w).le (aj c.M0 E' L' w')/\VR (aj c.M0 E' L' w') av r:=by
 unfold Tj at h;split at h
 ·rename_i i _
  cases hp:i.cK with
  | true=>rw [hp] at h;exact SM hc hs h t hv
  | false =>
    rw [hp] at h;simp only [py] at h
    cases hr:i.rows with
    | true=>rw [hr] at h;exact yK ht hc hs h t hv
    | false=>rw [hr] at h;exact Fu hc hs h t hv
 ·exact Fu hc hs h t hv
def NU (tt:TypeId->Option TI) (t:TypeId) (L:List AB) (K:AV->List AB->Prop):Prop :=
 lN tt t λi=>bif i.rows then vC tt i (qK i.zero) L K else SD (qK i.zero) L K
theorem Lq {P:Program} {tt:TypeId->Option TI} (ht:cp P tt) {c:Ctx} (hc:c.wf) {E:Nat->Option Nat} {L:List AB} {w:World} (hs:aI c E L w) {t:TypeId} {K:AV->List AB->Prop} (h:NU tt t L K) :
  ∃ r w' E' av L',(Instr.alloc t true (.tuple #[])).run P w = .ok r w'/\K av L'/\aI c E' L' w'/\(aj c.M0 E L w).le (aj c.M0 E' L' w')/\VR (aj c.M0 E' L' w') av r:=by
 obtain ⟨i,hi,h1⟩:=bI h;obtain ⟨hu,info,k1,k2,k3,k4⟩:=ht t i hi;have:(Instr.alloc t true (.tuple #[])).run P w=(Instr.box t i.zero).run P w:=by
  simp [Instr.alloc,Instr.box,zeroValue,typeInfo,k1,k2]
 cases hr:i.rows with
 | true =>
   rw [hr] at h1;obtain ⟨r,w',E',av,L',m1,m2⟩:=yK ht hc hs h1 t (lY _ i.zero);exact ⟨r,w',E',av,L',this▸m1,m2⟩
 | false =>
   rw [hr] at h1;obtain ⟨r,w',E',av,L',m1,m2⟩:=Fu (P:=P) hc hs h1 t (lY _ i.zero);exact ⟨r,w',E',av,L',this▸m1,m2⟩
def abJ (l:List AV):Bool:=List.rec (motive:=λ_=>Bool) false (λx _ ih=>match x with | .arr _=>true|_=>ih) l
def Xr (tt:TypeId->Option TI) (t:TypeId):Bool:=match tt t with|some i=>i.rows&&km i.desc|none=>false
noncomputable def NV (tt:TypeId->Option TI) (ts:List TypeId):List AV->Bool :=
 List.rec (motive:=λ_=>List AV->Bool) (λl=>abJ l) (λt _ ih l=>List.rec (motive:=λ_=>Bool) false (λx r _=>match x with | .arr _=>true | .d .nils=>bif Xr tt t then true else ih r|_=>ih r) l) ts
def NX (mx:Bool) (x y:AV) (K:AV->Prop):Prop :=
 match x,y with
 | .d (.int k a),.d (.int _ b)=>match mx with
   | true=>K (.d (.int k (max a b)))
   | false=>K (.d (.int k (min a b)))
 | _,_=>False
def Tm (x y:AV) (K:AV->Prop):Prop :=
 match x,y with
 | .d (.Ho k a),.d (.Ho k' b)=>bif Sl k k' then K (.d (.CP k a b)) else False
 | _,_=>False
def NY (re:Bool) (x:AV) (K:AV->Prop):Prop :=
 match x with
 | .d (.CP k a b)=>match re with
   | true=>K (.d (.Ho k a))
   | false=>K (.d (.Ho k b))
 | _=>False
theorem Tn {P:Program} {w:World} {ts:Array TypeId} {ty:TypeId} {x y:AV} {K:AV->Prop} (h:Tm x y K) {R:RC} {u v:Value} (hu:VR R x u) (hv:VR R y v) :
  ∃ r av,(Builtin.complex_ ts ty #[u,v]:Sem Value).run P w = .ok r w/\K av/\VR R av r:=by
 unfold Tm at h;split at h
 ·rename_i k a k' b;simp only [VR,VD] at hu hv;subst hu;subst hv
  cases hk:Sl k k' with
  | false=>rw [hk] at h;exact h.elim
  | true =>
    rw [hk] at h;have:=Nz hk;subst this;exact ⟨.complex k a b,_,(by show ((if k=k then pure (.complex k a b) else stuck "complex: parts of different kinds"):Sem Value).run P w=_;rw [bp rfl];rfl),h,by simp [VR,VD]⟩
 ·exact h.elim
theorem H5 {P:Program} {w:World} {ts:Array TypeId} {ty:TypeId} {re:Bool} {x:AV} {K:AV->Prop} (h:NY re x K) {R:RC} {u:Value} (hu:VR R x u) :
  ∃ r av,((match re with|true=>Builtin.real_ ts ty #[u]|false=>Builtin.imag_ ts ty #[u]):Sem Value).run P w = .ok r w/\K av/\VR R av r:=by
 unfold NY at h;split at h
 ·rename_i k a b;simp only [VR,VD] at hu;subst hu
  cases re with
  | true=>exact ⟨.float k a,_,rfl,h,by simp [VR,VD]⟩
  | false=>exact ⟨.float k b,_,rfl,h,by simp [VR,VD]⟩
 ·exact h.elim
def FT (P:Program) (tt:TypeId->Option TI) (fo:FuncId->Bool) (c:Call) (F:AF) (L:List AB) (K:AV->List AB->Prop):Prop :=
 match c.callee with
 | .value f=>pZ (ev F f) λfv=>match fv with
   | .fn g qI=>bif fo g then FO F c.args.toList λcS=>bif NV tt c.argTypes.toList cS then
      (rB tt c.argTypes.toList cS λcS=>NK P g (cS++qI) L K)∨rC tt c.argTypes.toList cS L λcS L=>ry P g (cS++qI) L K
      else rB tt c.argTypes.toList cS λcS=>NK P g (cS++qI) L K else False
   | _=>False
 | .builtin .max=>match c.args.toList with
   | [x,y]=>NX true (ev F x) (ev F y) λv=>K v L
   | _=>False
 | .builtin .min=>match c.args.toList with
   | [x,y]=>NX false (ev F x) (ev F y) λv=>K v L
   | _=>False
 | .builtin .complex=>match c.args.toList with
   | [x,y]=>Tm (ev F x) (ev F y) λv=>K v L
   | _=>False
 | .builtin .real=>match c.args.toList with
   | [x]=>NY true (ev F x) λv=>K v L
   | _=>False
 | .builtin .imag=>match c.args.toList with
   | [x]=>NY false (ev F x) λv=>K v L
   | _=>False
 | .builtin .len=>match c.args.toList,c.argTypes.toList with
   | [x],[t]=>lN tt t λi=>FR L i.desc (ev F x) λv=>K v L
   | _,_=>False
 | .builtin .delete=>match c.args.toList,c.argTypes.toList with
   | [x,k],t :: _=>NQ tt t L (ev F x) (ev F k) λL'=>K (.d .any) L'
   | _,_=>False
 | .builtin .append=>match c.args.toList,c.argTypes.toList with
   | [s,x],[t,t']=>bif Nat.beq t t' then pP tt t L (ev F s) (ev F x) K else H2 tt t t' L (ev F s) (ev F x) K
   | _,_=>False
 | .builtin .copy=>match c.args.toList,c.argTypes.toList with
   | [s,x],[t,_]=>S9 tt t L (ev F s) (ev F x) K
   | _,_=>False
 | _=>False
def sF:Operand->Bool
 | .const (.slice none 0 0)=>true
 | _=>false
def Tp {α:Type} (x:Option α) (K:Prop):Prop:=match x with|none=>K|some _=>False
theorem H6 {α:Type} {x:Option α} {K:Prop} (h:Tp x K):x=none/\K:=by cases x;exact ⟨rfl,h⟩;exact h.elim
def Tq (fn:Fn) (l:List Operand) (K:FuncId->Prop):Prop:=match fn,l with | .func f,[]=>K f|_,_=>False
theorem H7 {fn:Fn} {l:List Operand} {K:FuncId->Prop} (h:Tq fn l K):∃ f,fn = .func f/\l=[]/\K f:=by
 unfold Tq at h;split at h
 ·exact ⟨_,rfl,rfl,h⟩
 ·exact h.elim
def mP (P:Program) (tt:TypeId->Option TI) (fo:FuncId->Bool) (o:Oper) (F:AF) (L:List AB) (K:AV->List AB->Prop):Prop :=
 match o.op with
 | .move x=>pZ (ev F x) λv=>K v L
 | .assign x=>bif sF x then Fv tt o.type L K else pZ (ev F x) λv=>K v L
 | .pick c a b=>match ev F c with
   | .d (.bool t)=>c_ t (pZ (ev F a) λv=>K v L) (pZ (ev F b) λv=>K v L)
   | _=>False
 | .alloc t=>NU tt t L K
 | .box t x=>Tj tt t (ev F x) L K
 | .makeMap _ r=>Tp r (HV L K)
 | .lookup t m k ok=>NO tt t ok L (ev F m) (ev F k) K
 | .mapUpdate t m k v=>ur tt t L (ev F m) (ev F k) (ev F v) λL'=>K (.d .any) L'
 | .insert t m k v=>ur tt t L (ev F m) (ev F k) (ev F v) λL'=>K (.d .any) L'
 | .build t parts=>iK F parts.toList λps=>SC tt t ps λv=>K v L
 | .buildSlice t len parts=>iK F parts.toList λps=>yA tt t len ps L K
 | .makeSlice t l c=>uu tt t (ev F l) (ev F c) L K
 | .load t a=>lN tt t λi=>HB i L (ev F a) λv=>pZ v λv=>K v L
 | .store t a v=>DG tt t L (ev F a) (ev F v) λL'=>K (.d .any) L'
 | .nilCheck x=>Dy (ev F x) λv=>K v L
 | .binOp op t x y _=>bif sF y then Tf tt op t L (ev F x) (ev F y) λv=>K v L else bif Te (ev F x) then abF P op t (ev F x) (ev F y) λv=>K v L else Sm tt op t (ev F x) (ev F y) λv=>K v L
 | .unOp op _ x=>unK op (ev F x) λv=>K v L
 | .convert s d x=>HO tt s d L (ev F x) K
 | .slice t x lo hi mx=>Tp mx (Sw tt t L (ev F x) (yJ F lo) (yJ F hi) K)
 | .fieldAddr s x k=>Ax tt s k L (ev F x) λv=>K v L
 | .field s x k=>Su tt s k (ev F x) λv=>pZ v λv=>K v L
 | .indexAddr t x ix=>uj tt t L (ev F x) (ev F ix) λv=>K v L
 | .index t x ix=>Lc tt t (ev F x) (ev F ix) λv=>K v L
 | .extract x k=>HE (ev F x) k λv=>pZ v λv=>K v L
 | .call c=>FT P tt fo c F L K
 | .makeFunc fn first qI=>Tq fn first.toList λf=>FO F qI.toList λl=>K (.fn f l) L
 | .range t x=>NS tt t L (ev F x) K
 | .next x str=>Ll str L (ev F x) K
 | _=>False
theorem H8 {P:Program} {w:World} {ts:Array TypeId} {ty:TypeId} {mx:Bool} {x y:AV} {K:AV->Prop} (h:NX mx x y K) {R:RC} {u v:Value} (hu:VR R x u) (hv:VR R y v) :
  ∃ r av,((match mx with|true=>Builtin.max_ ts ty #[u,v]|false=>Builtin.min_ ts ty #[u,v]):Sem Value).run P w = .ok r w/\K av/\VR R av r:=by
 unfold NX at h;split at h
 ·rename_i k a k' b;simp only [VR,VD] at hu hv;subst hu;subst hv
  cases mx with
  | true=>exact ⟨.int k (if b>a then b else a),_,by simp [Builtin.max_,Builtin.max2],h,by simp only [VR,VD];congr 1;omega⟩
  | false=>exact ⟨.int k (if b<a then b else a),_,by simp [Builtin.min_,Builtin.min2],h,by simp only [VR,VD];congr 1;omega⟩
 ·exact h.elim
def jx (P:Program) (fo:FuncId->Bool):Prop:=∀ f,fo f=true->∃ fn,P.funcs[f]? = some fn/\(fn.name == "runtime.NumGoroutine")=false/\fn.body.isNone=false
def jL (tt:TypeId->Option TI):Prop:=∀ t i,tt t=some i->i.zero.cells.size=i.size
def Lr (c:Ctx) (F:AF) (a:Act) (K:AV->List AB->Prop) (av:AV) (v:Value) (w':World):Prop:=∃ E' L',K av L'/\eE c E' F L' a w'/\VR (aj c.M0 E' L' w') av v
def DP (P:Program) (o:Oper) (c:Ctx) (F:AF) (L:List AB) (a:Act) (w:World) (K:AV->List AB->Prop):Prop :=
 (∃ v w' av,(execOp a.eval o).run P w = .ok (.value v) w'/\Lr c F a K av v w') ∨
 (∃ w' av,(execOp a.eval o).run P w = .ok .skip w'/\Lr c F a K av undef w') ∨
 (∃ f vs w',(execOp a.eval o).run P w = .ok (.enter f vs) w'/\Calls P f vs w' λe w''=>∃ v av,e = .returned v/\Lr c F a K av v w'')
section
variable {P:Program} {tt:TypeId->Option TI} {fo:FuncId->Bool}
theorem zU {c:Ctx} {E:Nat->Option Nat} {F:AF} {L:List AB} {a:Act} {w:World} (h:eE c E F L a w):∀ (l:List Operand),cD (aj c.M0 E L w) (evs F l) (l.map a.eval)
 | []=>by simp [evs,cD]
 | x :: r=>by
   simp only [evs,Dv,cD];exact ⟨_,_,rfl,h.ev x,zU h r⟩
theorem uw {R:RC}:∀ {xs ys:List AV} {us vs:List Value},cD R xs us->cD R ys vs->cD R (xs++ys) (us++vs)
 | [],ys,us,vs,h,k=>by simp only [cD] at h;subst h;simpa using k
 | x :: xs,ys,us,vs,h,k=>by
   simp only [cD] at h;obtain ⟨u,dt,rfl,h1,h2⟩:=h;simp only [KX,cD];exact ⟨u,dt++vs,rfl,h1,uw h2 k⟩
theorem H9 {c:Ctx} {E:Nat->Option Nat} {F:AF} {L:List AB} {a:Act} {w:World} (h:eE c E F L a w) (x:Option Operand) :
  (∀ y,yJ F x=some y->∃ u,x.map a.eval=some u/\VR (aj c.M0 E L w) y u)/\(yJ F x=none->x.map a.eval=none):=by
 cases x with
 | none=>exact ⟨(λy h=>by cases h),λ_=>rfl⟩
 | some x=>exact ⟨λy hy=>by simp only [yJ,ke] at hy;subst hy;exact ⟨_,rfl,h.ev x⟩,(λh=>by cases h)⟩
theorem ux {c:Ctx} {E:Nat->Option Nat} {F:AF} {L:List AB} {a:Act} {w:World} (h:eE c E F L a w) (parts:Array (Nat×Operand)) :
  (parts.map λ(i,x)=>(i,a.eval x)).size=(vB F parts.toList).length /\
  ∀ (j i:Nat) (x:AV),(vB F parts.toList)[j]? = some (i,x)->∃ v,(parts.map λ(i,x)=>(i,a.eval x))[j]? = some (i,v)/\VR (aj c.M0 E L w) x v:=by
 refine ⟨by simp [vB],λj i x hx=>?_⟩;simp only [vB,CD] at hx
 cases hp:parts.toList[j]? with
 | none=>rw [hp] at hx;cases hx
 | some p =>
   rw [hp] at hx;simp only [WB,ke,zeV] at hx;obtain ⟨rfl,rfl⟩:=hx;have:parts[j]? = some p:=by simpa using hp
   exact ⟨a.eval p.2,by simp [this],h.ev p.2⟩
theorem zz (a:Act) (o:Oper) (x:Operand) (ts:Array TypeId) (ho:o.op = .call { callee := .builtin .len,args := #[x],argTypes:=ts }) {w:World} {v:Value}
  (h:(Builtin.len_ ts o.type #[a.eval x]).run P w = .ok v w):(execOp a.eval o).run P w = .ok (.value v) w:=by
 simp [execOp,ho,resolve,invoke,builtin,h]
theorem Ls (ht:cp P tt) {t:TypeId} {i:TI} (hi:tt t=some i) {c:Ctx} {E:Nat->Option Nat} {L:List AB} {w:World} (hs:aI c E L w) {x:AV} {K:AV->Prop} (h:FR L i.desc x K) {v:Value} (hv:VR (aj c.M0 E L w) x v)
  (ts:Array TypeId) (rt:TypeId) (j9:ts[0]? = some t):∃ z:Int,(Builtin.len_ ts rt #[v]).run P w = .ok (.j z) w/\K (.k z):=by
 unfold FR at h;split at h
 ·exact Lj ht hs hi h hv ts rt j9
 ·exact Sv ht hi hs h hv ts rt j9
theorem uy (a:Act) (o:Oper) (s x:Operand) (ts:Array TypeId) (ho:o.op = .call { callee := .builtin .delete,args := #[s,x],argTypes:=ts }) {w w':World} {v:Value}
  (h:(Builtin.delete_ ts o.type #[a.eval s,a.eval x]).run P w = .ok v w'):(execOp a.eval o).run P w = .ok (.value v) w':=by
 simp [execOp,ho,resolve,invoke,builtin,h]
theorem mQ (a:Act) (o:Oper) (s x:Operand) (ts:Array TypeId) (ho:o.op = .call { callee := .builtin .append,args := #[s,x],argTypes:=ts }) {w w':World} {v:Value}
  (h:(Builtin.append_ ts o.type #[a.eval s,a.eval x]).run P w = .ok v w'):(execOp a.eval o).run P w = .ok (.value v) w':=by
 simp [execOp,ho,resolve,invoke,builtin,h]
theorem xJ (a:Act) (o:Oper) (s x:Operand) (ts:Array TypeId) (ho:o.op = .call { callee := .builtin .copy,args := #[s,x],argTypes:=ts }) {w w':World} {v:Value}
  (h:(Builtin.copy_ ts o.type #[a.eval s,a.eval x]).run P w = .ok v w'):(execOp a.eval o).run P w = .ok (.value v) w':=by
 simp [execOp,ho,resolve,invoke,builtin,h]
theorem yL (eZ:jx P fo) (a:Act) (o:Oper) (cl:Call) (f:Operand) (ho:o.op = .call cl) (hf:cl.callee = .value f) {g:FuncId} (hg:fo g=true) {us:Array Value} (PN:a.eval f = .func (.func g) #[] us) (w:World) :
  (execOp a.eval o).run P w = .ok (.enter g (cl.args.map a.eval++us)) w:=by
 obtain ⟨fn,h1,h2,h3⟩:=eZ g hg;have h4:¬fn.name = "runtime.NumGoroutine" := by simpa using h2
 have h5:¬fn.body=none:=by intro e;rw [e] at h3;cases h3
 simp [execOp,ho,resolve,hf,PN,Deferred.ofValue,invoke,callFunc,h1,h4,h5]
theorem sG (ht:cp P tt) (hz:jL tt) (eZ:jx P fo) {o:Oper} {c:Ctx} (hc:c.wf) {E:Nat->Option Nat} {F:AF} {L:List AB} {a:Act} {w:World} {K:AV->List AB->Prop}
  (h:mP P tt fo o F L K) (hs:eE c E F L a w):DP P o c F L a w K:=by
 -- three ways to end
 have val:∀ {v:Value} {av:AV},(execOp a.eval o).run P w = .ok (.value v) w->VR (aj c.M0 E L w) av v->K av L->DP P o c F L a w K :=
  λhr hv hK => .inl ⟨_,w,_,hr,E,L,hK,hs,hv⟩
 have xK:∀ {v:Value} {w':World} {E':Nat->Option Nat} {av:AV} {L':List AB},(execOp a.eval o).run P w = .ok (.value v) w'->K av L'->aI c E' L' w'->(aj c.M0 E L w).le (aj c.M0 E' L' w')->VR (aj c.M0 E' L' w') av v->DP P o c F L a w K :=
  λhr hK bP hle hv => .inl ⟨_,_,_,hr,_,_,hK,hs.mono bP hle,hv⟩
 unfold mP at h;split at h
 ·rename_i x ho;exact val (by simp [execOp,ho]) (hs.ev x) (gj h)
 ·rename_i x ho
  cases hn:sF x with
  | false=>rw [hn] at h;simp only [py] at h;exact val (by simp [execOp,ho]) (hs.ev x) (gj h)
  | true =>
    rw [hn] at h;have hx:x = .const (.slice none 0 0):=by
     revert hn;unfold sF;split<;>simp
    subst hx;obtain ⟨E',av,L',h1,h2,h3,h4⟩:=AA ht hc hs.h h;exact xK (by simp [execOp,ho];rfl) h1 h2 h3 h4
 ·rename_i cc x y ho;split at h
  ·rename_i t yM;have hb:=hs.ev cc;rw [yM] at hb;simp only [VR,VD] at hb
   cases t with
   | true=>simp only [c_] at h;exact val (by simp [execOp,ho,hb,asBool]) (hs.ev x) (gj h)
   | false=>simp only [c_] at h;exact val (by simp [execOp,ho,hb,asBool]) (hs.ev y) (gj h)
  ·exact h.elim
 ·rename_i t ho;obtain ⟨r,w',E',av,L',h1,h2,h3,h4,h5⟩:=Lq ht hc hs.h h;exact xK (by simp [execOp,ho,h1]) h2 h3 h4 h5
 ·rename_i t x ho;obtain ⟨r,w',E',av,L',h1,h2,h3,h4,h5⟩:=Tl ht hc hs.h h t (hs.ev x);exact xK (by simp [execOp,ho,h1]) h2 h3 h4 h5
 ·rename_i t r ho;obtain ⟨rfl,h⟩:=H6 h;obtain ⟨r,w',E',av,L',h1,h2,h3,h4,h5⟩:=HW (P:=P) hc hs.h h t;exact xK (by simp [execOp,ho,h1]) h2 h3 h4 h5
 ·rename_i t m k ok ho;obtain ⟨r,av,h1,h2,h3⟩:=Lg ht hs.h h (hs.ev m) (hs.ev k);exact val (by simp [execOp,ho,h1]) h3 h2
 ·rename_i t m k v ho;obtain ⟨w',L',h2,h3,h4,h5⟩:=tL ht hc hs.h h (hs.ev m) (hs.ev k) (hs.ev v);exact .inr (.inl ⟨w',.d .any,by simp [execOp,ho,h2],E,L',h3,hs.mono h4 h5,by simp [VR,VD]⟩)
 ·rename_i t m k v ho;obtain ⟨w',L',h2,h3,h4,h5⟩:=tL ht hc hs.h h (hs.ev m) (hs.ev k) (hs.ev v);exact .inr (.inl ⟨w',.d .any,by simp [execOp,ho,h2],E,L',h3,hs.mono h4 h5,by simp [VR,VD]⟩)
 ·rename_i t parts ho;obtain ⟨hl,hp⟩:=ux hs parts;obtain ⟨r,av,h1,h2,h3⟩:=PG (P:=P) ht (nH h) hl hp;exact val (by simp [execOp,ho,h1]) h3 h2
 ·rename_i t len parts ho;obtain ⟨hl,hp⟩:=ux hs parts;obtain ⟨r,w',E',av,L',h1,h2,h3,h4,h5⟩:=AD ht hc hs.h (nH h) hl hp;exact xK (by simp [execOp,ho,h1]) h2 h3 h4 h5
 ·rename_i t x y ho;obtain ⟨r,w',E',av,L',h1,h2,h3,h4,h5⟩:=C1 (P:=P) ht hc hs.h h (hs.ev x) (hs.ev y);exact xK (by simp [execOp,ho,h1]) h2 h3 h4 h5
 ·rename_i t x ho;obtain ⟨i,hi,h1⟩:=bI h;obtain ⟨r,av,h2,h3,h4⟩:=HC ht hi hs.h h1 (hs.ev x);exact val (by simp [execOp,ho,h2]) h4 (gj h3)
 ·rename_i t x y ho;obtain ⟨w',L',h2,h3,h4,h5⟩:=Fz ht hc hs.h h (hs.ev x) (hs.ev y);exact .inr (.inl ⟨w',.d .any,by simp [execOp,ho,h2],E,L',h3,hs.mono h4 h5,by simp [VR,VD]⟩)
 ·rename_i x ho;obtain ⟨p,h1,h2⟩:=Ft h (hs.ev x);exact val (v := .pointer (some p)) (by simp [execOp,ho,h1]) (by rw [<-h1];exact hs.ev x) h2
 ·rename_i op t x y yt ho;have key:∃ r av,(eqGuard op t x y (a.eval x) (a.eval y)).run P w = .ok () w/\(binOp op t (a.eval x) (a.eval y)).run P w = .ok r w/\K av L/\∀ R,VR R av r:=by
   cases hn:sF y with
   | true=>rw [hn] at h;simp only [jB] at h;exact Tg (P:=P) (w:=w) ht hc hs.h h (hs.ev x) (hs.ev y) x y
   | false =>
     rw [hn] at h;simp only [py] at h
     cases ha:Te (ev F x) with
     | true=>rw [ha] at h;simp only [jB] at h;exact Xq (P:=P) (w:=w) h (hs.ev x) (hs.ev y) x y
     | false=>rw [ha] at h;simp only [py] at h;exact Fp (P:=P) (w:=w) ht h (hs.ev x) (hs.ev y) x y
  obtain ⟨r,av,h1,h2,h3,h4⟩:=key;exact val (by simp [execOp,ho,h1,h2]) (h4 _) h3
 ·rename_i op t x ho;obtain ⟨r,av,h1,h2,h3⟩:=abG (P:=P) (w:=w) h (hs.ev x);exact val (by simp [execOp,ho,h1]) h3 h2
 ·rename_i s d x ho;obtain ⟨r,w',E',av,L',h1,h2,h3,h4,h5⟩:=HP ht hc hs.h h (hs.ev x);exact xK (by simp [execOp,ho,h1]) h2 h3 h4 h5
 ·rename_i t x lo hi mx ho;obtain ⟨rfl,h⟩:=H6 h;obtain ⟨l1,l2⟩:=H9 hs lo;obtain ⟨m1,m2⟩:=H9 hs hi;obtain ⟨r,av,L',h1,h2,h3,h4,h5⟩:=PC ht hc hs.h h (hs.ev x) l1 l2 m1 m2;exact xK (by simp [execOp,ho,h1]) h2 h3 h4 h5
 ·rename_i s x k ho;obtain ⟨r,av,h1,h2,h3⟩:=CS (P:=P) ht h (hs.ev x);exact val (by simp [execOp,ho,h1]) h3 h2
 ·rename_i s x k ho;obtain ⟨r,av,h1,h2,h3⟩:=PA (P:=P) (w:=w) ht h (hs.ev x);exact val (by simp [execOp,ho,h1]) h3 (gj h2)
 ·rename_i t x ix ho;obtain ⟨r,av,h1,h2,h3⟩:=CT ht hs.h h (hs.ev x) (hs.ev ix);exact val (by simp [execOp,ho,h1]) h3 h2
 ·rename_i t x ix ho;obtain ⟨r,av,h1,h2,h3⟩:=PB (P:=P) (w:=w) ht h (hs.ev x) (hs.ev ix);exact val (by simp [execOp,ho,h1]) h3 h2
 ·rename_i x k ho;obtain ⟨r,av,h1,h2,h3⟩:=HF (P:=P) (w:=w) h (hs.ev x);exact val (by simp [execOp,ho,h1]) h3 (gj h2)
 ·rename_i cl ho;unfold FT at h;split at h
  ·rename_i f hf;have h1:=gj h;split at h1
   ·rename_i g qI hg
    cases hfg:fo g with
    | false=>rw [hfg] at h1;exact h1.elim
    | true =>
      rw [hfg] at h1;have h1:=FP h1;have hfe:=hs.ev f;rw [hg] at hfe;simp only [VR] at hfe;obtain ⟨us,air,afi⟩:=hfe;refine .inr (.inr ⟨g,_,w,yL eZ a o cl f ho hf hfg air w,?_⟩);have h1:(rB tt cl.argTypes.toList (evs F cl.args.toList) λcS=>NK P g (cS++qI) L K)∨rC tt cl.argTypes.toList (evs F cl.args.toList) L λcS L=>ry P g (cS++qI) L K:=by
       cases hb:NV tt cl.argTypes.toList (evs F cl.args.toList) with
       | true=>rw [hb] at h1;exact h1
       | false=>rw [hb] at h1;exact .inl h1
      rcases h1 with h1|h1
      rotate_left
      ·obtain ⟨E1,avs',L1,h2,dR,eX,uZ⟩:=rD ht hc hs.h h1 (zU hs cl.args.toList);have gp:cD (aj c.M0 E1 L1 w) (avs'++qI) (cl.args.map a.eval++us).toList:=by
        have:=uw uZ (cD.mono eX _ _ afi);simpa using this
       refine (rz hc dR h2 gp).mono ?_;rintro e w' ⟨v,av,E',L',rfl,k1,k2,k3,k4⟩;exact ⟨v,av,rfl,E',L',k1,hs.mono k2 (eX.trans k3),k4⟩
      obtain ⟨avs',h2,nw⟩:=DO h1;have gp:cD (aj c.M0 E L w) (avs'++qI) (cl.args.map a.eval++us).toList:=by
       have:=uw (nw _ _ (zU hs cl.args.toList)) afi;simpa using this
      refine (SZ hc hs.h h2 gp).mono ?_;rintro e w' ⟨v,av,E',L',rfl,k1,k2,k3,k4⟩;exact ⟨v,av,rfl,E',L',k1,hs.mono k2 k3,k4⟩
   ·exact h1.elim
  ·rename_i hf;split at h
   ·rename_i x y gp;have ea:cl.args = #[x,y]:=by rw [<-uX (xs:=cl.args),gp]
    obtain ⟨r,av,h2,h3,h4⟩:=H8 (P:=P) (w:=w) (ts:=cl.argTypes) (ty:=o.type) h (hs.ev x) (hs.ev y);exact val (by
     have S5:=h2;simp only at S5;simp [execOp,ho,resolve,hf,invoke,builtin,ea,S5]) h4 h3
   ·exact h.elim
  ·rename_i hf;split at h
   ·rename_i x y gp;have ea:cl.args = #[x,y]:=by rw [<-uX (xs:=cl.args),gp]
    obtain ⟨r,av,h2,h3,h4⟩:=H8 (P:=P) (w:=w) (ts:=cl.argTypes) (ty:=o.type) h (hs.ev x) (hs.ev y);exact val (by
     have S5:=h2;simp only at S5;simp [execOp,ho,resolve,hf,invoke,builtin,ea,S5]) h4 h3
   ·exact h.elim
  ·rename_i hf;split at h
   ·rename_i x y gp;have ea:cl.args = #[x,y]:=by rw [<-uX (xs:=cl.args),gp]
    obtain ⟨r,av,h2,h3,h4⟩:=Tn (P:=P) (w:=w) (ts:=cl.argTypes) (ty:=o.type) h (hs.ev x) (hs.ev y);exact val (by simp [execOp,ho,resolve,hf,invoke,builtin,ea,h2]) h4 h3
   ·exact h.elim
  ·rename_i hf;split at h
   ·rename_i x gp;have ea:cl.args = #[x]:=by rw [<-uX (xs:=cl.args),gp]
    obtain ⟨r,av,h2,h3,h4⟩:=H5 (P:=P) (w:=w) (ts:=cl.argTypes) (ty:=o.type) h (hs.ev x);simp only at h2;exact val (by simp [execOp,ho,resolve,hf,invoke,builtin,ea,h2]) h4 h3
   ·exact h.elim
  ·rename_i hf;split at h
   ·rename_i x gp;have ea:cl.args = #[x]:=by rw [<-uX (xs:=cl.args),gp]
    obtain ⟨r,av,h2,h3,h4⟩:=H5 (P:=P) (w:=w) (ts:=cl.argTypes) (ty:=o.type) h (hs.ev x);simp only at h2;exact val (by simp [execOp,ho,resolve,hf,invoke,builtin,ea,h2]) h4 h3
   ·exact h.elim
  ·rename_i hf;split at h
   ·rename_i x t gp H_;obtain ⟨i,hi,h1⟩:=bI h;have ea:cl.args = #[x]:=by rw [<-uX (xs:=cl.args),gp]
    have et:cl.argTypes = #[t]:=by rw [<-uX (xs:=cl.argTypes),H_]
    obtain ⟨z,h2,h3⟩:=Ls (P:=P) ht hi hs.h h1 (hs.ev x) #[t] o.type (by simp);exact val (zz a o x #[t] (by rw [ho];cases cl;simp_all) h2) (by simp [VR,VD]) h3
   ·exact h.elim
  ·rename_i hf;split at h
   ·rename_i x k t ts gp H_;have ea:cl.args = #[x,k]:=by rw [<-uX (xs:=cl.args),gp]
    have et:cl.argTypes[0]? = some t:=by rw [<-ZF,H_];rfl
    obtain ⟨w',L',h2,h3,h4,h5⟩:=Li ht hc hs.h h (hs.ev x) (hs.ev k) cl.argTypes et o.type;exact .inl ⟨_,w',.d .any,uy a o x k cl.argTypes (by rw [ho];cases cl;simp_all) h2,E,L',h3,hs.mono h4 h5,by simp [VR,VD]⟩
   ·exact h.elim
  ·rename_i hf;split at h
   ·rename_i s x t t' gp H_
    cases hb:Nat.beq t t' with
    | false =>
      rw [hb] at h;simp only [py] at h;have ea:cl.args = #[s,x]:=by rw [<-uX (xs:=cl.args),gp]
      have et:cl.argTypes = #[t,t']:=by rw [<-uX (xs:=cl.argTypes),H_]
      obtain ⟨r,w',E',av,L',m1,m2,m3,m4,m5⟩:=H3 ht hz hc hs.h h o.type (hs.ev s) (hs.ev x);exact xK (mQ a o s x #[t,t'] (by rw [ho];cases cl;simp_all) m1) m2 m3 m4 m5
    | true =>
      rw [hb] at h;have:=ie hb;subst this;simp only [jB] at h;have ea:cl.args = #[s,x]:=by rw [<-uX (xs:=cl.args),gp]
      have et:cl.argTypes = #[t,t]:=by rw [<-uX (xs:=cl.argTypes),H_]
      unfold pP at h;obtain ⟨i,hi,h1⟩:=bI h;split at h1
      ·rename_i e he;obtain ⟨ei,iw,h2⟩:=bI h1;have hd:i.desc = .slice e:=by
        revert he
        cases i.desc<;>simp [bY]
       obtain ⟨jw,_⟩:=ht t i hi;rw [hd] at jw
       cases iR:(Nat.beq ei.size 0||Nat.beq ei.bytes 0) with
       | true=>rw [iR] at h2;exact h2.elim
       | false =>
         rw [iR] at h2;simp only [py] at h2;simp only [ze1] at iR;have hn:0<ei.size:=by
          rcases Hk ei.size with h|h
          ·rw [h] at iR;cases iR.1
          ·exact h
         have AE:0<ei.bytes:=by
          rcases Hk ei.bytes with h|h
          ·rw [h] at iR;cases iR.2
          ·exact h
         obtain ⟨ys,k1,k4⟩:=HJ hs.h hn h2 (hs.ev x);obtain ⟨r,w',E',av,L',m1,m2,m3,m4,m5⟩:=yC ht jw iw (hz e ei iw) hn AE hc hs.h k1 o.type (hs.ev s) k4;exact xK (mQ a o s x #[t,t] (by rw [ho];cases cl;simp_all) m1) m2 m3 m4 m5
      ·exact h1.elim
   ·exact h.elim
  ·rename_i hf;split at h
   ·rename_i s x t t' gp H_;have ea:cl.args = #[s,x]:=by rw [<-uX (xs:=cl.args),gp]
    have et:cl.argTypes = #[t,t']:=by rw [<-uX (xs:=cl.argTypes),H_]
    obtain ⟨r,w',av,L',m1,m2,m3,m4,m5⟩:=S_ (t':=t') ht hc hs.h h o.type (hs.ev s) (hs.ev x);exact xK (xJ a o s x #[t,t'] (by rw [ho];cases cl;simp_all) m1) m2 m3 m4 m5
   ·exact h.elim
  ·exact h.elim
 ·rename_i fn first qI ho
  obtain ⟨f,rfl,hf0,h⟩:=H7 h;have hfe:first = #[]:=by rw [<-uX (xs:=first),hf0]
  subst hfe;refine val (v := .func (.func f) #[] (qI.map a.eval)) (by simp [execOp,ho,Instr.makeFunc]) ?_ (FP h);simp only [VR];exact ⟨_,rfl,by simpa using zU hs qI.toList⟩
 ·rename_i t x ho;obtain ⟨r,w',E',av,L',h1,h2,h3,h4,h5⟩:=Lk (P:=P) ht hc hs.h h (hs.ev x);exact xK (by simp [execOp,ho,h1]) h2 h3 h4 h5
 ·rename_i x str ho;obtain ⟨r,w',av,L',h1,h2,h3,h4,h5⟩:=PL (P:=P) hs.h h o.type (hs.ev x);exact xK (by simp [execOp,ho,h1]) h2 h3 h4 h5
 ·exact h.elim
end
end
noncomputable section
open Go.RowKit
def AW (P:Program) (n k0:Nat) (code:Code) (Q:Exit->AF->List AB->Prop) (F:AF) (L:List AB):Prop :=
 ∀ (c:Ctx) (E:Nat->Option Nat) (a:Act) (w:World),c.wf->c.n=n->c.L0.length=k0->eE c E F L a w ->
   code.wp P (λx a' w'=>∃ E' F' L',eE c E' F' L' a' w'/\Q x F' L') a w
theorem AW.mono {P:Program} {n k0:Nat} {code:Code} {Q Q':Exit->AF->List AB->Prop} {F:AF} {L:List AB} (h:AW P n k0 code Q F L) (hq:∀ x F L,Q x F L->Q' x F L):AW P n k0 code Q' F L :=
 λc E a w h1 h2 h3 h4=>wp_mono (h c E a w h1 h2 h3 h4) λ_ _ _ ⟨E',F',L',k1,k2⟩=>⟨E',F',L',k1,hq _ _ _ k2⟩
def jM (n:Nat):Option Nat->Bool
 | none=>true
 | some d=>Nat.blt d n
theorem rE {n:Nat} {d:Option Nat} (h:jM n d=true):∀ x,d=some x->x<n:=by
 intro x hx;subst hx;simp only [jM] at h;exact kO (Nt _) (Hh h)
noncomputable def rF (l:List Oper):Nat->Option Nat :=
 List.rec (motive:=λ_=>Nat->Option Nat) (λ_=>none) (λo _ ih j=>Nat.rec (motive:=λ_=>Option Nat) o.dst (λm _=>ih m) j) l
theorem sH:∀ {ops:List Oper} {j:Nat} {s:Nat},rF ops j=some s->∃ o,ops[j]? = some o/\o.dst=some s
 | [],_,_,h=>by cases h
 | o :: _,0,s,h=>⟨o,by simp,h⟩
 | _ :: r,j+1,s,h=>by
   obtain ⟨o,h1,h2⟩:=sH (ops:=r) h;exact ⟨o,by simpa using h1,h2⟩
def nI (P:Program) (tt:TypeId->Option TI) (fo:FuncId->Bool) (n:Nat) (full:List Oper):List Oper->AF->List AB->(AF->List AB->Prop)->Prop
 | [],F,L,K=>K F L
 | o :: r,F,L,K =>
   bif jM n o.dst then
    match o.guard with
    | none=>mP P tt fo o F L λv L'=>nI P tt fo n full r (cu F o.dst v) L' K
    | some (j,want)=>match rF full j with
      | some s=>match bt F s with
        | .d (.bool t)=>match want with
          | true=>c_ t (mP P tt fo o ((s,.d (.bool true)) :: F) L λv L'=>nI P tt fo n full r (cu ((s,.d (.bool true)) :: F) o.dst v) L' K)
             (nI P tt fo n full r (cu ((s,.d (.bool false)) :: F) o.dst (.tup [])) L K)
          | false=>c_ t (nI P tt fo n full r (cu ((s,.d (.bool true)) :: F) o.dst (.tup [])) L K)
             (mP P tt fo o ((s,.d (.bool false)) :: F) L λv L'=>nI P tt fo n full r (cu ((s,.d (.bool false)) :: F) o.dst v) L' K)
        | .tup cs=>match cs with
          | []=>nI P tt fo n full r (cu F o.dst (.tup [])) L K
          | _=>False
        | _=>False
      | none=>False
   else False
section
variable {P:Program} {tt:TypeId->Option TI} {fo:FuncId->Bool} {n:Nat}
theorem vD {o:Oper} {c:Ctx} (hn:∀ x,o.dst=some x->x<c.n) {F:AF} {L:List AB} {a:Act} {w:World} {K:AV->List AB->Prop} (h:DP P o c F L a w K)
  {K':Act->World->Prop} {Q:Exit->Act->World->Prop} (hK:∀ av L' E' a' w',K av L'->eE c E' (cu F o.dst av) L' a' w'->K' a' w'):o.wp P a w K' Q:=by
 unfold Oper.wp;rcases h with ⟨v,w',av,hr,E',L',h1,h2,h3⟩|⟨w',av,hr,E',L',h1,h2,h3⟩|⟨f,vs,w',hr,vE⟩
 ·rw [hr];exact hK av L' E' _ w' h1 (h2.put o.dst av v hn h3)
 ·rw [hr];exact hK av L' E' _ w' h1 (h2.put o.dst av undef hn h3)
 ·rw [hr];refine vE.mono ?_;rintro e w'' ⟨v,av,rfl,E',L',h1,h2,h3⟩;exact hK av L' E' _ w'' h1 (h2.put o.dst av v hn h3)
theorem eE.abK {c:Ctx} {E:Nat->Option Nat} {F:AF} {L:List AB} {a:Act} {w:World} (h:eE c E F L a w) {s:Nat} {x:AV} (hx:bt F s=x):eE c E ((s,x) :: F) L a w :=
 h.vg λs'=>by
  simp only [du,b_]
  cases hb:Nat.beq s s' with
  | true=>left;rw [<-ie hb,hx];rfl
  | false=>left;rfl
theorem oL (ht:cp P tt) (hz:jL tt) (eZ:jx P fo) {full:List Oper} {c:Ctx} (hc:c.wf) (dS:c.n=n) {Q:Exit->Act->World->Prop} {K:AF->List AB->Prop} :
  ∀ {ops:List Oper} {E:Nat->Option Nat} {F:AF} {L:List AB} {a:Act} {w:World},nI P tt fo n full ops F L K->eE c E F L a w ->
    (∀ E' F' L' a' w',K F' L'->eE c E' F' L' a' w'->Q .normal a' w')->wpList P full.toArray Q ops a w
 | [],E,F,L,a,w,h,hs,hq=>hq E F L a w h hs
 | o :: r,E,F,L,a,w,h,hs,hq=>by
   simp only [nI] at h
   cases hd:jM n o.dst with
   | false=>rw [hd] at h;exact h.elim
   | true =>
     rw [hd] at h;simp only [jB] at h;have qQ:∀ x,o.dst=some x->x<c.n:=by rw [dS];exact rE hd
     split at h
     ·rename_i hg;refine wpList_plain hg λK' Xs=>?_;refine vD qQ (sG ht hz eZ hc h hs) ?_;intro av L' E' a' w' hk bP;exact Xs _ _ (oL ht hz eZ hc dS hk bP hq)
     ·rename_i j want hg;split at h
      ·rename_i s ui;obtain ⟨og,hog,PO⟩:=sH ui;split at h
       ·rename_i t htv;have hb:=hs.dL s;rw [htv] at hb;simp only [VR,VD] at hb
        -- SX DE guard reads
        have hy:t=true∨t=false:=by cases t<;>simp
        have A4:yielded full.toArray a.tmps j=some t:=by
         unfold yielded;have:full.toArray[j]? = some og:=by simpa using hog
         simp only [this,WU,PO];by_cases bB:s<a.tmps.size
         ·have:a.tmps[s]? = some (a.tmps.getD s undef):=by simp [bB]
          rw [this,hb]
         ·exfalso;have:a.tmps.getD s undef=undef:=by simp [ze5 bB]
          rw [this] at hb
          cases hb
        have hw:Region.wanted o (yielded full.toArray a.tmps)=decide (t=want):=by
         unfold Region.wanted;rw [hg];simp only [A4]
         cases t<;>cases want<;>rfl
        have hsk:∀ b,t=b->eE c E ((s,.d (.bool b)) :: F) L a w:=λb kg=>hs.abK (by rw [htv,kg])
        -- DE operation runs
        have run:∀ b,t=b->t=want->(mP P tt fo o ((s,.d (.bool b)) :: F) L λv L'=>nI P tt fo n full r (cu ((s,.d (.bool b)) :: F) o.dst v) L' K)->wpList P full.toArray Q (o :: r) a w:=by
         intro b kg tQ WD;refine wpList_step λK' Xs=>?_;rw [hw,bp (by simpa using tQ)];refine vD qQ (sG ht hz eZ hc WD (hsk b kg)) ?_;intro av L' E' a' w' hk bP;exact Xs _ _ (oL ht hz eZ hc dS hk bP hq)
        have skip:∀ b,t=b->t≠want->(nI P tt fo n full r (cu ((s,.d (.bool b)) :: F) o.dst (.tup [])) L K)->wpList P full.toArray Q (o :: r) a w:=by
         intro b kg tQ WD;refine wpList_step λK' Xs=>?_;rw [hw,aR (by simpa using tQ)];exact Xs _ _ (oL ht hz eZ hc dS WD ((hsk b kg).put o.dst (.tup []) undef qQ (by simp [VR,cD,undef])) hq)
        cases want with
        | true =>
          simp only at h
          cases t with
          | true=>simp only [c_] at h;exact run true rfl rfl h
          | false=>simp only [c_] at h;exact skip false rfl (by simp) h
        | false =>
          simp only at h
          cases t with
          | true=>simp only [c_] at h;exact skip true rfl (by simp) h
          | false=>simp only [c_] at h;exact run false rfl rfl h
       ·rename_i cs htv
        cases cs with
        | cons x r=>exact h.elim
        | nil =>
          have hb:=hs.dL s;rw [htv] at hb;simp only [VR,cD] at hb;obtain ⟨us,eS,iR⟩:=hb;have A4:yielded full.toArray a.tmps j=none:=by
           unfold yielded;have:full.toArray[j]? = some og:=by simpa using hog
           simp only [this,WU,PO];by_cases bB:s<a.tmps.size
           ·have:a.tmps[s]? = some (a.tmps.getD s undef):=by simp [bB]
            rw [this,eS]
           ·have:a.tmps[s]? = none:=by simp [ze5 bB]
            rw [this]
          have hw:Region.wanted o (yielded full.toArray a.tmps)=false:=by
           unfold Region.wanted;rw [hg];simp only [A4];rfl
          refine wpList_step λK' Xs=>?_;rw [hw,aR (by simp)];exact Xs _ _ (oL ht hz eZ hc dS h (hs.put o.dst (.tup []) undef qQ (by simp [VR,cD,undef])) hq)
       ·exact h.elim
      ·exact h.elim
end
def cw (P:Program) (n k0:Nat) (id:Nat) (ops:Array Oper) (K:AF->List AB->Prop) (F:AF) (L:List AB):Prop :=
 AW P n k0 (.region id ops true) (λe F' L'=>e = .normal/\K F' L') F L
def A5 (F:AF) (x:Operand) (A B:AF->Prop):Prop :=
 match x with
 | .tmp s=>match bt F s with
   | .d (.bool t)=>c_ t (A ((s,.d (.bool true)) :: F)) (B ((s,.d (.bool false)) :: F))
   | _=>False
 | .const (.bool t)=>c_ t (A F) (B F)
 | _=>False
def dY (P:Program) (tt:TypeId->Option TI) (fo:FuncId->Bool) (n k0:Nat):Code->(Exit->AF->List AB->Prop)->AF->List AB->Prop
 | .skip,Q,F,L=>Q .normal F L
 | .region id ops draw,Q,F,L=>match draw with
   | false=>nI P tt fo n ops.toList ops.toList F L λF L=>Q .normal F L
   | true=>cw P n k0 id ops (λF L=>Q .normal F L) F L
 | .seq x y,Q,F,L=>match x with
   | .label _=>AW P n k0 y Q F L
   | x=>dY P tt fo n k0 x (λe F L=>match e with
     | .normal=>dY P tt fo n k0 y Q F L
     | .exit id=>Q (.exit id) F L
     | .goto l=>Q (.goto l) F L
     | .ret=>Q .ret F L
     | _=>False) F L
 | .cond c x y,Q,F,L=>A5 F c (λF=>dY P tt fo n k0 x Q F L) (λF=>dY P tt fo n k0 y Q F L)
 | .block id x,Q,F,L=>dY P tt fo n k0 x (λe F L=>match e with
    | .normal=>Q .normal F L
    | .exit Hd=>bif Nat.beq Hd id then Q .normal F L else Q (.exit Hd) F L
    | .goto l=>Q (.goto l) F L
    | .ret=>Q .ret F L
    | _=>False) F L
 | .loop x,Q,F,L=>AW P n k0 (.loop x) Q F L
 | .exit id,Q,F,L=>Q (.exit id) F L
 | .ret,Q,F,L=>Q .ret F L
 | .goto l,Q,F,L=>Q (.goto l) F L
 | .label _,Q,F,L=>Q .normal F L
 | .scope x,Q,F,L=>AW P n k0 (.scope x) Q F L
 | _,_,_,_=>False
section
variable {P:Program} {tt:TypeId->Option TI} {fo:FuncId->Bool} {n k0:Nat}
theorem A6 {F:AF} {x:Operand} {A B:AF->Prop} (h:A5 F x A B) {c:Ctx} {E:Nat->Option Nat} {L:List AB} {a:Act} {w:World} (hs:eE c E F L a w) :
  ∃ t F',a.eval x = .bool t/\eE c E F' L a w/\(if t then A F' else B F'):=by
 unfold A5 at h;split at h
 ·rename_i s;split at h
  ·rename_i t ht;have hb:=hs.dL s;rw [ht] at hb;simp only [VR,VD] at hb
   cases t with
   | true=>exact ⟨true,_,hb,hs.abK (by rw [ht]),by simpa [c_] using h⟩
   | false=>exact ⟨false,_,hb,hs.abK (by rw [ht]),by simpa [c_] using h⟩
  ·exact h.elim
 ·rename_i t
  cases t with
  | true=>exact ⟨true,_,rfl,hs,by simpa [c_] using h⟩
  | false=>exact ⟨false,_,rfl,hs,by simpa [c_] using h⟩
 ·exact h.elim
theorem fE (ht:cp P tt) (hz:jL tt) (eZ:jx P fo):∀ (code:Code) {Q:Exit->AF->List AB->Prop} {F:AF} {L:List AB},dY P tt fo n k0 code Q F L->AW P n k0 code Q F L
 | .skip,Q,F,L,h=>λc E a w _ _ _ hs=>wp_skip ⟨E,F,L,hs,h⟩
 | .region id ops draw,Q,F,L,h=>by
   cases draw with
   | false =>
     intro c E a w hc dS _ hs;simp only [dY] at h;refine wp_region_list ?_;have:=oL (Q:=λx a' w'=>∃ E' F' L',eE c E' F' L' a' w'/\Q x F' L') ht hz eZ hc dS h hs (λE' F' L' a' w' hk bP=>⟨E',F',L',bP,hk⟩);rw [uX] at this;exact this
   | true =>
     intro c E a w hc dS hk hs;simp only [dY] at h;refine wp_mono (h c E a w hc dS hk hs) ?_;rintro x a' w' ⟨E',F',L',h1,rfl,h2⟩;exact ⟨E',F',L',h1,h2⟩
 | .seq x y,Q,F,L,h=>by
   intro c E a w hc dS hk hs;have h':(∃ l,x = .label l/\AW P n k0 y Q F L)∨dY P tt fo n k0 x (λe F L=>match e with
    | .normal=>dY P tt fo n k0 y Q F L
    | .exit id=>Q (.exit id) F L
    | .goto l=>Q (.goto l) F L
    | .ret=>Q .ret F L
    | _=>False) F L:=by
    cases x<;>first|exact .inr h|exact .inl ⟨_,rfl,h⟩
   rcases h' with ⟨l,rfl,h⟩|h
   ·exact wp_seq (wp_label (h c E a w hc dS hk hs))
   refine wp_seq (wp_mono (fE ht hz eZ x h c E a w hc dS hk hs) ?_);rintro e a' w' ⟨E',F',L',h1,h2⟩
   cases e with
   | normal=>exact fE ht hz eZ y h2 c E' a' w' hc dS hk h1
   | exit id=>exact ⟨E',F',L',h1,h2⟩
   | goto l=>exact ⟨E',F',L',h1,h2⟩
   | ret=>exact ⟨E',F',L',h1,h2⟩
   | panic ch=>exact h2.elim
   | outgrown=>exact h2.elim
 | .cond cx x y,Q,F,L,h=>by
   intro c E a w hc dS hk hs;simp only [dY] at h;obtain ⟨t,F',h1,h2,h3⟩:=A6 h hs;refine wp_cond h1 ?_
   cases t with
   | true=>exact fE ht hz eZ x h3 c E a w hc dS hk h2
   | false=>exact fE ht hz eZ y h3 c E a w hc dS hk h2
 | .block id x,Q,F,L,h=>by
   intro c E a w hc dS hk hs;simp only [dY] at h;refine wp_block (wp_mono (fE ht hz eZ x h c E a w hc dS hk hs) ?_);rintro e a' w' ⟨E',F',L',h1,h2⟩
   cases e with
   | normal=>exact ⟨E',F',L',h1,h2⟩
   | exit Hd =>
     simp only [Exit.inBlock];simp only at h2
     cases hb:Nat.beq Hd id with
     | true=>rw [hb] at h2;rw [bp (ie hb)];exact ⟨E',F',L',h1,h2⟩
     | false=>rw [hb] at h2;rw [aR (λe=>by rw [e,Sc] at hb;cases hb)];exact ⟨E',F',L',h1,h2⟩
   | goto l=>exact ⟨E',F',L',h1,h2⟩
   | ret=>exact ⟨E',F',L',h1,h2⟩
   | panic ch=>exact h2.elim
   | outgrown=>exact h2.elim
 | .loop x,Q,F,L,h=>h
 | .exit id,Q,F,L,h=>λc E a w _ _ _ hs=>wp_exit ⟨E,F,L,hs,h⟩
 | .ret,Q,F,L,h=>λc E a w _ _ _ hs=>wp_ret ⟨E,F,L,hs,h⟩
 | .goto l,Q,F,L,h=>λc E a w _ _ _ hs=>wp_goto ⟨E,F,L,hs,h⟩
 | .label l,Q,F,L,h=>λc E a w _ _ _ hs=>wp_label ⟨E,F,L,hs,h⟩
 | .scope x,Q,F,L,h=>h
 | .rangeFunc _ _ _ _,Q,F,L,h=>h.elim
 | .refuse _,Q,F,L,h=>h.elim
end
end
noncomputable section
open Go.RowKit
def DQ (F:AF):List Nat->AF
 | []=>[]
 | s :: r=>(s,bt F s) :: DQ F r
noncomputable def Lt (F:AF) (l:List Nat):(AF->Prop)->Prop :=
 List.rec (motive:=λ_=>(AF->Prop)->Prop) (λK=>K []) (λs _ ih K=>pZ (bt F s) λv=>ih λl=>K ((s,v) :: l)) l
theorem DR {F:AF}:∀ {l:List Nat} {K:AF->Prop},Lt F l K->K (DQ F l)
 | [],_,h=>h
 | s :: r,K,h=>DR (l:=r) (K:=λl=>K ((s,bt F s) :: l)) (gj (K:=λv=>Lt F r λl=>K ((s,v) :: l)) h)
theorem A7 {F:AF} (s:Nat):∀ (l:List Nat),bt (DQ F l) s=bt F s∨bt (DQ F l) s = .d .any
 | [] => .inr rfl
 | t :: r=>by
   simp only [DQ,du,b_]
   cases hb:Nat.beq t s with
   | true=>left;rw [<-ie hb];rfl
   | false=>exact A7 s r
noncomputable def abL (F:AF):List Nat->(List Nat->Prop)->Prop :=
 List.rec (motive:=λ_=>List Nat->(List Nat->Prop)->Prop) (λacc K=>K acc) (λp _ ih acc K=>abw p.2 acc λacc=>ih acc K) F
theorem NZ:∀ (F:AF) (acc:List Nat) (K:List Nat->Prop),abL F acc K->∃ l,K l
 | [],acc,K,h=>⟨_,h⟩
 | (_,x) :: r,acc,K,h=>by
   obtain ⟨l,h1⟩:=FB x acc (λacc=>abL r acc K) h;exact NZ r l K h1
def Ia (lC:Nat->Option Nat):AF->Option AF
 | []=>some []
 | (s,x) :: r=>match pS lC x with
   | some y=>match Ia lC r with
     | some l=>some ((s,y) :: l)
     | none=>none
   | none=>none
noncomputable def fF (F:AF):(AF->Prop)->Prop :=
 List.rec (motive:=λ_=>(AF->Prop)->Prop) (λK=>K []) (λp _ ih K=>fA p.2 λy=>ih λl=>K ((p.1,y) :: l)) F
theorem Z0:∀ {F:AF} {K:AF->Prop},fF F K->K F
 | [],_,h=>h
 | (s,x) :: r,K,h=>Z0 (F:=r) (K:=λl=>K ((s,x) :: l)) (NH x (λy=>fF r λl=>K ((s,y) :: l)) h)
def upto:Nat->List Nat
 | 0=>[]
 | k+1=>upto k++[k]
theorem mR:∀ {k i:Nat},i<k->(upto k)[i]? = some i
 | 0,i,h=>oM
 | k+1,i,h=>by
   have hl:∀ k,(upto k).length=k:=by
    intro k
    induction k with
    | zero=>rfl
    | succ k ih=>simp [upto,ih]
   simp only [upto];rcases qZ i k with h1|h1
   ·rw [CK (by rw [hl];exact h1)];exact mR h1
   ·have:i=k:=oM;subst this;rw [Ww (by rw [hl];omega),hl];simp
def A8:List Nat->List Nat->Bool
 | [],_=>true
 | _ :: _,[]=>false
 | a :: r,b :: s=>Nat.beq a b&&A8 r s
theorem A9:∀ {l m:List Nat},A8 l m=true->∀ (i x:Nat),l[i]? = some x->m[i]? = some x
 | [],m,_,i,x,h=>by simp at h
 | a :: r,[],h,_,_,_=>by cases h
 | a :: r,b :: s,h,i,x,hx=>by
   simp only [A8,oB] at h
   cases i with
   | zero=>simp at hx ⊢;rw [<-hx];exact (ie h.1).symm
   | succ i=>simp only [ue] at hx ⊢;exact A9 h.2 i x hx
def jj (k0:Nat) (live:List Nat) (F:AF) (L:List AB) (K:AF->List AB->Prop):Prop :=
 Lt F live λF1=>fN (upto k0) λix0=>abL F1 ix0 λix1=>xD 64 ix1 0 L λix =>
 bif mM ix&&A8 (upto k0) ix then
  match Ia (gO ix · 0) F1,tl (gO ix · 0) L ix with
  | some F2,some L2=>fF F2 λF2=>fL L2 λL2=>K F2 L2
  | _,_=>False
 else False
theorem Xt {R R':RC} {lC:Nat->Option Nat} (h:yE R R' lC):∀ {F F':AF},Ia lC F=some F'->∀ {tmps:Array Value},(∀ s,VR R (bt F s) (tmps.getD s undef))->∀ s,VR R' (bt F' s) (tmps.getD s undef)
 | [],F',hF,tmps,hv,s=>by simp only [Ia,ke] at hF;subst hF;simp [du,b_,VR,VD]
 | (t,x) :: r,F',hF,tmps,hv,s=>by
   simp only [Ia] at hF;split at hF
   ·rename_i y hy;split at hF
    ·rename_i l hl
     cases hF
     simp only [du,b_]
     cases hb:Nat.beq t s with
     | true =>
       have:=hv s;simp only [du,b_,hb,jB] at this;exact jJ h x y hy _ this
     | false =>
       simp only [py]
       -- DE rest, at DE dL SI DE first one al4 not ais: said of every slot by cases
       have key:∀ {F F':AF},Ia lC F=some F'->VR R (bt F s) (tmps.getD s undef)->VR R' (bt F' s) (tmps.getD s undef):=by
        intro F
        induction F with
        | nil=>intro F' Xu _;simp only [Ia,ke] at Xu;subst Xu;simp [du,b_,VR,VD]
        | cons p r' ih =>
          intro F' Xu DK;obtain ⟨t',x'⟩:=p;simp only [Ia] at Xu;split at Xu
          ·rename_i y' Xv;split at Xu
           ·rename_i l' Hb
            cases Xu
            simp only [du,b_] at DK ⊢
            cases kg:Nat.beq t' s with
            | true=>rw [kg] at DK;exact jJ h x' y' Xv _ DK
            | false=>rw [kg] at DK;exact ih Hb DK
           ·cases Xu
          ·cases Xu
       have:=hv s;simp only [du,b_,hb,py] at this;exact key hl this
    ·cases hF
   ·cases hF
theorem aI.part {c:Ctx} {E:Nat->Option Nat} {L:List AB} {w:World} (hs:aI c E L w) {ix:List Nat} (fh:ix.Nodup) (hp:∀ i,i<c.L0.length->ix[i]? = some i) {l:List AB} (hl:tl (gO ix · 0) L ix=some l) :
  aI c (oI E ix) l w/\yE (aj c.M0 E L w) (aj c.M0 (oI E ix) l w) (gO ix · 0):=by
 have hM:∀ b o,c.M0 b o->G_ c.M0 E L b o:=λb o h => .inl h;have ja:=xA (w:=w) hl hM rfl;obtain ⟨h1,h2,h3,h4⟩:=AM hs fh hl hM rfl;refine ⟨⟨hs.os,hs.tape,hs.output,hs.size,hs.gS,h1,?_,h3,?_,h4 _ λb hp j ab hj hb=>?_⟩,ja⟩
 rotate_right
 ·obtain ⟨hlen,eO⟩:=vw hl;have dM:j<ix.length:=by rw [<-hlen];exact (dW.1 hj).1
  obtain ⟨iS,fp,q3,q4,q5⟩:=eO j ix[j] (ff dM);rw [hj] at q4;cases q4
  exact hs.bx.low ix[j] iS b q3 (by rw [<-(aS q5).boxes];exact hb) hp
 ·intro j ab b hj hlv he RT;obtain ⟨i,cU,_,k2,k3,k4⟩:=h2 j ab b hj hlv he;exact hs.low i cU b k2 k3 k4 RT
 ·have Lu:∀ i,i<c.L0.length->gO ix i 0=some i:=λi hi=>ji fh (hp i hi);refine ⟨λa u h=>ja.rd a u (hs.q_.rd a u h),?_,?_,?_,?_⟩
  rotate_right
  ·intro i x v h;obtain ⟨ab,h4,_⟩:=id h;exact ja.is i i (Lu i (dW.1 h4).1) x v (hs.q_.is i x v h)
  ·intro i b h;obtain ⟨ab,h4,_⟩:=id h;exact ja.pt i i (Lu i (dW.1 h4).1) b (hs.q_.pt i b h)
  ·intro i v h;obtain ⟨ab,h4,_⟩:=id h;exact ja.ar i i (Lu i (dW.1 h4).1) v (hs.q_.ar i v h)
  ·intro i k o v h;obtain ⟨ab,h4,_⟩:=id h;exact ja.ap i i (Lu i (dW.1 h4).1) k o v (hs.q_.ap i k o v h)
theorem rG {k0:Nat} {live:List Nat} {F:AF} {L:List AB} {K:AF->List AB->Prop} (h:jj k0 live F L K) {c:Ctx} (hk:c.L0.length=k0) {E:Nat->Option Nat} {a:Act} {w:World} (hs:eE c E F L a w) :
  ∃ E' F' L',K F' L'/\eE c E' F' L' a w:=by
 unfold jj at h;have h1:=DR h;have h2:=NI h1;obtain ⟨ix1,h3⟩:=NZ _ _ _ h2;obtain ⟨ix,h4⟩:=oK h3
 cases hb:(mM ix&&A8 (upto k0) ix) with
 | false=>rw [hb] at h4;exact h4.elim
 | true =>
   rw [hb] at h4;simp only [jB] at h4;simp only [oB] at hb;split at h4
   ·rename_i F2 L2 hF2 ZV;have hK:=HR (Z0 h4);have C2:∀ i,i<c.L0.length->ix[i]? = some i:=λi hi=>A9 hb.2 i i (mR (by rw [<-hk];exact hi));obtain ⟨bP,hl⟩:=hs.h.part (kr hb.1) C2 ZV;have hw:=hs.vg (F':=DQ F live) λs=>A7 s live;exact ⟨_,F2,L2,hK,bP,Xt hl hF2 hw.dL,hs.nt,hs.df⟩
   ·exact h4.elim
section
variable {P:Program} {tt:TypeId->Option TI} {fo:FuncId->Bool} {n k0:Nat}
theorem Xw (ht:cp P tt) (hz:jL tt) (eZ:jx P fo) {σ:Type} (st:σ->AF×List AB) (inv:σ->Prop) (mu:σ->Nat) (live:List Nat) {x:Code} {Q:Exit->AF->List AB->Prop} {F:AF} {L:List AB}
  (start:jj k0 live F L λF' L'=>∃ s,F'=(st s).1/\L'=(st s).2/\inv s)
  (round:∀ s,inv s->dY P tt fo n k0 x (λe F' L'=>match e with
    | .normal=>jj k0 live F' L' λA_ lB=>∃ s',A_=(st s').1/\lB=(st s').2/\inv s'/\mu s'<mu s
    | .exit id=>Q (.exit id) F' L'
    | .goto l=>Q (.goto l) F' L'
    | .ret=>Q .ret F' L'
    | _=>False) (st s).1 (st s).2):AW P n k0 (.loop x) Q F L:=by
 intro c E a w hc dS hk hs
 -- by DE measure
 obtain ⟨E0,F0,L0,⟨s0,rfl,rfl,Xx⟩,ui⟩:=rG start hk hs;intro b k cs;have key:∀ m s,mu s=m->inv s->∀ E a w,eE c E (st s).1 (st s).2 a w ->
   ∃ e a' w',(∃ E' F' L',eE c E' F' L' a' w'/\Q e F' L')/\Arrives P (lone (b.at a (.code x :: .inLoop x :: k)) cs w) b k cs e a' w':=by
  intro m
  induction m using Nat.strongRecOn with
  | _ m ih =>
    intro s hm hi E a w hs;obtain ⟨e,mc,me,hq,lG⟩:=fE ht hz eZ x (round s hi) c E a w hc dS hk hs b (.inLoop x :: k) cs;obtain ⟨E',F',L',bP,hq⟩:=hq
    cases e with
    | normal =>
      obtain ⟨E2,F2,L2,⟨s',rfl,rfl,xe,bB⟩,e_⟩:=rG hq hk bP;obtain ⟨Lv,Lw,Lx,Ba,p_⟩:=ih (mu s') (hm▸bB) s' rfl xe E2 mc me e_;exact ⟨Lv,Lw,Lx,Ba,.of_steps (Steps.trans lG (.one step_inLoop)) p_⟩
    | exit id=>exact ⟨_,mc,me,⟨E',F',L',bP,hq⟩,.pass (x := .inLoop x) rfl (λ_ _ => .inl (by simp)) lG⟩
    | goto l=>exact ⟨_,mc,me,⟨E',F',L',bP,hq⟩,.pass (x := .inLoop x) rfl (λ_ _ => .inl (by simp)) lG⟩
    | ret=>exact ⟨_,mc,me,⟨E',F',L',bP,hq⟩,.pass (x := .inLoop x) rfl (λ_ _ => .inl (by simp)) lG⟩
    | panic ch=>exact hq.elim
    | outgrown=>exact hq.elim
 obtain ⟨e,a',w',hq,lG⟩:=key _ s0 rfl Xx E0 a w ui;exact ⟨e,a',w',hq,.of_steps (.one step_loop) lG⟩
end
def oN:List AV->Nat->AF
 | [],_=>[]
 | x :: r,i=>(i,x) :: oN r (i+1)
noncomputable def C3 (tt:TypeId->Option TI) (F:AF) (L:List AB) (l:List ResultVar):(List AV->Prop)->Prop :=
 List.rec (motive:=λ_=>(List AV->Prop)->Prop) (λK=>K []) (λq _ ih K=>match q with
  | .tmp t=>pZ (bt F t) λv=>ih λl=>K (v :: l)
  | .cell p t=>lN tt t λi=>HB i L (bt F p) λv=>pZ v λv=>DN tt t v λv=>ih λl=>K (v :: l)) l
theorem Ib (tt:TypeId->Option TI) (F:AF) (L:List AB) (K:List AV->Prop):C3 tt F L [] K=K []:=rfl
theorem Tr (tt:TypeId->Option TI) (F:AF) (L:List AB) (t:Nat) (r:List ResultVar) (K:List AV->Prop):C3 tt F L (.tmp t :: r) K=pZ (bt F t) λv=>C3 tt F L r λl=>K (v :: l):=rfl
theorem Ts (tt:TypeId->Option TI) (F:AF) (L:List AB) (p t:Nat) (r:List ResultVar) (K:List AV->Prop):C3 tt F L (.cell p t :: r) K=lN tt t λi=>HB i L (bt F p) λv=>pZ v λv=>DN tt t v λv=>C3 tt F L r λl=>K (v :: l):=rfl
def PQ (ex:Bool) (l:List AV) (L:List AB) (K:List AV->List AB->Prop):Prop :=
 match ex with
 | true=>K l L
 | false=>AN l L K
def tR:List AV->AV
 | [x]=>x
 | l => .tup l
def C4 (k0:Nat) (av:AV) (L:List AB) (K:AV->List AB->Prop):Prop :=
 fN (upto k0) λix0=>abw av ix0 λix1=>xD 64 ix1 0 L λix =>
 bif mM ix&&A8 (upto k0) ix then
  match pS (gO ix · 0) av,tl (gO ix · 0) L ix with
  | some ny,some L2=>fA ny λny=>fL L2 λL2=>K ny L2
  | _,_=>False
 else False
def xL (tt:TypeId->Option TI) (ex:Bool) (k0:Nat) (rs:List ResultVar) (post:AV->List AB->Prop) (e:Exit) (F:AF) (L:List AB):Prop :=
 match e with
 | .normal | .ret=>C3 tt F L rs λl=>PQ ex l L λl L'=>C4 k0 (tR l) L' post
 | _=>False
section
variable {P:Program} {tt:TypeId->Option TI} {fo:FuncId->Bool} {n:Nat}
def xM (tmps:Array Value) (r:ResultVar):Sem Value :=
 match r with
 | .tmp t=>pure (tmps.getD t undef)
 | .cell a t=>do loadVar t (<-asAddr (tmps.getD a undef))
def Ic:List Value->Value
 | [v]=>v
 | l => .tuple l.toArray
theorem yN (fn:Func) (tmps:Array Value) (w:World) (vs:List Value) (h:(fn.results.toList.mapM (xM tmps)).run P w = .ok vs w) :
  (results fn tmps).run P w = .ok (Ic vs) w:=by
 have e:results fn tmps=(do let vs <-fn.results.mapM (xM tmps);pure (if h:vs.size=1 then vs[0] else .tuple vs)):=rfl;rw [e,Array.mapM_eq_mapM_toList];simp only [Sem.run_bind,Sem.run_map,h,Result.andThen_ok,Sem.run_pure];congr 1
 match vs with
 | []=>simp [Ic]
 | [v]=>simp [Ic]
 | v :: u :: r=>simp [Ic]
theorem zV (ht:cp P tt) {c:Ctx} {E:Nat->Option Nat} {F:AF} {L:List AB} {a:Act} {w:World} (hs:eE c E F L a w):∀ {rs:List ResultVar} {K:List AV->Prop},C3 tt F L rs K ->
  ∃ l vs,K l/\(rs.mapM (xM a.tmps)).run P w = .ok vs w/\cD (aj c.M0 E L w) l vs
 | [],K,h=>⟨[],[],h,by simp,by simp [cD]⟩
 | .tmp t :: r,K,h=>by
   simp only [Ib,Tr,Ts] at h;obtain ⟨l,vs,h1,h2,h3⟩:=zV ht hs (gj h);refine ⟨_,_ :: vs,h1,?_,by simp only [cD];exact ⟨_,_,rfl,hs.dL t,h3⟩⟩;simp [List.mapM_cons,xM,h2]
 | .cell p t :: r,K,h=>by
   simp only [Ib,Tr,Ts] at h;obtain ⟨i,hi,h0⟩:=bI h;obtain ⟨v,av,k1,k2,k3⟩:=HC ht hi hs.h h0 (hs.dL p);obtain ⟨ny,k2',kn⟩:=H4 (gj k2);obtain ⟨l,vs,h1,h2,h3⟩:=zV ht hs k2';refine ⟨_,v :: vs,h1,?_,by simp only [cD];exact ⟨_,_,rfl,kn _ _ k3,h3⟩⟩;have Tt:(xM a.tmps (.cell p t)).run P w = .ok v w:=by
    unfold xM;simp only [Instr.loadAt,Sem.run_bind] at k1 ⊢
    cases hv:a.tmps.getD p undef with
    | pointer q =>
      rw [hv] at k1
      cases q with
      | none=>simp [Instr.sureAddr] at k1
      | some q=>simpa [Instr.sureAddr,asAddr] using k1
    | _=>rw [hv] at k1;simp [Instr.sureAddr] at k1
   simp only [List.mapM_cons,Sem.run_bind,Tt,Result.andThen_ok,h2,Sem.run_pure]
theorem zW {k0:Nat} {av:AV} {L:List AB} {K:AV->List AB->Prop} (h:C4 k0 av L K) {c:Ctx} (hk:c.L0.length=k0) {E:Nat->Option Nat} {w:World} (hs:aI c E L w) {v:Value} (hv:VR (aj c.M0 E L w) av v) :
  ∃ E' ny L',K ny L'/\aI c E' L' w/\VR (aj c.M0 E' L' w) ny v:=by
 unfold C4 at h;have h2:=NI h;obtain ⟨ix1,h3⟩:=FB _ _ _ h2;obtain ⟨ix,h4⟩:=oK h3
 cases hb:(mM ix&&A8 (upto k0) ix) with
 | false=>rw [hb] at h4;exact h4.elim
 | true =>
   rw [hb] at h4;simp only [jB] at h4;simp only [oB] at hb;split at h4
   ·rename_i ny L2 pD ZV;have hK:=HR (NH _ _ h4);have C2:∀ i,i<c.L0.length->ix[i]? = some i:=λi hi=>A9 hb.2 i i (mR (by rw [<-hk];exact hi));obtain ⟨bP,hl⟩:=hs.part (kr hb.1) C2 ZV;exact ⟨_,ny,L2,hK,bP,jJ hl av ny pD v hv⟩
   ·exact h4.elim
theorem PR (ht:cp P tt) (hz:jL tt) (eZ:jx P fo) {f:FuncId} {fn:Func} {code:Code} (hf:P.funcs[f]? = some fn) (hb:fn.body=some code) (hn:fn.ntmps=n) {rs:List ResultVar} (hr:fn.results.toList=rs)
  (ex:Bool) {cS:List AV} {cg:List AB} {post:AV->List AB->Prop} (hlen:Nat.ble cS.length n=true)
  (h:dY P tt fo n cg.length code (xL tt ex cg.length rs post) (oN cS 0) cg):ay P f cS cg post:=by
 intro c vs hc hL hs hv
 let c':Ctx:={ c with n:=n }
 have kc:c'.wf:=⟨hc.low,hc.sub,hc.st⟩;have bP:aI c' c.E0 cg c.w0:=⟨hs.os,hs.tape,hs.output,hs.size,hs.gS,hs.fQ,hs.low,hs.inj,hs.q_,hs.bx⟩;have CX:vs.size=cS.length:=by
  have:∀ (l:List AV) (us:List Value),cD (aj c.M0 c.E0 cg c.w0) l us->us.length=l.length:=by
   intro l
   induction l with
   | nil=>intro us h;simp only [cD] at h;subst h;rfl
   | cons x l ih=>intro us h;simp only [cD] at h;obtain ⟨u,dt,rfl,_,h2⟩:=h;simp [ih dt h2]
  have:=this _ _ hv;simpa using this
 have SO:cS.length<=n:=Hh hlen;refine calls_of_wp hf hb ?_;rw [hn];have fj:eE c' c.E0 (oN cS 0) cg { tmps:=vs++Array.replicate (n - vs.size) undef,defers:=[] } c.w0:=by
  refine ⟨bP,?_,(by show (vs++Array.replicate (n - vs.size) undef).size=n;simp;omega),rfl⟩;have key:∀ (l:List AV) (us:List Value) (k:Nat),cD (aj c.M0 c.E0 cg c.w0) l us->∀ s,(bt (oN l k) s = .d .any)∨(k<=s/\∃ u,us[s - k]? = some u/\VR (aj c.M0 c.E0 cg c.w0) (bt (oN l k) s) u):=by
   intro l
   induction l with
   | nil=>intro us k _ s;exact .inl rfl
   | cons x l ih =>
     intro us k h s;simp only [cD] at h;obtain ⟨u,dt,rfl,h1,h2⟩:=h;simp only [oN,du,b_]
     cases hbq:Nat.beq k s with
     | true =>
       have:=ie hbq;subst this;exact .inr ⟨eQ _,u,by simp,h1⟩
     | false =>
       simp only [py];rcases ih dt (k+1) h2 s with h3|⟨h3,u',h4,h5⟩
       ·exact .inl h3
       ·refine .inr ⟨oM,u',?_,h5⟩;have:s - k=(s - (k+1))+1:=oM;rw [this];simpa using h4
  intro s;rcases key cS vs.toList 0 hv s with h1|⟨_,u,h2,h3⟩
  ·rw [h1];simp [VR,VD]
  ·have bB:s<vs.size:=by
    have:=(dW.1 h2).1;simpa using this
   have e:(vs++Array.replicate (n - vs.size) undef).getD s undef=u:=by
    have:vs[s]? = some u:=by simpa using h2
    simp [zdO bB,this]
   show VR _ _ ((vs++Array.replicate (n - vs.size) undef).getD s undef);rw [e];exact h3
 have hL':c'.L0.length=cg.length:=by rw [<-hL]
 refine wp_mono (fE ht hz eZ code h c' c.E0 _ c.w0 kc rfl hL' fj) ?_;rintro e a w' ⟨E',F',L',PS,tp⟩;have fin:(C3 tt F' L' rs λl=>PQ ex l L' λl L'=>C4 cg.length (tR l) L' post)->a.defers=[]/\∃ v,(results fn a.tmps).run P w' = .ok v w'/\∃ v' av lB Xy,Ending.returned v = .returned v'/\post av lB/\aI c Xy lB w'/\VR (aj c.M0 Xy lB w') av v':=by
  intro Tu;obtain ⟨l,us,h1,h2,h3⟩:=zV ht PS Tu;have jN:∃ l' L2,C4 cg.length (tR l') L2 post/\aI c' E' L2 w'/\cD (aj c'.M0 E' L2 w') l' us:=by
   unfold PQ at h1
   cases ex with
   | true=>exact ⟨l,L',h1,PS.h,h3⟩
   | false =>
     obtain ⟨ys,L2,k1,k2,_,k4⟩:=vx kc PS.h h1 h3;exact ⟨ys,L2,k1,k2,k4⟩
  obtain ⟨l',L2,h4,h5,h6⟩:=jN;have gi:=yN (P:=P) fn a.tmps w' us (by rw [hr];exact h2);have abM:VR (aj c'.M0 E' L2 w') (tR l') (Ic us):=by
   unfold tR;split
   ·rename_i x;simp only [cD] at h6;obtain ⟨u,dt,rfl,k1,rfl⟩:=h6;exact k1
   ·rename_i ef;have yD:∀ v,us≠[v]:=by
     intro v e;subst e
     cases l' with
     | nil=>simp [cD] at h6
     | cons x l'' =>
       simp only [cD] at h6;obtain ⟨u,dt,e1,_,h7⟩:=h6
       cases e1
       cases l'' with
       | nil=>exact ef x rfl
       | cons y l3=>simp [cD] at h7
    have e:Ic us = .tuple us.toArray:=by
     match us,yD with
     | [],_=>rfl
     | [v],h=>exact absurd rfl (h v)
     | v :: u :: r,_=>rfl
    rw [e];simp only [VR];exact ⟨_,rfl,by simpa using h6⟩
  obtain ⟨Xy,av,lB,k1,k2,k3⟩:=zW h4 hL' h5 abM;exact ⟨PS.df,_,gi,_,av,lB,Xy,rfl,k1,⟨k2.os,k2.tape,k2.output,k2.size,k2.gS,k2.fQ,k2.low,k2.inj,k2.q_,k2.bx⟩,k3⟩
 cases e with
 | normal=>exact fin tp
 | ret=>exact fin tp
 | exit id=>exact tp.elim
 | goto l=>exact tp.elim
 | panic ch=>exact tp.elim
 | outgrown=>exact tp.elim
end
end
noncomputable section
open Go.RowKit
noncomputable def Ie (l:List (Nat×TI)) (s:Nat):Option TI:=List.rec (motive:=λ_=>Option TI) none (λp _ ih=>bif Nat.beq p.1 s then some p.2 else ih) l
theorem Bb (s:Nat):Ie [] s=none:=rfl
theorem Ly (t:Nat) (i:TI) (r:List (Nat×TI)) (s:Nat):Ie ((t,i) :: r) s=bif Nat.beq t s then some i else Ie r s:=rfl
def Ig (P:Program):List (Nat×TI)->Prop
 | []=>True
 | (t,i) :: r=>(P.underlying t=some i.desc/\(P.info? t).map (λf=>(f.zero,f.size,f.bytes))=some (some i.zero,i.size,i.bytes))/\Ig P r
theorem N0 {P:Program}:∀ {l:List (Nat×TI)},Ig P l->∀ t i,Ie l t=some i->P.underlying t=some i.desc/\∃ info,P.info? t=some info/\info.zero=some i.zero/\info.size=i.size/\info.bytes=i.bytes
 | [],_,t,i,h=>by cases h
 | (t',i') :: r,h,t,i,hi=>by
   simp only [Ig] at h;simp only [Bb,Ly] at hi
   cases hb:Nat.beq t' t with
   | true =>
     rw [hb] at hi
     cases hi
     have:=ie hb;subst this;refine ⟨h.1.1,?_⟩
     cases hp:P.info? t' with
     | none=>rw [hp] at h;cases h.1.2
     | some f =>
       rw [hp] at h;have h2:=h.1.2;simp only [WB,ke,zeV] at h2;exact ⟨f,rfl,h2.1,h2.2.1,h2.2.2⟩
   | false =>
     rw [hb] at hi;exact N0 h.2 t i hi
def N1:List (Nat×TI)->Bool
 | []=>true
 | (t,i) :: r=>Nat.beq (G9 t) i.size&&N1 r
theorem N2:∀ {l:List (Nat×TI)},N1 l=true->∀ t i,Ie l t=some i->G9 t=i.size
 | [],_,t,i,h=>by cases h
 | (t',i') :: r,h,t,i,hi=>by
   simp only [N1,oB] at h;simp only [Bb,Ly] at hi
   cases hb:Nat.beq t' t with
   | true =>
     rw [hb] at hi
     cases hi
     have:=ie hb;subst this;exact ie h.1
   | false =>
     rw [hb] at hi;exact N2 h.2 t i hi
theorem Xz {P:Program} {l:List (Nat×TI)} (h:Ig P l) (k:N1 l=true):cp P (Ie l):=⟨N0 h,N2 k⟩
def Tv:List (Nat×TI)->Bool
 | []=>true
 | (_,i) :: r=>Nat.beq i.zero.cells.size i.size&&Tv r
theorem N3:∀ {l:List (Nat×TI)},Tv l=true->jL (Ie l)
 | [],_,t,i,h=>by cases h
 | (t',i') :: r,h,t,i,hi=>by
   simp only [Tv,oB] at h;simp only [Bb,Ly] at hi
   cases hb:Nat.beq t' t with
   | true=>rw [hb] at hi;cases hi;exact ie h.1
   | false=>rw [hb] at hi;exact N3 h.2 t i hi
def Ty (P:Program):List Nat->Bool
 | []=>true
 | g :: r=>(match P.funcs[g]? with|some fn => !(fn.name == "runtime.NumGoroutine") && !fn.body.isNone|none=>false)&&Ty P r
theorem N4 {P:Program}:∀ {l:List Nat},Ty P l=true->jx P (λg=>iy g l)
 | [],_,f,h=>by cases h
 | g :: r,h,f,hf=>by
   simp only [Ty,oB] at h;simp only [AL,xy] at hf
   cases hb:Nat.beq g f with
   | false=>rw [hb] at hf;exact N4 h.2 f (by simpa using hf)
   | true =>
     have:=ie hb;subst this;have h1:=h.1
     cases hp:P.funcs[g]? with
     | none=>rw [hp] at h1;cases h1
     | some fn =>
       rw [hp] at h1;simp only [oB,G6] at h1;exact ⟨fn,rfl,h1.1,h1.2⟩
theorem Ih {P:Program} {tt:TypeId->Option TI} {fo:FuncId->Bool} {n k0:Nat} (ht:cp P tt) (hz:jL tt) (eZ:jx P fo) {code:Code} {Q:Exit->AF->List AB->Prop} {F:AF} {L:List AB} (h:dY P tt fo n k0 code Q F L):AW P n k0 code Q F L:=fE ht hz eZ code h
theorem fq {P:Program} {n k0:Nat} {σ:Type} (st:σ->AF×List AB) (inv:σ->Prop) (live:List Nat) {x:Code} {Q:Exit->AF->List AB->Prop} {F:AF} {L:List AB}
  (h:jj k0 live F L λF' L'=>∃ s,F'=(st s).1/\L'=(st s).2/\inv s) (body:∀ s,inv s->AW P n k0 x Q (st s).1 (st s).2):AW P n k0 x Q F L:=by
 intro c E a w hc dS hk hs;obtain ⟨E0,F0,L0,⟨s0,rfl,rfl,Xx⟩,ui⟩:=rG h hk hs;exact body s0 Xx c E0 a w hc dS hk ui
def eA (n k0:Nat) {σ:Type} (st:σ->AF×List AB) (C5:σ->Prop) (F:AF) (L:List AB):Prop :=
 ∀ (c:Ctx) (E:Nat->Option Nat) (a:Act) (w:World),c.wf->c.n=n->c.L0.length=k0->eE c E F L a w->∃ s E',C5 s/\eE c E' (st s).1 (st s).2 a w
theorem cV {n k0:Nat} {σ:Type} {st:σ->AF×List AB} {C5:σ->Prop} (live:List Nat) {F:AF} {L:List AB} (h:jj k0 live F L λF' L'=>∃ s,F'=(st s).1/\L'=(st s).2/\C5 s):eA n k0 st C5 F L:=by
 intro c E a w hc dS hk hs;obtain ⟨E0,F0,L0,⟨s0,rfl,rfl,Xx⟩,ui⟩:=rG h hk hs;exact ⟨s0,E0,Xx,ui⟩
theorem eA.mono {n k0:Nat} {σ:Type} {st:σ->AF×List AB} {C5 Z1:σ->Prop} (hg:∀ s,C5 s->Z1 s) {F:AF} {L:List AB} (h:eA n k0 st C5 F L):eA n k0 st Z1 F L :=
 λc E a w h1 h2 h3 h4=>by
  obtain ⟨s,E',k1,k2⟩:=h c E a w h1 h2 h3 h4;exact ⟨s,E',hg s k1,k2⟩
def mS (n k0:Nat) {σ:Type} (st:σ->AF×List AB) (inv:Nat->σ->Prop) (x:Code) (Q:Exit->AF->List AB->Prop) (e:Exit) (F':AF) (L':List AB):Prop :=
 match e with
 | .normal=>Q .normal F' L'
 | .exit id=>Q (.exit id) F' L'
 | .goto l=>match findLabel x l with
   | some _=>eA n k0 st (inv l) F' L'
   | none=>Q (.goto l) F' L'
 | .ret=>Q .ret F' L'
 | _=>False
theorem Ii {n k0:Nat} {σ:Type} {st:σ->AF×List AB} {inv C6:Nat->σ->Prop} (hi:∀ l s,inv l s->C6 l s) {x:Code} {Q:Exit->AF->List AB->Prop} {e:Exit} {F:AF} {L:List AB} (h:mS n k0 st inv x Q e F L):mS n k0 st C6 x Q e F L:=by
 unfold mS at h ⊢
 cases e with
 | goto l =>
   simp only at h ⊢;split
   ·rename_i y hy;rw [hy] at h;exact h.mono (hi l)
   ·rename_i hy;rw [hy] at h;exact h
 | _=>exact h
theorem PT {P:Program} {tt:TypeId->Option TI} {fo:FuncId->Bool} {n k0:Nat} (ht:cp P tt) (hz:jL tt) (eZ:jx P fo) {σ:Type} (st:σ->AF×List AB) (inv:Nat->σ->Prop) (mu:Nat->σ->Nat) {x:Code} {Q:Exit->AF->List AB->Prop} {F:AF} {L:List AB}
  (pass:∀ l rest,findLabel x l=some rest->∀ s,inv l s->dY P tt fo n k0 rest (mS n k0 st (λl' s'=>inv l' s'/\mu l' s'<mu l s) x Q) (st s).1 (st s).2)
  (start:(∀ l rest,findLabel x l=some (.seq .skip rest)->∀ s,inv l s->AW P n k0 rest (mS n k0 st inv x Q) (st s).1 (st s).2)->dY P tt fo n k0 x (mS n k0 st inv x Q) F L):AW P n k0 (.scope x) Q F L:=by
 have start:=start λl rest hf s hi=>(Ih (code:=rest) ht hz eZ (pass l (.seq .skip rest) hf s hi)).mono λe F L h=>Ii (λ_ _ h=>h.1) h;intro c E a w hc dS hk hs b k cs;have hg:∀ l rest,findLabel x l=some rest->gotoIn l (.inScope x :: k)=some (.code rest :: .inScope x :: k):=λl rest hf=>by simp [gotoIn,hf]
 have hg0:∀ l,findLabel x l=none->gotoIn l (.inScope x :: k)=gotoIn l k:=λl hf=>by simp [gotoIn,hf]
 have key:∀ m l rest,findLabel x l=some rest->∀ s,mu l s=m->inv l s->∀ E a w,eE c E (st s).1 (st s).2 a w ->
   ∃ e a' w',(∃ E' F' L',eE c E' F' L' a' w'/\Q e F' L')/\Arrives P (lone (b.at a (.code rest :: .inScope x :: k)) cs w) b k cs e a' w':=by
  intro m
  induction m using Nat.strongRecOn with
  | _ m ih =>
    intro l rest hf s hm hi E a w hs;obtain ⟨e,mc,me,hq,lG⟩:=fE ht hz eZ rest (pass l rest hf s hi) c E a w hc dS hk hs b (.inScope x :: k) cs;obtain ⟨E',F',L',bP,hq⟩:=hq
    cases e with
    | normal=>exact ⟨.normal,mc,me,⟨E',F',L',bP,hq⟩,Steps.trans lG (.one step_inScope)⟩
    | exit id=>exact ⟨.exit id,mc,me,⟨E',F',L',bP,hq⟩,λk' Fj=>lG k' (by simp [exitTo,Fj])⟩
    | goto l' =>
      simp only [mS] at hq;split at hq
      ·rename_i Ij XA;obtain ⟨s',E2,⟨xe,bB⟩,e_⟩:=hq c E' mc me hc dS hk bP;obtain ⟨Lv,Lw,Lx,Ba,p_⟩:=ih (mu l' s') (hm▸bB) l' Ij XA s' rfl xe E2 mc me e_;exact ⟨Lv,Lw,Lx,Ba,.of_steps (lG _ (hg l' Ij XA)) p_⟩
      ·rename_i XA;exact ⟨.goto l',mc,me,⟨E',F',L',bP,hq⟩,λk' Fj=>lG k' (by rw [hg0 l' XA];exact Fj)⟩
    | ret=>exact ⟨_,mc,me,⟨E',F',L',bP,hq⟩,lG⟩
    | panic ch=>exact hq.elim
    | outgrown=>exact hq.elim
 obtain ⟨e,mc,me,hq,lG⟩:=fE ht hz eZ x start c E a w hc dS hk hs b (.inScope x :: k) cs;obtain ⟨E',F',L',bP,hq⟩:=hq
 cases e with
 | normal=>exact ⟨.normal,mc,me,⟨E',F',L',bP,hq⟩,.head step_scope (Steps.trans lG (.one step_inScope))⟩
 | exit id=>exact ⟨.exit id,mc,me,⟨E',F',L',bP,hq⟩,λk' Fj => .head step_scope (lG k' (by simp [exitTo,Fj]))⟩
 | goto l' =>
   simp only [mS] at hq;split at hq
   ·rename_i Ij XA;obtain ⟨s',E2,xe,e_⟩:=hq c E' mc me hc dS hk bP;obtain ⟨Lv,Lw,Lx,Ba,p_⟩:=key _ l' Ij XA s' rfl xe E2 mc me e_;exact ⟨Lv,Lw,Lx,Ba,.of_steps (.head step_scope (lG _ (hg l' Ij XA))) p_⟩
   ·rename_i XA;exact ⟨.goto l',mc,me,⟨E',F',L',bP,hq⟩,λk' Fj => .head step_scope (lG k' (by rw [hg0 l' XA];exact Fj))⟩
 | ret=>exact ⟨_,mc,me,⟨E',F',L',bP,hq⟩,.of_steps (.one step_scope) lG⟩
 | panic ch=>exact hq.elim
 | outgrown=>exact hq.elim
end
end Go.Ab
