/- PrimaryExact: abstract runs. -/
import Derived.Test.YtolkmjfkkkiboaaGreatPrimaryExactLbyA
import Derived.Orders
set_option linter.all false
namespace Go.Ab
noncomputable section
open Go.RowKit
theorem uz {F F':AF}:∀ {l:List Operand} {K:List AV->Prop},(∀ x∈l,ev F x=ev F' x)->FO F l K->FO F' l K
 | [],_,_,h=>h
 | x :: r,K,hx,h=>by
   simp only [Th,abI] at h ⊢;rw [<-hx x (by simp)];have:=gj h;have h2:=uz (F':=F') (λy hy=>hx y (by simp [hy])) this;revert h2
   cases ev F x<;>exact id
theorem jO {F F':AF}:∀ {l:List (Nat×Operand)} {K:List (Nat×AV)->Prop},(∀ x∈l.map (·.2),ev F x=ev F' x)->iK F l K->iK F' l K
 | [],_,_,h=>h
 | (i,x) :: r,K,hx,h=>by
   simp only [FQ,Ln] at h ⊢;rw [<-hx x (by simp)];have:=gj h;have h2:=jO (F':=F') (λy hy=>hx y (by simp only [Dv,jy];exact .inr hy)) this;revert h2
   cases ev F x<;>exact id
theorem yO {F F':AF} {x:Option Operand} (h:∀ y∈x.toArray,ev F y=ev F' y):yJ F x=yJ F' x:=by
 cases x with
 | none=>rfl
 | some x=>simp only [yJ];rw [h x (by simp)]
variable {P:Program} {tt:TypeId->Option TI} {fo:FuncId->Bool} {n:Nat}
theorem Bc {o:Oper} {F F':AF} {L:List AB} {K:AV->List AB->Prop} (hx:∀ x∈o.op.operands,ev F x=ev F' x) (h:mP P tt fo o F L K):mP P tt fo o F' L K:=by
 unfold mP at h ⊢
 cases ho:o.op<;>rw [ho] at h hx<;>simp only [Op.operands] at hx<;>simp only at h ⊢<;>first
  | exact h
  | (rw [<-hx _ (by simp)];exact h)
  | (rw [<-hx _ (by simp),<-hx _ (by simp)];exact h)
  | skip
 case pick cc x y =>
  rw [<-hx cc (by simp),<-hx x (by simp),<-hx y (by simp)];exact h
 case mapUpdate t m k v =>
  rw [<-hx m (by simp),<-hx k (by simp),<-hx v (by simp)];exact h
 case insert t m k v =>
  rw [<-hx m (by simp),<-hx k (by simp),<-hx v (by simp)];exact h
 case build t ps=>exact jO (λx hm=>hx x (by simpa using hm)) h
 case buildSlice t l ps=>exact jO (λx hm=>hx x (by simpa using hm)) h
 case slice t x lo hi mx =>
  rw [<-hx x (by simp),<-yO (F:=F) (x:=lo) (λy hy=>hx y (by simp_all)),<-yO (F:=F) (x:=hi) (λy hy=>hx y (by simp_all))];exact h
 case makeFunc fn first qI =>
  obtain ⟨f,h1,h2,h3⟩:=H7 h;rw [h1,h2];exact uz (λx hm=>hx x (by simp_all)) h3
 case call cl =>
  unfold FT at h ⊢;simp only [Call.operands] at hx
  cases hc:cl.callee with
  | value f =>
    rw [hc] at h hx;simp only at h hx ⊢;rw [<-hx f (by simp)];revert h
    cases ev F f<;>simp only [pZ]<;>first|exact id|skip
    rename_i g qI;intro h
    cases hg:fo g with
    | false=>rw [hg] at h;exact h.elim
    | true =>
      rw [hg] at h;exact uz (λx hm=>hx x (by simp_all)) h
  | builtin b =>
    rw [hc] at h hx
    cases b<;>simp only at h hx ⊢<;>first|exact h.elim|skip
    ·split at h
     ·rename_i s x t t' h1 h2;have hs:s∈cl.args.toList:=by rw [h1];simp
      have Ik:x∈cl.args.toList:=by rw [h1];simp
      rw [<-hx s (by simpa using hs),<-hx x (by simpa using Ik)];exact h
     ·exact h.elim
    ·split at h
     ·rename_i x y h1;have hs:x∈cl.args.toList:=by rw [h1];simp
      have Ik:y∈cl.args.toList:=by rw [h1];simp
      rw [<-hx x (by simpa using hs),<-hx y (by simpa using Ik)];exact h
     ·exact h.elim
    ·split at h
     ·rename_i s x t t' h1 h2;have hs:s∈cl.args.toList:=by rw [h1];simp
      have Ik:x∈cl.args.toList:=by rw [h1];simp
      rw [<-hx s (by simpa using hs),<-hx x (by simpa using Ik)];exact h
     ·exact h.elim
    ·split at h
     ·rename_i s x t ts h1 h2;have hs:s∈cl.args.toList:=by rw [h1];simp
      have Ik:x∈cl.args.toList:=by rw [h1];simp
      rw [<-hx s (by simpa using hs),<-hx x (by simpa using Ik)];exact h
     ·exact h.elim
    ·split at h
     ·rename_i x h1;have Ik:x∈cl.args.toList:=by rw [h1];simp
      rw [<-hx x (by simpa using Ik)];exact h
     ·exact h.elim
    ·split at h
     ·rename_i x t h1 h2;have Ik:x∈cl.args.toList:=by rw [h1];simp
      rw [<-hx x (by simpa using Ik)];exact h
     ·exact h.elim
    ·split at h
     ·rename_i x y h1;have hs:x∈cl.args.toList:=by rw [h1];simp
      have Ik:y∈cl.args.toList:=by rw [h1];simp
      rw [<-hx x (by simpa using hs),<-hx y (by simpa using Ik)];exact h
     ·exact h.elim
    ·split at h
     ·rename_i x y h1;have hs:x∈cl.args.toList:=by rw [h1];simp
      have Ik:y∈cl.args.toList:=by rw [h1];simp
      rw [<-hx x (by simpa using hs),<-hx y (by simpa using Ik)];exact h
     ·exact h.elim
    ·split at h
     ·rename_i x h1;have Ik:x∈cl.args.toList:=by rw [h1];simp
      rw [<-hx x (by simpa using Ik)];exact h
     ·exact h.elim
  | _=>rw [hc] at h;exact h.elim
noncomputable def afk (xs:List AV):(List DV->Prop)->Prop :=
 List.rec (motive:=λ_=>(List DV->Prop)->Prop) (λK=>K []) (λx _ ih K=>match x with | .d y=>ih λl=>K (y :: l)|_=>False) xs
theorem N5 {R:RC}:∀ {xs:List AV} {K:List DV->Prop} {us:List Value},afk xs K->eK R xs us->∃ ds,K ds/\cR R.rd ds us
 | [],K,us,h,hv=>⟨[],h,by simpa [eK,cR,Cs] using hv⟩
 | x :: r,K,us,h,hv=>by
   simp only [eK] at hv;obtain ⟨u,dt,rfl,h1,h2,h3⟩:=hv
   cases x with
   | d y =>
     obtain ⟨ds,k1,k2⟩:=N5 (xs:=r) (K:=λl=>K (y :: l)) h h3;refine ⟨y :: ds,k1,?_⟩;simp only [cR,Cs];exact ⟨u,dt,rfl,h1,by simpa [VR] using h2,k2⟩
   | _=>exact h.elim
def N6 (tt:TypeId->Option TI) (t:TypeId) (len:Nat) (parts:List (Nat×AV)) (K:AV->Prop):Prop :=
 lN tt t λi=>match bY i.desc with
  | some e=>lN tt e λei=>bif !(Nat.beq ei.size 0)&&Nat.ble (len * ei.size) 16777216&&iZ ei.size (qK ei.zero) then
     Dz (zQ ei.size) (pO (cellsOf (qK ei.zero)) (len * ei.size)) parts λcs=>afk cs λds=>xt (Ld tt 6 e) ei.size ds 0 λds=>Fw ei.size len ds λxs=>K (.d (.sl ei.size xs))
    else False
  | none=>False
theorem LA {P:Program} {tt:TypeId->Option TI} (ht:cp P tt) {t:TypeId} {c:Ctx} (hc:c.wf) {E:Nat->Option Nat} {L:List AB} {w:World} (hs:aI c E L w) {len:Nat} {parts:List (Nat×AV)} {vals:Array (Nat×Value)}
  {K:AV->Prop} (h:N6 tt t len parts K) (hl:vals.size=parts.length) (hv:∀ (j i:Nat) (x:AV),parts[j]? = some (i,x)->∃ v,vals[j]? = some (i,v)/\VR (aj c.M0 E L w) x v) :
  ∃ r w' av,(Instr.buildSlice t len vals).run P w = .ok r w'/\K av/\aI c E L w'/\(aj c.M0 E L w).le (aj c.M0 E L w')/\VR (aj c.M0 E L w') av r:=by
 obtain ⟨i,hi,h1⟩:=bI h;split at h1
 ·rename_i e he;obtain ⟨ei,iw,h2⟩:=bI h1;have hd:i.desc = .slice e:=by
   revert he
   cases i.desc<;>simp [bY]
  obtain ⟨jw,_⟩:=ht t i hi;rw [hd] at jw;obtain ⟨_,info,k1,k2,k3,k4⟩:=ht e ei iw
  cases hb:(!(Nat.beq ei.size 0)&&Nat.ble (len * ei.size) 16777216&&iZ ei.size (qK ei.zero)) with
  | false=>rw [hb] at h2;exact h2.elim
  | true =>
    rw [hb] at h2;simp only [jB] at h2;simp only [oB,G6] at hb;obtain ⟨⟨hz,xu⟩,hcb⟩:=hb;have hn:0<ei.size:=by
     rcases Hk ei.size with h|h
     ·rw [h] at hz;cases hz
     ·exact h
    have aeU:len * ei.size<=16777216:=Hh xu;obtain ⟨sB,SF⟩:=ko hcb;have WG:=fg SF (lY (aj c.M0 E L w) ei.zero);have vr:=uo WG (by rw [sB];exact hn) (len * ei.size);have hzs:ei.zero.cells.size=ei.size:=by have:=cH WG;simp only [lU] at this;rw [this,sB]
    obtain ⟨cs',cur',m1,m2,m3,m4⟩:=oF (pl:=λi=>some (i * ei.size,ei.size)) (λi K hK=>⟨_,rfl,hK⟩) (vals:=vals.toList) h2 (by simpa using hl) (λj i x hx=>by
      obtain ⟨v,uZ,oz⟩:=hv j i x hx;exact ⟨v,by simpa using uZ,oz⟩) vr
    obtain ⟨ds0,q1,q4⟩:=N5 m2 m3;obtain ⟨ds,q1,q5,q6⟩:=sA _ _ q1;replace q4:=q6 _ _ q4;clear q6 q5;obtain ⟨n1,xs,n2,n3,n4,n5⟩:=um q1;have ck:cur'.size=len * ei.size:=by rw [m4];simp
    have bR:ds.length=len * ei.size:=by have:=ed q4;simp only [lU] at this;rw [<-this,ck]
    have qx:xs.flatten=ds:=by rw [n5,gx oM]
    have kk:=aO.alloc w (.cells cur' e);obtain ⟨bP,hle⟩:=hs.newRow hc kk (e:=e) (cap:=len) (xs:=xs) false ⟨hn,ht.sz _ _ iw⟩ n4 (heap_alloc_new w _) ck oM (by
      have h1:len<=len * ei.size:=zc8 len hn;unfold maxLen;omega) (by
      rw [qx,n3,gx (by simp [ck])];exact q4)
    have DK:VR (aj c.M0 (ca E L.length (some w.heap.size)) (L++[.row e ei.size xs false]) (w.alloc (.cells cur' e))) (.arr L.length) (.slice (some ⟨w.heap.size,0,none⟩) xs.length len):=cO (cap:=len) (heap_alloc_new w _) ck;obtain ⟨_,_,aiw⟩:=bP.close hc (i:=L.length) (e:=e) (n:=ei.size) (xs:=xs) (sh:=false) (by simp);have oz:=aiw _ DK;have xG:=hs.keeps hc kk;have aix:(aj c.M0 E L w).le (aj c.M0 E L (w.alloc (.cells cur' e))):=iI hs.bl kk;have ga:∀ a u,(aj c.M0 (ca E L.length (some w.heap.size)) ((L++[AB.row e ei.size xs false]).set L.length (AB.row e ei.size xs true)) (w.alloc (.cells cur' e))).rd a u->(aj c.M0 E L (w.alloc (.cells cur' e))).rd a u:=by
     refine ug rfl (.refl _) ?_;rintro a u h1 h2;refine ⟨h1,?_⟩;rintro (hm|⟨i,bQ,hi,he,hm⟩|⟨i,bQ,hi,hm⟩)
     ·exact h2 (.inl hm)
     ·have bB:i<L.length:=(dW.1 hi).1;refine h2 (.inr (.inl ⟨i,bQ,?_,?_,hm⟩))
      ·rw [List.getElem?_set_ne oM,CK bB];exact hi
      ·simp only [ca];rw [aR oM];exact he
     ·have bB:i<L.length:=(dW.1 hi).1;refine h2 (.inr (.inr ⟨i,bQ,?_,hm⟩));rw [List.getElem?_set_ne oM,CK bB];exact hi
    refine ⟨_,_,_,?_,n2,xG,aix,by simp only [VR] at oz ⊢;exact VD.mono ga _ _ oz⟩;have xw:xs.length=len:=n3;rw [xw];by_cases h0:len * ei.size=0
    ·have m1':Instr.fill (λi=>some (i * ei.size,ei.size)) #[] vals.toList=some cur':=by
      have:(Array.range (len * ei.size)).map (ei.zero.cells[· % ei.zero.cells.size]!) = #[]:=by rw [h0];simp
      rw [this] at m1;exact m1
     have hr0:Array.range 0 = #[]:=by simp
     simp [Instr.buildSlice,run_underlying jw,run_sizeOf k1,k3,h0,hr0,m1',newRow]
    ·have yB:¬(16777216<len * ei.size):=oM;simp [Instr.buildSlice,run_underlying jw,run_sizeOf k1,k3,h0,yB,zeroValue,typeInfo,k1,k2,m1,newRow]
 ·exact h1.elim
def FU (P:Program) (tt:TypeId->Option TI) (fo:FuncId->Bool) (o:Oper) (F:AF) (L:List AB) (K:AV->List AB->Prop):Prop :=
 match o.op with
 | .buildSlice t len parts=>iK F parts.toList λps=>N6 tt t len ps λv=>K v L
 | _=>mP P tt fo o F L K
theorem LB {o:Oper} {F F':AF} {L:List AB} {K:AV->List AB->Prop} (hx:∀ x∈o.op.operands,ev F x=ev F' x) (h:FU P tt fo o F L K):FU P tt fo o F' L K:=by
 unfold FU at h ⊢;split at h
 ·rename_i t len ps ho;rw [ho] at hx;simp only [Op.operands] at hx;exact jO (λx hm=>hx x (by simpa using hm)) h
 ·rename_i ef;have:=Bc hx h;exact this
theorem N7 (ht:cp P tt) (hz:jL tt) (eZ:jx P fo) {o:Oper} {c:Ctx} (hc:c.wf) {E:Nat->Option Nat} {F:AF} {L:List AB} {a:Act} {w:World} {K:AV->List AB->Prop}
  (h:FU P tt fo o F L K) (hs:eE c E F L a w):DP P o c F L a w K:=by
 unfold FU at h;split at h
 ·rename_i t len parts ho;obtain ⟨hl,hp⟩:=ux hs parts;obtain ⟨r,w',av,h1,h2,h3,h4,h5⟩:=LA ht hc hs.h (nH h) hl hp;exact .inl ⟨_,w',_,by simp [execOp,ho,h1],E,L,h2,hs.mono h3 h4,h5⟩
 ·exact sG ht hz eZ hc h hs
end
end Go.Ab
