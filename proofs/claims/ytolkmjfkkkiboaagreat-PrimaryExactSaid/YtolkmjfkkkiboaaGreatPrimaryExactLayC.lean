/- PrimaryExact: abstract runs. -/
import Derived.Test.YtolkmjfkkkiboaaGreatPrimaryExactLayB
import Derived.Laws.BytesString
set_option linter.all false
namespace Go.Ab
noncomputable section
open Go.RowKit
theorem cO {M0:MZ} {E:Nat->Option Nat} {L:List AB} {w:World} {e n b cap:Nat} {xs:List (List DV)} {sh:Bool} {cur:Array Value}
  (hh:w.heap[b]? = some (.cells cur e (0,0))) (da:cur.size=cap * n) :
  VR (aj M0 (ca E L.length (some b)) (L++[.row e n xs sh]) w) (.arr L.length) (.slice (some ⟨b,0,none⟩) xs.length cap):=by
 simp only [VR];exact ⟨.row e n xs sh,by simp,by simp only [bj,ca,Hm];exact ⟨cap,cur,rfl,hh,da⟩⟩
theorem kp {M0:MZ} {E:Nat->Option Nat} {L:List AB} {w:World} {e n:Nat} {xs:List (List DV)} {sh:Bool} :
  VR (aj M0 (ca E L.length none) (L++[.row e n xs sh]) w) (.arr L.length) (.slice none 0 0):=by
 simp only [VR];exact ⟨.row e n xs sh,by simp,by simp [bj,ca]⟩
theorem aI.newRow {c:Ctx} (hc:c.wf) {E:Nat->Option Nat} {L:List AB} {w w':World} (hs:aI c E L w) (k:aO w w') {e n cap:Nat} {xs:List (List DV)} {cur:Array Value} (sh:Bool)
  (hn:RN e n) (hlen:∀ cs∈xs,cs.length=n) (hh:w'.heap[w.heap.size]? = some (.cells cur e (0,0))) (da:cur.size=cap * n) (gT:xs.length<=cap) (hm:cap<=maxLen)
  (hv:cR (aj c.M0 E L w).rd xs.flatten (cur.toList.take (xs.length * n))) :
  aI c (ca E L.length (some w.heap.size)) (L++[.row e n xs sh]) w' /\
  (aj c.M0 E L w).le (aj c.M0 (ca E L.length (some w.heap.size)) (L++[.row e n xs sh]) w'):=by
 have hle:=ig (c:=c) (E:=E) (L:=L) k (.row e n xs sh) (some w.heap.size) hs.bl (λb hb=>by cases hb;exact eQ _) (λb hb=>by simp [AB.boxes] at hb);refine ⟨hs.extend hc k _ _ (λb hb=>by cases hb;exact eQ _) (λb hb=>by simp [AB.boxes] at hb) (by simp [AB.boxes]) (λb hb=>by simp [AB.boxes] at hb) ?_,hle⟩;exact ⟨hn,hlen,cap,cur,hh,da,gT,hm,cR.mono hle.rd hv⟩
theorem aI.pN {c:Ctx} (hc:c.wf) {E:Nat->Option Nat} {L:List AB} {w:World} (hs:aI c E L w) (e n:Nat) (sh:Bool) (hn:RN e n) :
  aI c (ca E L.length none) (L++[.row e n [] sh]) w/\(aj c.M0 E L w).le (aj c.M0 (ca E L.length none) (L++[.row e n [] sh]) w):=by
 have hle:=ig (c:=c) (E:=E) (L:=L) (aO.refl w) (.row e n [] sh) none hs.bl (λb hb=>by cases hb) (λb hb=>by simp [AB.boxes] at hb);exact ⟨hs.extend hc (aO.refl w) _ _ (λb hb=>by cases hb) (λb hb=>by simp [AB.boxes] at hb) (by simp [AB.boxes]) (λb hb=>by simp [AB.boxes] at hb) ⟨hn,by simp,rfl⟩,hle⟩
def Fv (tt:TypeId->Option TI) (t:TypeId) (L:List AB) (K:AV->List AB->Prop):Prop :=
 lN tt t λi=>match bY i.desc with
  | some e=>lN tt e λei=>bif Nat.beq ei.size 0 then False else gU L (.row e ei.size [] false) 0 λj L'=>K (.arr j) L'
  | none=>False
theorem AA {P:Program} {tt:TypeId->Option TI} (ht:cp P tt) {t:TypeId} {c:Ctx} (hc:c.wf) {E:Nat->Option Nat} {L:List AB} {w:World} (hs:aI c E L w) {K:AV->List AB->Prop} (h:Fv tt t L K) :
  ∃ E' av L',K av L'/\aI c E' L' w/\(aj c.M0 E L w).le (aj c.M0 E' L' w)/\VR (aj c.M0 E' L' w) av (.slice none 0 0):=by
 obtain ⟨i,hi,h1⟩:=bI h;split at h1
 ·rename_i e he;obtain ⟨ei,iw,h2⟩:=bI h1
  cases hz:Nat.beq ei.size 0 with
  | true=>rw [hz] at h2;exact h2.elim
  | false =>
    rw [hz] at h2;simp only [py] at h2;have h3:=dA h2;rw [gP] at h3;have hn:0<ei.size:=by
     rcases Hk ei.size with h|h
     ·rw [h] at hz;cases hz
     ·exact h
    obtain ⟨bP,hle⟩:=hs.pN hc e ei.size false ⟨hn,ht.sz _ _ iw⟩;exact ⟨_,_,_,h3,bP,hle,kp⟩
 ·exact h1.elim
def zQ (size:Nat) (i:Nat) (K:Nat×Nat->Prop):Prop:=K (i * size,size)
noncomputable def Fw {α:Type} (n:Nat) (k:Nat):List α->(List (List α)->Prop)->Prop :=
 Nat.rec (motive:=λ_=>List α->(List (List α)->Prop)->Prop) (λ_ K=>K []) (λ_ ih l K=>Sn n l λc=>Sq n l λr=>ih r λcs=>K (c :: cs)) k
theorem um {α:Type} {n:Nat}:∀ {k:Nat} {l:List α} {K:List (List α)->Prop},Fw n k l K->k * n<=l.length/\∃ xs,K xs/\xs.length=k/\(∀ cs∈xs,cs.length=n)/\xs.flatten=l.take (k * n)
 | 0,l,K,h=>⟨by simp,[],h,rfl,by simp,by simp⟩
 | k+1,l,K,h=>by
   obtain ⟨h1,h2⟩:=vl h;obtain ⟨h3,h4⟩:=vm h2;obtain ⟨h5,xs,h6,h7,h8,h9⟩:=um (k:=k) h4;have hl:(l.take n).length=n:=by simp;omega
   refine ⟨by rw [qu,Nu];simp at h5;omega,l.take n :: xs,h6,by simp [h7],?_,?_⟩
   ·intro cs ck;rcases jy.1 ck with rfl|h
    ·exact hl
    ·exact h8 cs h
   ·rw [va,h9];have e:(k+1) * n=n+k * n:=by rw [qu];omega
    rw [e,List.take_add]
noncomputable def DD (xs:List AV):List AB->(List DV->List AB->Prop)->Prop :=
 List.rec (motive:=λ_=>List AB->(List DV->List AB->Prop)->Prop) (λL K=>K [] L) (λx _ ih L K=>K8 x L λd L1=>ih L1 λds L2=>K (d :: ds) L2) xs
theorem rr {c:Ctx} (hc:c.wf) {E:Nat->Option Nat} {w:World}:∀ {xs:List AV} {L:List AB} {K:List DV->List AB->Prop} {us:List Value},aI c E L w->DD xs L K->eK (aj c.M0 E L w) xs us ->
  ∃ ds L',K ds L'/\L'.length=L.length/\aI c E L' w/\(aj c.M0 E L w).le (aj c.M0 E L' w)/\cR (aj c.M0 E L' w).rd ds us
 | [],L,K,us,hs,h,hv=>⟨[],L,h,rfl,hs,.refl _,by simpa [eK,cR,Cs] using hv⟩
 | x :: xs,L,K,us,hs,h,hv=>by
   simp only [eK] at hv;obtain ⟨u,dt,rfl,h0,h1,h2⟩:=hv;obtain ⟨d,L1,k1,kl,k2,k3,k4⟩:=zN hc hs (show K8 x L λd L1=>DD xs L1 λds L2=>K (d :: ds) L2 from h) h1;obtain ⟨ds,L2,m1,ml,m2,m3,m4⟩:=rr hc (xs:=xs) k2 k1 (eK.mono k3 _ _ h2);exact ⟨d :: ds,L2,m1,by rw [ml,kl],m2,k3.trans m3,by simp only [cR,Cs];exact ⟨u,dt,rfl,h0,VD.mono m3.rd _ _ k4,m4⟩⟩
def pO (zc:List AV) (n:Nat):List AV:=(List.range n).map λi=>zc.getD (i % zc.length) (.d .any)
def Ld (tt:TypeId->Option TI) (fuel:Nat):TypeId->List Nat :=
 Nat.rec (motive:=λ_=>TypeId->List Nat) (λ_=>[]) (λ_ ih t=>match tt t with
  | none=>[]
  | some i=>match i.desc with
    | .slice e=>match tt e with|some ei=>[ei.size]|none=>[0]
    | .struct fs=>List.rec (motive:=λ_=>List Nat) [] (λf _ acc=>ih f.type++acc) fs.toList
    | _=>List.replicate i.size 0) fuel
def SE (l:List Nat):Nat->Nat :=
 List.rec (motive:=λ_=>Nat->Nat) (λ_=>0) (λo _ ih j=>Nat.rec (motive:=λ_=>Nat) o (λm _=>ih m) j) l
def nzK (n:Nat) (K:DV->Prop):Prop:=match n with|0=>K .nils|n+1=>K (.sl (n+1) [])
def xt (ns:List Nat) (size:Nat) (ds:List DV):Nat->(List DV->Prop)->Prop :=
 List.rec (motive:=λ_=>Nat->(List DV->Prop)->Prop) (λ_ K=>K []) (λd _ ih j K=>match d with
  | .nils=>nzK (SE ns (j % size)) λy=>ih (j+1) λl=>K (y :: l)
  | .int k n=>ih (j+1) λl=>K (.int k n :: l)
  | .bool b=>ih (j+1) λl=>K (.bool b :: l)
  | .str s=>ih (j+1) λl=>K (.str s :: l)
  | .sl n xs=>ih (j+1) λl=>K (.sl n xs :: l)
  | d=>ih (j+1) λl=>K (d :: l)) ds
theorem sA (ns:List Nat) (size:Nat):∀ {ds:List DV} {j:Nat} {K:List DV->Prop},xt ns size ds j K->∃ Xh,K Xh/\Xh.length=ds.length/\∀ (rd:Addr->Value->Prop) (us:List Value),cR rd ds us->cR rd Xh us
 | [],j,K,h=>⟨[],h,rfl,λ_ _ h=>h⟩
 | d :: r,j,K,h=>by
   have key:∀ d',(xt ns size r (j+1) λl=>K (d' :: l))->(∀ (rd:Addr->Value->Prop) (u:Value),VD rd d u->VD rd d' u)->∃ Xh,K Xh/\Xh.length=(d :: r).length/\∀ (rd:Addr->Value->Prop) (us:List Value),cR rd (d :: r) us->cR rd Xh us:=by
    intro d' hd hv;obtain ⟨Xh,h1,h2,h3⟩:=sA ns size (ds:=r) hd;refine ⟨d' :: Xh,h1,by simp [h2],λrd us hu=>?_⟩;simp only [cR,Cs] at hu ⊢;obtain ⟨u,dt,e,k1,k2,k3⟩:=hu;exact ⟨u,dt,e,k1,hv rd u k2,h3 rd dt k3⟩
   cases d with
   | nils =>
     replace h:nzK (SE ns (j % size)) λy=>xt ns size r (j+1) λl=>K (y :: l):=h;unfold nzK at h;split at h
     ·exact key _ h λ_ _ h=>h
     ·refine key _ h λrd u hu=>?_;simp only [VD] at hu ⊢;subst hu;exact ⟨oM,none,0,rfl,by simp,by simp [maxLen],λ_=>rfl,(λ_ h=>by cases h)⟩
   | _=>exact key _ h λ_ _ h=>h
noncomputable def ZP (l:List (Nat×AV)):Bool:=List.rec (motive:=λ_=>Bool) false (λp _ ih=>match p.2 with | .ptr _ _=>true|_=>ih) l
def yA (tt:TypeId->Option TI) (t:TypeId) (len:Nat) (parts:List (Nat×AV)) (L:List AB) (K:AV->List AB->Prop):Prop :=
 lN tt t λi=>match bY i.desc with
  | some e=>lN tt e λei=>bif !(Nat.beq ei.size 0)&&Nat.ble (len * ei.size) 16777216&&iZ ei.size (qK ei.zero) then
     bif ZP parts then bif Nat.beq ei.size 1 then Dz (zQ ei.size) (pO (cellsOf (qK ei.zero)) (len * ei.size)) parts λcs=>gU L (.cells cs) 0 λj L'=>K (.arr j) L' else False else
     Dz (zQ ei.size) (pO (cellsOf (qK ei.zero)) (len * ei.size)) parts λcs=>DD cs L λds L1=>xt (Ld tt 6 e) ei.size ds 0 λds=>Fw ei.size len ds λxs=>gU L1 (.row e ei.size xs false) 0 λj L'=>K (.arr j) L'
    else False
  | none=>False
theorem uo {R:RC} {zc:List AV} {z:Array Value} (hv:eK R zc z.toList) (h0:0<zc.length) (n:Nat):eK R (pO zc n) (((Array.range n).map (z[· % z.size]!)).toList):=by
 have hl:z.size=zc.length:=by have:=cH hv;simpa using this
 refine aba (by simp [pO]) ?_;intro i x u hx hu;simp only [pO,CD] at hx;simp only [Array.toList_map,CD] at hu;rcases qZ i n with fD|fD
 ·have h1:(List.range n)[i]? = some i:=by rw [zdZ fD]
  have h2:(Array.range n).toList[i]? = some i:=by simp [fD]
  rw [h1] at hx;rw [h2] at hu;simp only [WB,ke] at hx hu;have hm:i % zc.length<zc.length:=Nat.mod_lt _ h0;obtain ⟨u',k1,k2,k3⟩:=Fh hv (ff hm);have e1:zc.getD (i % zc.length) (.d .any)=zc[i % zc.length]:=by simp [hm]
  rw [e1] at hx;have hmz:i % z.size<z.size:=by rw [hl];exact hm
  have e2:z[i % z.size]! = z[i % z.size]:=by simp [hmz]
  rw [e2] at hu;have e3:u'=u:=by
   rw [<-hu];have:z.toList[i % zc.length]? = some z[i % z.size]:=by
    rw [<-hl];simp [hmz]
   rw [this] at k1;exact (Hl k1).symm
  subst hx;subst e3;exact ⟨k2,k3⟩
 ·have h1:(List.range n)[i]? = none:=by simp [fD]
  rw [h1] at hx;cases hx
theorem AD {P:Program} {tt:TypeId->Option TI} (ht:cp P tt) {t:TypeId} {c:Ctx} (hc:c.wf) {E:Nat->Option Nat} {L:List AB} {w:World} (hs:aI c E L w) {len:Nat} {parts:List (Nat×AV)} {vals:Array (Nat×Value)}
  {K:AV->List AB->Prop} (h:yA tt t len parts L K) (hl:vals.size=parts.length) (hv:∀ (j i:Nat) (x:AV),parts[j]? = some (i,x)->∃ v,vals[j]? = some (i,v)/\VR (aj c.M0 E L w) x v) :
  ∃ r w' E' av L',(Instr.buildSlice t len vals).run P w = .ok r w'/\K av L'/\aI c E' L' w'/\(aj c.M0 E L w).le (aj c.M0 E' L' w')/\VR (aj c.M0 E' L' w') av r:=by
 obtain ⟨i,hi,h1⟩:=bI h;split at h1
 ·rename_i e he;obtain ⟨ei,iw,h2⟩:=bI h1;have hd:i.desc = .slice e:=by
   revert he
   cases i.desc<;>simp [bY]
  obtain ⟨jw,_⟩:=ht t i hi;rw [hd] at jw;obtain ⟨_,info,k1,k2,k3,k4⟩:=ht e ei iw
  cases hb:(!(Nat.beq ei.size 0)&&Nat.ble (len * ei.size) 16777216&&iZ ei.size (qK ei.zero)) with
  | false=>rw [hb] at h2;exact h2.elim
  | true =>
    rw [hb] at h2;simp only [jB] at h2;simp only [oB,G6] at hb;obtain ⟨⟨hz,xu⟩,hcb⟩:=hb;have hn:0<ei.size:=by
     rcases Hk ei.size with h|h
     ·rw [h] at hz;cases hz
     ·exact h
    have aeU:len * ei.size<=16777216:=Hh xu;obtain ⟨sB,SF⟩:=ko hcb;have WG:=fg SF (lY (aj c.M0 E L w) ei.zero);have vr:=uo WG (by rw [sB];exact hn) (len * ei.size);have hzs:ei.zero.cells.size=ei.size:=by have:=cH WG;simp only [lU] at this;rw [this,sB]
    cases hpb:ZP parts with
    | true =>
      rw [hpb] at h2;simp only [jB] at h2
      cases eS:Nat.beq ei.size 1 with
      | false=>rw [eS] at h2;exact h2.elim
      | true =>
      rw [eS] at h2;simp only [jB] at h2;have Fg:ei.size=1:=ie eS;obtain ⟨cs',cur',m1,m2,m3,m4⟩:=oF (pl:=λi=>some (i * ei.size,ei.size)) (λi K hK=>⟨_,rfl,hK⟩) (vals:=vals.toList) h2 (by simpa using hl) (λj i x hx=>by
        obtain ⟨v,uZ,oz⟩:=hv j i x hx;exact ⟨v,by simpa using uZ,oz⟩) vr
      have n6:=dA m2;rw [gP] at n6;have ck:cur'.size=len * ei.size:=by rw [m4];simp
      have bR:cs'.length=len:=by have:=cH m3;simp only [lU] at this;rw [<-this,ck,Fg,xh]
      obtain ⟨bP,hle⟩:=hs.Az hc e m3;refine ⟨.slice (some ⟨w.heap.size,0,none⟩) len len,w.alloc (.cells cur' e),_,_,_,?_,n6,bP,hle,?_⟩
      ·by_cases h0:len * ei.size=0
       ·have m1':Instr.fill (λi=>some (i * ei.size,ei.size)) #[] vals.toList=some cur':=by
         have:(Array.range (len * ei.size)).map (ei.zero.cells[· % ei.zero.cells.size]!) = #[]:=by rw [h0];simp
         rw [this] at m1;exact m1
        have hr0:Array.range 0 = #[]:=by simp
        simp [Instr.buildSlice,run_underlying jw,run_sizeOf k1,k3,h0,hr0,m1',newRow]
       ·have yB:¬(16777216<len * ei.size):=oM;simp [Instr.buildSlice,run_underlying jw,run_sizeOf k1,k3,h0,yB,zeroValue,typeInfo,k1,k2,m1,newRow]
      ·simp only [VR];exact ⟨.cells cs',by simp,w.heap.size,by simp [ca],by rw [bR]⟩
    | false =>
    rw [hpb] at h2;simp only [py] at h2;obtain ⟨cs',cur',m1,m2,m3,m4⟩:=oF (pl:=λi=>some (i * ei.size,ei.size)) (λi K hK=>⟨_,rfl,hK⟩) (vals:=vals.toList) h2 (by simpa using hl) (λj i x hx=>by
      obtain ⟨v,uZ,oz⟩:=hv j i x hx;exact ⟨v,by simpa using uZ,oz⟩) vr
    obtain ⟨ds0,L1,q1,ql,q2,q3,q4⟩:=rr hc hs m2 m3;obtain ⟨ds,q1,q5,q6⟩:=sA _ _ q1;replace q4:=q6 _ _ q4;clear q6 q5;obtain ⟨n1,xs,n2,n3,n4,n5⟩:=um q1;have n6:=dA n2;rw [gP] at n6;have ck:cur'.size=len * ei.size:=by rw [m4];simp
    have bR:ds.length=len * ei.size:=by have:=ed q4;simp only [lU] at this;rw [<-this,ck]
    have qx:xs.flatten=ds:=by rw [n5,gx oM]
    obtain ⟨bP,hle⟩:=q2.newRow hc (aO.alloc w (.cells cur' e)) (e:=e) (cap:=len) (xs:=xs) false ⟨hn,ht.sz _ _ iw⟩ n4 (heap_alloc_new w _) ck oM (by
      have h1:len<=len * ei.size:=zc8 len hn;unfold maxLen;omega) (by
      rw [qx,n3,gx (by simp [ck])];exact q4)
    refine ⟨_,_,_,_,_,?_,n6,bP,q3.trans hle,cO (cap:=len) (heap_alloc_new w _) ck⟩;have xw:xs.length=len:=n3;rw [xw];by_cases h0:len * ei.size=0
    ·have m1':Instr.fill (λi=>some (i * ei.size,ei.size)) #[] vals.toList=some cur':=by
      have:(Array.range (len * ei.size)).map (ei.zero.cells[· % ei.zero.cells.size]!) = #[]:=by rw [h0];simp
      rw [this] at m1;exact m1
     have hr0:Array.range 0 = #[]:=by simp
     simp [Instr.buildSlice,run_underlying jw,run_sizeOf k1,k3,h0,hr0,m1',newRow]
    ·have yB:¬(16777216<len * ei.size):=oM;simp [Instr.buildSlice,run_underlying jw,run_sizeOf k1,k3,h0,yB,zeroValue,typeInfo,k1,k2,m1,newRow]
 ·exact h1.elim
def abp (L:List AB) (n:Nat) (x:AV) (K:List (List DV)->List AB->Prop):Prop :=
 match x with
 | .d .nils=>K [] L
 | .d (.sl m ys)=>bif Nat.beq m n then K ys L else False
 | .arr j=>fC L j λab=>match ab with
   | .row e m xs _=>bif Nat.beq m n then kZ L j (.row e m xs true) λL'=>K xs L' else False
   | _=>False
 | _=>False
def SH (L:List AB) (n:Nat) (x:AV) (K:List (List DV)->Prop):Prop :=
 match x with
 | .d .nils=>K []
 | .d (.sl m ys)=>bif Nat.beq m n then K ys else False
 | .d (.slo m ys)=>bif Nat.beq m n then K ys else False
 | .arr j=>fC L j λab=>match ab with
   | .row _ m xs _=>bif Nat.beq m n then K xs else False
   | _=>False
 | _=>False
def ZQ (rd:Addr->Value->Prop) (w:World) (n:Nat) (ys:List (List DV)) (v:Value):Prop :=
 ∃ p oG,v = .slice p ys.length oG/\(ys=[]∨∃ a us,p=some a/\cR rd ys.flatten us/\us.length=ys.length * n/\(∀ (j:Nat) (u:Value),us[j]? = some u->w.cell? (a.add j)=some u)/\(∀ cs∈ys,cs.length=n))
def HI (e n bytes:Nat) (L:List AB) (s:AV) (ys:List (List DV)) (K:AV->List AB->Prop):Prop :=
 match s with
 | .d .nils=>ys.length * bytes<=140737488355328/\gU L (.row e n ys false) 0 λj L'=>K (.arr j) L'
 | .arr j=>fC L j λab=>match ab with
   | .row e' m xs sh=>bif Nat.beq m n&&Nat.beq e' e then (xs.length+ys.length) * bytes<=140737488355328 /\
      kZ L j .dead λL1=>gU L1 (.row e n (xs++ys) sh) 0 λj' L'=>K (.arr j') L' else False
   | _=>False
 | _=>False
def pP (tt:TypeId->Option TI) (t:TypeId) (L:List AB) (s x:AV) (K:AV->List AB->Prop):Prop :=
 lN tt t λi=>match bY i.desc with
  | some e=>lN tt e λei=>bif Nat.beq ei.size 0||Nat.beq ei.bytes 0 then False else
     SH L ei.size x λys=>HI e ei.size ei.bytes L s ys K
  | none=>False
theorem Xi {c:Ctx} (hc:c.wf) {E:Nat->Option Nat} {L:List AB} {w:World} (hs:aI c E L w) {n:Nat} (hn:0<n) {x:AV} {K:List (List DV)->List AB->Prop} (h:abp L n x K) {v:Value} (hv:VR (aj c.M0 E L w) x v) :
  ∃ ys L',K ys L'/\aI c E L' w/\(aj c.M0 E L w).le (aj c.M0 E L' w)/\VR (aj c.M0 E L' w) (.d (.sl n ys)) v:=by
 have idle:(aj c.M0 E L w).le (aj c.M0 E L w):=RC.le.refl _
 cases x<;>first|exact h.elim|skip
 case d x =>
  cases x<;>simp only [abp] at h<;>first|exact h.elim|skip
  case nils =>
   simp only [VR,VD] at hv;subst hv;exact ⟨[],L,h,hs,idle,by simp only [VR,VD];exact ⟨hn,none,0,rfl,by simp,by simp [maxLen],λ_=>rfl,(λa' h=>by cases h)⟩⟩
  case sl m ys =>
   cases hb:Nat.beq m n with
   | false=>rw [hb] at h;exact h.elim
   | true =>
     rw [hb] at h;have:=ie hb;subst this;exact ⟨ys,L,h,hs,idle,hv⟩
 case arr j =>
  obtain ⟨ab,bC,h1⟩:=cq h
  cases ab<;>simp only at h1<;>first|exact h1.elim|skip
  rename_i e m xs sh
  cases hb:Nat.beq m n with
  | false=>rw [hb] at h1;exact h1.elim
  | true =>
    rw [hb] at h1;have:=ie hb;subst this;have h2:=ew h1;obtain ⟨bP,hle,n_⟩:=hs.close hc bC;exact ⟨xs,_,h2,bP,hle,n_ v hv⟩
theorem iT {P:Program} {w:World} {t ty e:TypeId} {info:TypeInfo} (hu:P.underlying t=some (.slice e)) (hi:P.info? e=some info) (base:Option Addr) (l c:Nat) (p:Option Addr) (k:Nat) (ZR:l<=c) :
  (Builtin.append_ #[t,t] ty #[.slice base l c,.slice p 0 k]).run P w = .ok (.slice base l c) w:=by
 cases base<;>cases p<;>simp [Builtin.append_,run_underlying hu,run_sizeOf hi,Builtin.lenOf,ZR,Builtin.firstCells,loadCells,loadCellsFrom,storeCells]
theorem HJ {c:Ctx} {E:Nat->Option Nat} {L:List AB} {w:World} (hs:aI c E L w) {n:Nat} (hn:0<n) {x:AV} {K:List (List DV)->Prop} (h:SH L n x K) {v:Value} (hv:VR (aj c.M0 E L w) x v) :
  ∃ ys,K ys/\ZQ (aj c.M0 E L w).rd w n ys v:=by
 cases x<;>first|exact h.elim|skip
 case d x =>
  cases x<;>simp only [SH] at h<;>first|exact h.elim|skip
  case nils =>
   simp only [VR,VD] at hv;subst hv;exact ⟨[],h,none,0,rfl,.inl rfl⟩
  case sl m ys =>
   cases hb:Nat.beq m n with
   | false=>rw [hb] at h;exact h.elim
   | true =>
     rw [hb] at h;have:=ie hb;subst this;simp only [VR,VD] at hv;obtain ⟨_,p,oG,rfl,hyc,hym,hpn,hp⟩:=hv;refine ⟨ys,h,p,oG,rfl,?_⟩
     cases p with
     | none=>left;have:=hpn rfl;exact oy oM
     | some a =>
       obtain ⟨zu,_,tj⟩:=hp a rfl;rcases zu with ZS|gK
       ·exact .inl ZS
       obtain ⟨us,l1,l2,l3⟩:=rk m tj gK;refine .inr ⟨a,us,rfl,l1,l2,λj u hj=>?_,?_⟩
       ·rw [add_lit a gK];exact (f_ (l3 j u hj) rfl).1
       ·intro cs ck;obtain ⟨i,hi⟩:=R8.1 ck;exact (pJ m tj gK hi).1
  case slo m ys =>
   cases hb:Nat.beq m n with
   | false=>rw [hb] at h;exact h.elim
   | true =>
     rw [hb] at h;have:=ie hb;subst this;simp only [VR,VD] at hv;obtain ⟨_,p,oG,rfl,hyc,hym,hpn,hp⟩:=hv;refine ⟨ys,h,p,oG,rfl,?_⟩
     cases p with
     | none=>left;have:=hpn rfl;exact oy oM
     | some a =>
       obtain ⟨zu,tj⟩:=hp a rfl;rcases zu with ZS|gK
       ·exact .inl ZS
       obtain ⟨us,l1,l2,l3⟩:=rk m tj gK;refine .inr ⟨a,us,rfl,l1,l2,λj u hj=>?_,?_⟩
       ·rw [add_lit a gK];exact (f_ (l3 j u hj) rfl).1
       ·intro cs ck;obtain ⟨i,hi⟩:=R8.1 ck;exact (pJ m tj gK hi).1
 case arr j =>
  obtain ⟨ab,bC,h1⟩:=cq h
  cases ab<;>simp only at h1<;>first|exact h1.elim|skip
  rename_i e m xs sh
  cases hb:Nat.beq m n with
  | false=>rw [hb] at h1;exact h1.elim
  | true =>
    rw [hb] at h1;have:=ie hb;subst this;refine ⟨xs,h1,?_⟩;obtain ⟨_,hlen,gC⟩:=hs.fQ j _ bC;simp only [VR] at hv;obtain ⟨bQ,eY,hrel⟩:=hv;rw [bC] at eY;cases eY
    simp only [bj] at hrel
    cases hE:E j with
    | none =>
      rw [hE] at hrel gC;simp only at hrel gC;subst gC;exact ⟨none,0,by simpa using hrel,.inl rfl⟩
    | some b =>
      rw [hE] at hrel gC;obtain ⟨cap,cur,hv,hh,da⟩:=hrel;obtain ⟨ek,cur',nY,nx,eX,jG,W4⟩:=gC;rw [hh] at nY;cases nY
      have gT:cap=ek:=zdB hn (da.symm.trans nx);subst gT;have xw:xs.flatten.length=xs.length * m:=mL m hlen;refine ⟨some ⟨b,0,none⟩,cap,hv,.inr ⟨_,cur.toList.take (xs.length * m),rfl,W4,by rw [ed W4,xw],λi u hi=>?_,hlen⟩⟩;rw [add_lit _ rfl,gP,cell_of_row w b i cur e (0,0) hh];rw [nX] at hi;split at hi
      ·simpa using hi
      ·cases hi
theorem yC {P:Program} {tt:TypeId->Option TI} (ht:cp P tt) {t e:TypeId} {ei:TI} (hu:P.underlying t=some (.slice e)) (iw:tt e=some ei) (hz:ei.zero.cells.size=ei.size) (hn:0<ei.size) (AE:0<ei.bytes)
  {c:Ctx} (hc:c.wf) {E:Nat->Option Nat} {L:List AB} {w:World} (hs:aI c E L w) {s:AV} {ys:List (List DV)} {K:AV->List AB->Prop} (h:HI e ei.size ei.bytes L s ys K) (ty:TypeId)
  {v u:Value} (hv:VR (aj c.M0 E L w) s v) (Aw:ZQ (aj c.M0 E L w).rd w ei.size ys u) :
  ∃ r w' E' av L',(Builtin.append_ #[t,t] ty #[v,u]).run P w = .ok r w'/\K av L'/\aI c E' L' w'/\(aj c.M0 E L w).le (aj c.M0 E' L' w')/\VR (aj c.M0 E' L' w') av r:=by
 obtain ⟨_,info,k1,k2,k3,k4⟩:=ht e ei iw
 -- DE aeX cells
 obtain ⟨p,oG,rfl,gD⟩:=Aw
 -- a new block SI holds alP and news
 have fresh:∀ (xs:List (List DV)) (us0:List Value) (SJ q_ cap:Nat),cR (aj c.M0 E L w).rd xs.flatten us0->us0.length=SJ * ei.size->xs.length=SJ->(∀ cs∈xs,cs.length=ei.size)->SJ<=cap->cap<=maxLen ->
   ∀ (cur:Array Value),cur=us0.toArray++Builtin.zeroCells ei.zero.cells (cap - SJ) ->
   cur.size=cap * ei.size/\cR (aj c.M0 E L w).rd xs.flatten (cur.toList.take (xs.length * ei.size)):=by
  intro xs us0 SJ q_ cap h1 h2 h3 h4 h5 h6 cur gE;subst gE;constructor
  ·simp only [WT,CM,size_zeroCells,hz,h2,<-qu];congr 1;omega
  ·rw [h3,Pu,<-h2];simp only [ze2];exact h1
 cases s<;>first|exact h.elim|skip
 case d s =>
  cases s<;>first|exact h.elim|skip
  simp only [VR,VD] at hv;subst hv;obtain ⟨hbound,h2⟩:=h;have h3:=dA h2;rw [gP] at h3;rcases gD with rfl|⟨a,us,rfl,l1,l2,l3,l4⟩
  ·obtain ⟨bP,hle⟩:=hs.pN hc e ei.size false ⟨hn,ht.sz _ _ iw⟩;exact ⟨_,_,_,_,_,iT hu k1 none 0 0 p oG (eQ _),h3,bP,hle,kp⟩
  ·by_cases hy0:ys.length=0
   ·have:ys=[]:=oy hy0;subst this;obtain ⟨bP,hle⟩:=hs.pN hc e ei.size false ⟨hn,ht.sz _ _ iw⟩;exact ⟨_,_,_,_,_,iT hu k1 none 0 0 _ oG (eQ _),h3,bP,hle,kp⟩
   ·have aeZ:ys.length<=140737488355328:=fS (zc8 _ AE) hbound;have hr:=run_append_nil (P:=P) w t ty e info ei.zero hu k1 k2 a ys.length oG us (by rw [k3];exact l2) l3 oM oM (by rw [k4];omega);have rl:=grownCap_ge w ys.length 0 e;have i_:=grownCap_le_maxLen w ys.length 0 e (by unfold maxLen;omega);obtain ⟨f1,f2⟩:=fresh ys us ys.length 0 _ l1 l2 rfl l4 rl i_ _ rfl;have kk:aO w (w.drew.alloc (.cells (us.toArray++Builtin.zeroCells ei.zero.cells (grownCap w ys.length 0 e - ys.length)) e)):=(aO.drew w).trans (aO.alloc w.drew _);obtain ⟨bP,hle⟩:=hs.newRow hc kk (e:=e) (xs:=ys) false ⟨hn,ht.sz _ _ iw⟩ l4 (heap_alloc_new w.drew _) f1 rl i_ f2;exact ⟨_,_,_,_,_,hr,h3,bP,hle,cO (heap_alloc_new w.drew _) f1⟩
 case arr j =>
  obtain ⟨ab,bC,h1⟩:=cq h
  cases ab<;>simp only at h1<;>first|exact h1.elim|skip
  rename_i e' m xs sh
  cases hb:(Nat.beq m ei.size&&Nat.beq e' e) with
  | false=>rw [hb] at h1;exact h1.elim
  | true =>
    rw [hb] at h1;simp only [oB] at hb;have em:=ie hb.1;have ee:=ie hb.2;subst em;subst ee;obtain ⟨hbound,h2⟩:=h1;have h3:=dA (ew h2);rw [gP] at h3;simp only [List.length_set] at h3;have fy:=hs.fQ j _ bC;obtain ⟨_,tI,gC⟩:=fy;have bB:j<L.length:=(dW.1 bC).1;simp only [VR] at hv;obtain ⟨bQ,eY,hrel⟩:=hv;rw [bC] at eY;cases eY
    simp only [bj] at hrel
    -- behind DE kill
    obtain ⟨hk,pR⟩:=hs.kill bC;have fW:(L.set j AB.dead).length=L.length:=by simp
    cases hE:E j with
    | none =>
      rw [hE] at gC hrel;simp only at gC hrel;subst gC;subst hrel;simp only [tC,Du,gP] at h3 hbound;have NF:ys=[]->∃ r w' E' av L',(Builtin.append_ #[t,t] ty #[.slice none 0 0,.slice p ys.length oG]).run P w = .ok r w'/\K av L'/\aI c E' L' w'/\(aj c.M0 E L w).le (aj c.M0 E' L' w')/\VR (aj c.M0 E' L' w') av r:=by
       intro hy;subst hy;obtain ⟨bP,hle⟩:=hk.pN hc e' ei.size sh ⟨hn,ht.sz _ _ iw⟩;rw [fW] at bP hle;exact ⟨_,_,_,_,_,iT hu k1 none 0 0 p oG (eQ _),h3,bP,(pR.trans hle),by rw [<-fW];exact kp⟩
      rcases gD with hy|⟨a,us,rfl,l1,l2,l3,l4⟩
      ·exact NF hy
      ·by_cases hy0:ys.length=0
       ·exact NF (oy hy0)
       ·have aeZ:ys.length<=140737488355328:=fS (zc8 _ AE) hbound;have hr:=run_append_nil (P:=P) w t ty e' info ei.zero hu k1 k2 a ys.length oG us (by rw [k3];exact l2) l3 oM oM (by rw [k4];omega);have rl:=grownCap_ge w ys.length 0 e';have i_:=grownCap_le_maxLen w ys.length 0 e' (by unfold maxLen;omega);obtain ⟨f1,f2⟩:=fresh ys us ys.length 0 _ l1 l2 rfl l4 rl i_ _ rfl;have kk:aO w (w.drew.alloc (.cells (us.toArray++Builtin.zeroCells ei.zero.cells (grownCap w ys.length 0 e' - ys.length)) e')):=(aO.drew w).trans (aO.alloc w.drew _);obtain ⟨bP,hle⟩:=hk.newRow hc kk (e:=e') (xs:=ys) sh ⟨hn,ht.sz _ _ iw⟩ l4 (heap_alloc_new w.drew _) f1 rl i_ (cR.mono pR.rd f2);rw [fW] at bP hle;exact ⟨_,_,_,_,_,hr,h3,bP,(pR.trans hle),by rw [<-fW];exact cO (heap_alloc_new w.drew _) f1⟩
    | some b =>
      rw [hE] at gC hrel;obtain ⟨cap,cur,rfl,hh,da⟩:=hrel;obtain ⟨ek,cur',nY,nx,ND,PF,CW⟩:=gC;rw [hh] at nY;cases nY
      have xn:cap=ek:=zdB hn (da.symm.trans nx);subst xn;have xw:xs.flatten.length=xs.length * ei.size:=mL ei.size tI;have xx:(cur.toList.take (xs.length * ei.size)).length=xs.length * ei.size:=by rw [ed CW,xw]
      have HK:ys=[]->∃ r w' E' av L',(Builtin.append_ #[t,t] ty #[.slice (some ⟨b,0,none⟩) xs.length cap,.slice p ys.length oG]).run P w = .ok r w'/\K av L'/\aI c E' L' w'/\(aj c.M0 E L w).le (aj c.M0 E' L' w')/\VR (aj c.M0 E' L' w') av r:=by
       intro hy;subst hy;simp only [gR] at h3;obtain ⟨bP,hle⟩:=hs.relabel bC (zs:=xs) (eQ _) (hs.fQ j _ bC);refine ⟨_,_,_,_,_,iT hu k1 _ _ _ p oG ND,h3,bP,hle,?_⟩;rw [hE];have:=cO (M0:=c.M0) (E:=E) (L:=L.set j .dead) (w:=w) (e:=e') (n:=ei.size) (xs:=xs) (sh:=sh) hh da;rw [fW] at this;exact this
      rcases gD with hy|⟨a,us,rfl,l1,l2,l3,l4⟩
      ·exact HK hy
      ·by_cases hy0:ys.length=0
       ·exact HK (oy hy0)
       ·have aeZ:xs.length+ys.length<=140737488355328:=fS (zc8 _ AE) hbound;have qL:(xs++ys).length=xs.length+ys.length:=by simp
        have bK:∀ cs∈xs++ys,cs.length=ei.size:=by
         intro cs ck;rcases gA.1 ck with h|h
         ·exact tI cs h
         ·exact l4 cs h
        by_cases eh:xs.length+ys.length<=cap
        · -- there is room
          have tk:xs.length * ei.size+us.length<=cur.size:=by rw [l2,da,<-qu];exact lT _ eh
          have hr:=run_append_room (P:=P) w t ty e' info hu k1 b xs.length cap cur hh a ys.length oG us (by rw [k3];exact l2) l3 (pH l1) eh (by rw [k3];exact tk);rw [k3] at hr;have qx:xs.length * ei.size<=cur.toList.length:=by simp only [lU];omega
          have CV:(cur.toList.take (xs.length * ei.size)++us++cur.toList.drop (xs.length * ei.size+us.length)).toArray.toList.take (xs.length * ei.size)=cur.toList.take (xs.length * ei.size):=by
           simp only [uf];rw [KW oM];rw [WW,zfJ]
          obtain ⟨dR,eX⟩:=hs.write bC hE hh (cur':=(cur.toList.take (xs.length * ei.size)++us++cur.toList.drop (xs.length * ei.size+us.length)).toArray) (by
           simp only [CM,iQ,mw,tf,lU];omega) CV
          have KH:=setRow_heap w b cur (cur.toList.take (xs.length * ei.size)++us++cur.toList.drop (xs.length * ei.size+us.length)).toArray e' (0,0) hh;have j8:(cur.toList.take (xs.length * ei.size)++us++cur.toList.drop (xs.length * ei.size+us.length)).toArray.size=cap * ei.size:=by
           rw [<-da];simp only [CM,iQ,mw,tf,lU];omega
          obtain ⟨e_,jG⟩:=dR.relabel bC (zs:=xs++ys) (by simp) (by
           rw [hE];refine ⟨⟨hn,ht.sz _ _ iw⟩,bK,cap,_,KH,j8,oM,PF,?_⟩;rw [RG];refine cR.mono eX.rd ?_;have e1:(cur.toList.take (xs.length * ei.size)++us++cur.toList.drop (xs.length * ei.size+us.length)).toArray.toList.take ((xs++ys).length * ei.size)=cur.toList.take (xs.length * ei.size)++us:=by
            have:(xs++ys).length * ei.size=(cur.toList.take (xs.length * ei.size)++us).length:=by
             simp only [iQ,xx,l2,qu]
            rw [this];exact ze2
           rw [e1];exact cf CW l1)
          refine ⟨_,_,_,_,_,hr,h3,e_,(eX.trans jG),?_⟩;rw [hE,<-qL];have:=cO (M0:=c.M0) (E:=E) (L:=L.set j .dead) (e:=e') (n:=ei.size) (xs:=xs++ys) (sh:=sh) KH j8;rw [fW] at this;exact this
        · -- it akq
          have holds:∀ i u,(cur.toList.take (xs.length * ei.size))[i]? = some u->w.cell? ((⟨b,0,none⟩:Addr).add i)=some u:=by
           intro i u hi;rw [add_lit _ rfl,gP,cell_of_row w b i cur e' (0,0) hh];rw [nX] at hi;split at hi
           ·simpa using hi
           ·cases hi
          have hr:=run_append_grow (P:=P) w t ty e' info ei.zero hu k1 k2 ⟨b,0,none⟩ xs.length cap (cur.toList.take (xs.length * ei.size)) (by rw [xx,k3]) holds a ys.length oG us (by rw [k3];exact l2) l3 oM oM
           (by rw [k4];exact growslice_fits oM hbound)
          have rl:=grownCap_ge w (xs.length+ys.length) cap e';have i_:=grownCap_le_maxLen w (xs.length+ys.length) cap e' (by unfold maxLen;omega);obtain ⟨f1,f2⟩:=fresh (xs++ys) (cur.toList.take (xs.length * ei.size)++us) (xs.length+ys.length) 0 _ (by rw [RG];exact cf CW l1) (by rw [iQ,xx,l2,qu]) qL bK rl i_ _ rfl;have aia:(cur.toList.take (xs.length * ei.size)).toArray++us.toArray++Builtin.zeroCells ei.zero.cells (grownCap w (xs.length+ys.length) cap e' - (xs.length+ys.length))=(cur.toList.take (xs.length * ei.size)++us).toArray++Builtin.zeroCells ei.zero.cells (grownCap w (xs.length+ys.length) cap e' - (xs.length+ys.length)):=by simp
          rw [aia] at hr;have kk:aO w (w.drew.alloc (.cells ((cur.toList.take (xs.length * ei.size)++us).toArray++Builtin.zeroCells ei.zero.cells (grownCap w (xs.length+ys.length) cap e' - (xs.length+ys.length))) e')):=(aO.drew w).trans (aO.alloc w.drew _);obtain ⟨bP,hle⟩:=hk.newRow hc kk (e:=e') (xs:=xs++ys) sh ⟨hn,ht.sz _ _ iw⟩ bK (heap_alloc_new w.drew _) f1 (by rw [qL];exact rl) i_ (cR.mono pR.rd f2);rw [fW] at bP hle;refine ⟨_,_,_,_,_,hr,h3,bP,(pR.trans hle),?_⟩;rw [<-fW,<-qL];exact cO (heap_alloc_new w.drew _) (by rw [qL];exact f1)
noncomputable def Fy (xs:List DV):(List DV->Prop)->Prop :=
 List.rec (motive:=λ_=>(List DV->Prop)->Prop) (λK=>K []) (λx _ ih K=>K9 x λy=>ih λl=>K (y :: l)) xs
theorem AG:∀ {xs:List DV} {K:List DV->Prop},Fy xs K->K (xs.map nC)
 | [],_,h=>h
 | x :: r,K,h=>AG (xs:=r) (K:=λl=>K (nC x :: l)) (Py (show K9 x λy=>Fy r λl=>K (y :: l) from h))
def SK (x:AV) (L:List AB) (K:AV->List AB->Prop):Prop :=
 bif qw x||K7 x then DD (cellsOf x) L λds L'=>Fy ds λds=>∀ b,gU L' (.cK b ds) 0 λi lB=>K (.mp i b 0) lB else False
theorem SM {P:Program} {c:Ctx} (hc:c.wf) {E:Nat->Option Nat} {L:List AB} {w:World} (hs:aI c E L w) {x:AV} {K:AV->List AB->Prop} (h:SK x L K) (t:TypeId) {v:Value} (hv:VR (aj c.M0 E L w) x v) :
  ∃ r w' E' av L',(Instr.box t v).run P w = .ok r w'/\K av L'/\aI c E' L' w'/\(aj c.M0 E L w).le (aj c.M0 E' L' w')/\VR (aj c.M0 E' L' w') av r:=by
 unfold SK at h
 cases hb:(qw x||K7 x) with
 | false=>rw [hb] at h;exact h.elim
 | true =>
   rw [hb] at h;simp only [jB] at h;have ef:cellsOf x≠[]∨∃ cs,x = .agg cs:=by
    cases x with
    | agg cs=>exact .inr ⟨_,rfl⟩
    | tup cs=>cases hb
    | d x =>
      cases x with
      | any=>cases hb
      | _=>exact .inl (by simp [cellsOf])
    | _=>exact .inl (by simp [cellsOf])
   have kQ:=fg ef hv;obtain ⟨ds,L1,h1,_,dR,eX,KI⟩:=rr hc hs h kQ;have h2:=dA (AG h1 w.heap.size);have KI:=Dx KI;rw [gP] at h2;have k:=aO.alloc w (.cells v.cells t);have hle:=ig (c:=c) (E:=E) (L:=L1) k (.cK w.heap.size (ds.map nC)) none dR.bl (λb hb=>by cases hb) (λb hb=>by simp [AB.boxes] at hb;omega);have bP:=dR.extend hc k (.cK w.heap.size (ds.map nC)) none (λb hb=>by cases hb) (λb hb=>by simp [AB.boxes] at hb;omega) (by simp [AB.boxes]) (λb hb=>by simp)
    ⟨v.cells,t,heap_alloc_new w _,cR.mono hle.rd KI⟩
   exact ⟨.pointer (some ⟨w.heap.size,0,none⟩),w.alloc (.cells v.cells t),_,_,_,by simp [Instr.box,newVar,newRow],h2,bP,eX.trans hle,by simp [VR]⟩
end
noncomputable section
open Go.RowKit
def ZT (cs:List DV):Nat->List DV->(List DV->Prop)->Prop :=
 List.rec (motive:=λ_=>Nat->List DV->(List DV->Prop)->Prop) (λ_ vs K=>List.rec (motive:=λ_=>Prop) (K []) (λ_ _ _=>False) vs)
  (λc r ih n vs=>List.rec (motive:=λ_=>(List DV->Prop)->Prop) (λK=>K (c :: r)) (λv Xc _=>Nat.rec (motive:=λ_=>(List DV->Prop)->Prop) (λK=>ih 0 Xc λl=>K (v :: l)) (λm _ K=>ih m (v :: Xc) λl=>K (c :: l)) n) vs) cs
theorem AH:∀ {cs:List DV} {n:Nat} {vs:List DV} {K:List DV->Prop},ZT cs n vs K->(vs=[]∨n+vs.length<=cs.length)/\K (eN cs n vs)
 | [],n,[],K,h=>⟨.inl rfl,by
     have:eN ([]:List DV) n []=[]:=by simp [eN]
     rw [this];exact h⟩
 | [],_,_ :: _,_,h=>h.elim
 | c :: cs,n,[],K,h=>⟨.inl rfl,by
     have:eN (c :: cs) n []=c :: cs:=by simp [eN]
     rw [this];exact h⟩
 | c :: cs,0,v :: vs,K,h=>by
   obtain ⟨h1,h2⟩:=AH (cs:=cs) (n:=0) (vs:=vs) (K:=λl=>K (v :: l)) h;refine ⟨.inr ?_,?_⟩
   ·rcases h1 with rfl|h1<;>simp<;>omega
   ·have:eN (c :: cs) 0 (v :: vs)=v :: eN cs 0 vs:=by simp [eN]
    rw [this];exact h2
 | c :: cs,n+1,v :: vs,K,h=>by
   obtain ⟨h1,h2⟩:=AH (cs:=cs) (n:=n) (vs:=v :: vs) (K:=λl=>K (c :: l)) h;refine ⟨.inr ?_,?_⟩
   ·rcases h1 with h1|h1
    ·cases h1
    ·simp at h1 ⊢;omega
   ·have e:n+1+(v :: vs).length=(n+(v :: vs).length)+1:=oM;have:eN (c :: cs) (n+1) (v :: vs)=c :: eN cs n (v :: vs):=by
     unfold eN;rw [e,ZG,zdQ];rfl
    rw [this];exact h2
theorem tJ (n:Nat):∀ {xs:List (List DV)},(∀ cs∈xs,cs.length=n)->∀ {k off:Nat} {cs ds:List DV},xs[k]? = some cs->off+ds.length<=n->(xs.set k (eN cs off ds)).flatten=eN xs.flatten (k * n+off) ds
 | [],_,k,off,cs,ds,h,_=>by simp at h
 | c :: r,hl,0,off,cs,ds,h,hle=>by
   simp at h;subst h;have hc:c.length=n:=hl c (by simp);simp only [WQ,va,Nat.zero_mul,gP,eN];rw [KW oM,List.drop_append_of_le_length oM];simp [uf]
 | c :: r,hl,k+1,off,cs,ds,h,hle=>by
   have hc:c.length=n:=hl c (by simp);have ih:=tJ n (xs:=r) (λx hx=>hl x (by simp [hx])) (k:=k) (off:=off) (cs:=cs) (ds:=ds) (by simpa using h) hle;rw [zdU,va,ih,va];unfold eN;have e:(k+1) * n+off=c.length+(k * n+off):=by rw [hc,qu];omega
   have e2:c.length+(k * n+off)+ds.length=c.length+(k * n+off+ds.length):=oM;rw [e,e2,ze4,ze3,gx (oM:c.length<=c.length+(k * n+off)),zfF (oM:c.length<=c.length+(k * n+off+ds.length))];simp only [zeI,tC,uf]
theorem aI.rewrite {c:Ctx} {E:Nat->Option Nat} {L:List AB} {w:World} (h:aI c E L w) {i e n:Nat} {xs zs:List (List DV)} (hi:L[i]? = some (.row e n xs false)) {b:Nat} (hb:E i=some b)
  {cur cur':Array Value} (hh:w.heap[b]? = some (.cells cur e (0,0))) (hs:cur'.size=cur.size) (hz:zs.length=xs.length) (hn:∀ cs∈zs,cs.length=n)
  (hv:cR (aj c.M0 E L w).rd zs.flatten (cur'.toList.take (zs.length * n))) :
  aI c E (L.set i (.row e n zs false)) (w.setRow b cur')/\(aj c.M0 E L w).le (aj c.M0 E (L.set i (.row e n zs false)) (w.setRow b cur')):=by
 have k:mH (E i) w (w.setRow b cur'):=by rw [hb];exact (vk.setRow w b cur').toE (lV hh hs)
 have hle:(aj c.M0 E L w).le (aj c.M0 E (L.set i (.row e n zs false)) (w.setRow b cur')):=by
  refine rm h hi rfl k (λo hm=>?_) ?_ rfl ?_ ?_ (λ_ hb=>hb)
  ·intro hf;cases hf
  ·intro b' o u kg hnm hc;exact absurd (λhf=>by cases hf) hnm
  ·intro v hv;simp only [bj,hb] at hv ⊢;obtain ⟨cap,fx,h1,h2,h3⟩:=hv;rw [hh] at h2;cases h2
   exact ⟨cap,cur',by rw [h1,hz],setRow_heap w b cur cur' e (0,0) hh,by rw [hs];exact h3⟩
  ·intro j o v hv;simp only [mF] at hv ⊢;exact hv
 refine ⟨h.Ht hi rfl k hle rfl ?_ rfl,hle⟩;have fy:=h.fQ i _ hi;obtain ⟨zw,hl,h3⟩:=fy;refine ⟨zw,hn,?_⟩;rw [hb] at h3 ⊢;obtain ⟨cap,fx,h4,h5,h6,h7,h8⟩:=h3;rw [hh] at h4;cases h4
 exact ⟨cap,cur',setRow_heap w b cur cur' e (0,0) hh,by rw [hs];exact h5,by rw [hz];exact h6,h7,cR.mono hle.rd hv⟩
def AI (tt:TypeId->Option TI) (t:TypeId) (i:TI) (L:List AB) (j k off:Nat) (v:AV) (K:List AB->Prop):Prop :=
 bif iZ i.size v then DD (cellsOf v) L λds L1=>xt (Ld tt 6 t) i.size ds 0 λds=>fC L1 j λab=>match ab with
  | .row e n xs sh=>match sh with
    | true=>False
    | false=>∃ cs,xs[k]? = some cs/\ZT cs off ds λcs'=>kZ L1 j (.row e n (xs.set k cs') false) K
  | _=>False
 else False
theorem HL {P:Program} {tt:TypeId->Option TI} (ht:cp P tt) {t:TypeId} {i:TI} (hi:tt t=some i) {c:Ctx} (hc:c.wf) {E:Nat->Option Nat} {L:List AB} {w:World} (hs:aI c E L w)
  {j k off:Nat} {v:AV} {K:List AB->Prop} (h:AI tt t i L j k off v K) {p u:Value} (hp:VR (aj c.M0 E L w) (.ap j k off) p) (hu:VR (aj c.M0 E L w) v u) :
  ∃ w' L',(Instr.storeAt t p u).run P w = .ok () w'/\K L'/\aI c E L' w'/\(aj c.M0 E L w).le (aj c.M0 E L' w'):=by
 unfold AI at h
 cases da:iZ i.size v with
 | false=>rw [da] at h;exact h.elim
 | true =>
   rw [da] at h;simp only [jB] at h;obtain ⟨hlen,ef⟩:=ko da;have ck:=fg ef hu;obtain ⟨Aw,info,k1,k2,k3,k4⟩:=ht t i hi;obtain ⟨ds0,L1,h1,hL1,dR,eX,ae0⟩:=rr hc hs h ck;obtain ⟨ds,h2,zx,KI⟩:=sA _ _ h1;replace KI:=KI _ _ ae0;obtain ⟨ab,bC,h3⟩:=cq h2
   cases ab with
   | row e n xs sh =>
     cases sh with
     | true=>exact h3.elim
     | false =>
       obtain ⟨cs,hxk,h4⟩:=h3;obtain ⟨tG,h5⟩:=AH h4;have h6:=ew h5;have hp1:=VR.mono eX _ _ hp;simp only [VR] at hp1;obtain ⟨bQ,eY,hr⟩:=hp1;rw [bC] at eY;cases eY
       obtain ⟨b,hb,rfl⟩:=hr;have fy:=dR.fQ j _ bC;obtain ⟨zw,hl,HH⟩:=fy;rw [hb] at HH;obtain ⟨cap,cur,hh,SN,gT,qN,CY⟩:=HH;have pM:u.cells.toList.length=ds.length:=by rw [zx,<-ed ae0]
       have bR:cs.length=n:=hl cs (fU hxk);have hk:k<xs.length:=(dW.1 hxk).1;have tk:ds=[]∨off+ds.length<=n:=by rw [<-bR];exact tG
       have akr:k * n+n<=xs.length * n:=by
        have:=lT n (show k+1<=xs.length from hk);rw [qu,Nu] at this;exact this
       have aks:xs.length * n<=cap * n:=lT n gT;have zO:u.cells.size=i.size:=by rw [<-lU,<-hlen];exact cH ck
       rcases tk with nw|tk
       · -- nothing is written
         have hu0:u.cells.toList=[]:=oy (by rw [pM,nw];rfl);have aib:eN cs off ds=cs:=by rw [nw];simp [eN]
         have hxs:xs.set k (eN cs off ds)=xs:=by
          rw [aib];apply WS;intro m;by_cases hm:m=k
          ·subst hm;rw [aD hxk,hxk]
          ·rw [al hm]
         rw [hxs] at h6;have hLs:L1.set j (.row e n xs false)=L1:=by
          apply WS;intro m;by_cases hm:m=j
          ·subst hm;rw [aD bC,bC]
          ·rw [al hm]
         rw [hLs] at h6;refine ⟨w,L1,?_,h6,dR,eX⟩;have ZU:u.cells.size=0:=by rw [<-lU,hu0];rfl
         have hz:i.size=0:=by rw [<-zO,ZU]
         simp only [Instr.storeAt,Instr.sureAddr,storeVar,Sem.run_bind,Sem.run_pure,Result.andThen_ok,run_sizeOf k1,k3,hz,ZU,hu0];rfl
       ·have vo:=run_storeCells_at P b (k * n+off) e u.cells.toList 0 cur w hh (by rw [pM,SN];omega) (Nx ck);simp only [RJ] at vo;have hF:=tJ n hl hxk tk;have SO:∀ cs'∈xs.set k (eN cs off ds),cs'.length=n:=by
         intro cs' hm;rcases List.mem_or_eq_of_mem_set hm with hm|rfl
         ·exact hl cs' hm
         ·simp only [eN,iQ,mw,tf,bR];omega
        have SP:cur.toList.length=cap * n:=by rw [lU,SN]
        have j7:cR (aj c.M0 E L1 w).rd (xs.set k (eN cs off ds)).flatten ((cur.toList.take (k * n+off)++u.cells.toList++cur.toList.drop (k * n+off+u.cells.toList.length)).take (xs.length * n)):=by
         rw [hF];have e1:(cur.toList.take (k * n+off)++u.cells.toList++cur.toList.drop (k * n+off+u.cells.toList.length)).take (xs.length * n) =
           (cur.toList.take (xs.length * n)).take (k * n+off)++u.cells.toList++(cur.toList.take (xs.length * n)).drop (k * n+off+ds.length):=by
          rw [WW,vd oM,List.drop_take,pM,ze4];have sy:(cur.toList.take (k * n+off)++u.cells.toList).length=k * n+off+ds.length:=by
           rw [iQ,mw,pM,vd oM]
          rw [sy,gx (by rw [sy];omega)]
         rw [e1];unfold eN;exact cf (cf (gJ _ CY) KI) (kP _ CY)
        have oA:(xs.set k (eN cs off ds)).length=xs.length:=by simp
        obtain ⟨bP,hle⟩:=dR.rewrite bC hb hh (zs:=xs.set k (eN cs off ds)) (cur':=(cur.toList.take (k * n+off)++u.cells.toList++cur.toList.drop (k * n+off+u.cells.toList.length)).toArray)
         (by
           rw [CM,iQ,iQ,mw,tf,pM,SP,SN,vd oM];omega) oA SO (by rw [oA];simpa using j7)
        refine ⟨_,_,?_,h6,bP,eX.trans hle⟩;simp only [Instr.storeAt,Instr.sureAddr,storeVar,Sem.run_bind,Sem.run_pure,Result.andThen_ok,run_sizeOf k1,k3,zO];rw [aR (by simp)];exact vo
   | _=>exact h3.elim
def DG (tt:TypeId->Option TI) (t:TypeId) (L:List AB) (a v:AV) (K:List AB->Prop):Prop :=
 lN tt t λi=>match a with
  | .ap j k off=>AI tt t i L j k off v K
  | a=>K_ i L a v K
theorem Fz {P:Program} {tt:TypeId->Option TI} (ht:cp P tt) {t:TypeId} {c:Ctx} (hc:c.wf) {E:Nat->Option Nat} {L:List AB} {w:World} (hs:aI c E L w)
  {a v:AV} {K:List AB->Prop} (h:DG tt t L a v K) {p u:Value} (hp:VR (aj c.M0 E L w) a p) (hu:VR (aj c.M0 E L w) v u) :
  ∃ w' L',(Instr.storeAt t p u).run P w = .ok () w'/\K L'/\aI c E L' w'/\(aj c.M0 E L w).le (aj c.M0 E L' w'):=by
 obtain ⟨i,hi,h1⟩:=bI h;split at h1
 ·exact HL ht hi hc hs h1 hp hu
 ·exact Pz ht hi hc hs h1 hp hu
end
noncomputable section
open Go.RowKit
def oa (bs:List UInt8):List (List DV):=bs.map λb=>[.int .u8 b.toNat]
def HM:TypeDesc->Option IntKind | .int k=>some k|_=>none
def qy (d:TypeDesc):Bool:=match d with | .int .u8=>true|_=>false
def HN (d:TypeDesc):Option FloatKind:=match d with | .float k=>some k|_=>none
def AJ (e:TypeId) (s:ByteArray) (cap:Nat):Obj := .cells (bytesRow s cap) e ((bytesRow s cap).size,(bytesRow s cap).size+1)
def HO (tt:TypeId->Option TI) (src dst:TypeId) (L:List AB) (x:AV) (K:AV->List AB->Prop):Prop :=
 lN tt src λsi=>lN tt dst λdi =>
  match x with
  | .d (.int _ n)=>match HM di.desc with
    | some k=>∀ z,z=k.wrap n->K (.d (.int k z)) L
    | none=>match HN di.desc with
      | some k=>K (.d (.Ho k (bL k n))) L
      | none=>False
  | .d (.str s)=>match di.desc with
    | .string=>K (.d (.str s)) L
    | .slice e=>lN tt e λei=>bif jI si.desc&&qy ei.desc&&Nat.beq ei.size 1 then s.size<=maxLen/\(K (.d (.sl 1 (oa s.data.toList))) L∨∀ cap,s.size<=cap->cap<=maxLen->gU L (.qJ (AJ e s cap) s.size cap) 0 λj L'=>K (.arr j) L') else False
    | _=>False
  | .d (.sl n xs)=>match si.desc,di.desc with
    | .slice e,.string=>lN tt e λei=>bif qy ei.desc&&Nat.beq n 1 then ∃ bs,xs=oa bs/\K (.d (.str ⟨bs.toArray⟩)) L else False
    | _,_=>False
  | .arr j=>fC L j λab=>match ab with
    | .row e n xs _=>match si.desc,di.desc with
      | .slice e',.string=>lN tt e' λei=>bif qy ei.desc&&Nat.beq n 1 then kZ L j (.row e n xs true) λL'=>∃ bs,xs=oa bs/\K (.d (.str ⟨bs.toArray⟩)) L' else False
      | .slice e',.slice _=>lN tt e' λei=>bif qy ei.desc&&Nat.beq src dst then kZ L j .dead λL'=>xs≠[]/\K (.d (.sl n xs)) L' else False
      | _,_=>False
    | _=>False
  | _=>False
theorem nE:∀ (ns:List UInt8) (s:ByteArray),(ns.map λb=>(b.toNat:Int)).foldl (λr n=>r.push (UInt8.ofNat n.toNat)) s=⟨s.data++ns.toArray⟩
 | [],s=>by simp
 | n :: ns,s=>by
   simp only [Dv,List.foldl_cons];rw [nE ns];simp [ByteArray.push]
theorem NG {rd:Addr->Value->Prop}:∀ {bs:List UInt8} {us:List Value},cR rd (oa bs).flatten us->us=bs.map λb => .int .u8 (b.toNat:Int)
 | [],us,h=>by simpa [oa,cR,Cs] using h
 | b :: bs,us,h=>by
   simp only [oa,Dv,va,Wy,cR,Cs] at h;obtain ⟨u,dt,rfl,_,h1,h2⟩:=h;simp only [VD] at h1;subst h1;have:=NG (bs:=bs) (by simpa [oa,cR] using h2);simp [this]
theorem zR {rd:Addr->Value->Prop}:∀ (bs:List UInt8),cR rd (oa bs).flatten (bs.map λb=>Value.int .u8 (b.toNat:Int))
 | []=>by simp [oa,cR,Cs]
 | b :: bs=>by
   simp only [oa,Dv,va,Wy,cR,Cs];exact ⟨_,_,rfl,rfl,by simp [VD],by simpa [oa,cR] using zR bs⟩
theorem gV (bs:List UInt8):(oa bs).length=bs.length:=by simp [oa]
theorem FA (bs:List UInt8):∀ cs∈oa bs,cs.length=1:=by
 intro cs h;simp only [oa,px] at h;obtain ⟨b,_,rfl⟩:=h;rfl
theorem vu {P:Program} {w:World} {src dst e:TypeId} (hs:P.underlying src=some (.slice e)) (he:P.underlying e=some (.int .u8)) (hd:P.underlying dst=some .string)
  {c:Ctx} {E:Nat->Option Nat} {L:List AB} {bs:List UInt8} {v:Value} (hv:VR (aj c.M0 E L w) (.d (.sl 1 (oa bs))) v):(convert src dst v).run P w = .ok (.string ⟨bs.toArray⟩) w:=by
 simp only [VR,VD] at hv;obtain ⟨_,p,cap,rfl,h1,h2,h3,h4⟩:=hv;rw [run_convert_bytes_string w src dst e p _ cap hs he hd]
 cases p with
 | none =>
   have:=h3 rfl;have hb:bs=[]:=by
    have:(oa bs).length=0:=oM;rw [gV] at this;exact oy this
   subst hb;simp [Conv.bytesToString];rfl
 | some a =>
   obtain ⟨gK,_,tj⟩:=h4 a rfl;obtain ⟨us,hlen,yD,tE⟩:∃ us:List Value,us.length=(oa bs).length/\us=bs.map (λb=>Value.int .u8 (b.toNat:Int))/\∀ (j:Nat) (v:Value),us[j]? = some v->w.cell? (a.add j)=some v:=by
    rcases gK with hb|gK
    ·have:bs=[]:=by
      have h0:(oa bs).length=0:=by rw [hb];rfl
      rw [gV] at h0;exact oy h0
     subst this;exact ⟨[],rfl,rfl,λj v hj=>by simp at hj⟩
    ·obtain ⟨us,k1,k2,k3⟩:=rk 1 tj gK;exact ⟨us,oM,NG k1,λj v hj=>by rw [add_lit a gK];exact (f_ (k3 j v hj) rfl).1⟩
   have hl:=run_loadCells_list (P:=P) w a us tE;rw [hlen] at hl;have:=run_bytesToString (P:=P) w a (oa bs).length cap (bs.map λb=>(b.toNat:Int)) (by rw [hl,yD];simp [Function.comp_def]);rw [this,nE];simp
theorem HP {P:Program} {tt:TypeId->Option TI} (ht:cp P tt) {src dst:TypeId} {c:Ctx} (hc:c.wf) {E:Nat->Option Nat} {L:List AB} {w:World} (hs:aI c E L w) {x:AV} {K:AV->List AB->Prop}
  (h:HO tt src dst L x K) {v:Value} (hv:VR (aj c.M0 E L w) x v) :
  ∃ r w' E' av L',(convert src dst v).run P w = .ok r w'/\K av L'/\aI c E' L' w'/\(aj c.M0 E L w).le (aj c.M0 E' L' w')/\VR (aj c.M0 E' L' w') av r:=by
 obtain ⟨si,hsi,h1⟩:=bI h;obtain ⟨di,hdi,h2⟩:=bI h1;obtain ⟨yD,_⟩:=ht src si hsi;obtain ⟨RM,_⟩:=ht dst di hdi;have idle:(aj c.M0 E L w).le (aj c.M0 E L w):=RC.le.refl _
 cases x<;>first|exact h2.elim|skip
 case d x =>
  cases x<;>first|exact h2.elim|skip
  case int k n =>
   simp only at h2;simp only [VR,VD] at hv;subst hv;split at h2
   ·rename_i k' Fj;have hd:di.desc = .int k':=by
     revert Fj
     cases di.desc<;>simp [HM]
    rw [hd] at RM;exact ⟨.int k' (k'.wrap n),w,E,_,L,by unfold convert;simp only [Sem.run_bind,run_underlying yD,run_underlying RM,Result.andThen_ok];rfl,h2 _ rfl,hs,idle,by simp [VR,VD]⟩
   ·split at h2
    ·rename_i k' Fj;have hd:di.desc = .float k':=by
      revert Fj
      cases di.desc<;>simp [HN]
     rw [hd] at RM;exact ⟨.float k' (bL k' n),w,E,_,L,by unfold convert;simp only [Sem.run_bind,run_underlying yD,run_underlying RM,Result.andThen_ok];cases si.desc<;>rfl,h2,hs,idle,by simp [VR,VD]⟩
    ·exact h2.elim
  case str s =>
   simp only at h2;simp only [VR,VD] at hv;subst hv;split at h2
   ·rename_i hd;rw [hd] at RM;exact ⟨.string s,w,E,_,L,by unfold convert;simp only [Sem.run_bind,run_underlying yD,run_underlying RM,Result.andThen_ok];cases si.desc<;>rfl,h2,hs,idle,by simp [VR,VD]⟩
   ·rename_i e hd;rw [hd] at RM;obtain ⟨ei,iw,h3⟩:=bI h2;obtain ⟨RO,_⟩:=ht e ei iw
    cases hb:(jI si.desc&&qy ei.desc&&Nat.beq ei.size 1) with
    | false=>rw [hb] at h3;exact h3.elim
    | true =>
      rw [hb] at h3;simp only [oB] at hb;have Xj:si.desc = .string:=by
       have:=hb.1.1;revert this
       cases si.desc<;>simp [jI]
      have hed:ei.desc = .int .u8:=by
       have:=hb.1.2;revert this;unfold qy;split<;>simp_all
      rw [Xj] at yD;rw [hed] at RO;have hr:=run_bytes_of_string (P:=P) w src dst e s yD RM RO;have rl:=grownCap_ge w s.size 0 e;have kk:aO w (w.drew.alloc (.cells (bytesRow s (grownCap w s.size 0 e)) e ((bytesRow s (grownCap w s.size 0 e)).size,(bytesRow s (grownCap w s.size 0 e)).size+1))):=(aO.drew w).trans (aO.alloc w.drew _);rcases h3.2 with h3a|h3b
      rotate_left
      ·have hp:=dA (h3b (grownCap w s.size 0 e) rl (grownCap_le_maxLen w s.size 0 e h3.1));rw [gP] at hp;have gd:(w.drew.alloc (.cells (bytesRow s (grownCap w s.size 0 e)) e ((bytesRow s (grownCap w s.size 0 e)).size,(bytesRow s (grownCap w s.size 0 e)).size+1))).heap[w.heap.size]? = some (AJ e s (grownCap w s.size 0 e)):=heap_alloc_new w.drew _;refine ⟨_,_,ca E L.length (some w.heap.size),_,_,hr,hp,hs.extend hc kk _ _ (λb hb=>by cases hb;exact eQ _) (λb hb=>by cases hb) (by simp [AB.boxes]) (λb hb=>by cases hb) ⟨w.heap.size,rfl,gd⟩,ig kk _ _ hs.bl (λb hb=>by cases hb;exact eQ _) (λb hb=>by cases hb),?_⟩;simp only [VR];exact ⟨_,by simp;rfl,by simp only [bj,ca,Hm];exact ⟨w.heap.size,rfl,rfl⟩⟩
      refine ⟨_,_,E,_,L,hr,h3a,hs.keeps hc kk,iI hs.bl kk,?_⟩;have n_:s.data.toList.length=s.size:=by rw [lU];rfl
      simp only [VR,VD];have hm:grownCap w s.size 0 e<=maxLen:=grownCap_le_maxLen w s.size 0 e h3.1;refine ⟨oM,some ⟨w.heap.size,0,none⟩,grownCap w s.size 0 e,by rw [gV,n_],by rw [gV,n_];exact rl,hm,(λh=>by cases h),λa' ha=>?_⟩
      cases ha
      refine ⟨.inr rfl,?_,uh (iI (c:=c) (E:=E) (L:=L) hs.bl kk).rd 1 (zR s.data.toList) (FA _) rfl ?_⟩
      ·refine λ_ => .inr ⟨1,rfl,λs0 ui=>⟨fS (hc.ahW ui) hs.size,_,e,_,grownCap w s.size 0 e,rfl,heap_alloc_new w.drew _,λo h1 h2=>by have:=h2.1;simp only at this;omega,by rw [ht.sz e ei iw];exact ie hb.2,zfP _,?_⟩⟩;show 0+grownCap w s.size 0 e * 1<=(bytesRow s (grownCap w s.size 0 e)).size;unfold bytesRow;simp;have:s.data.size=s.size:=rfl;omega
      intro j u hj;have gd:(w.drew.alloc (.cells (bytesRow s (grownCap w s.size 0 e)) e ((bytesRow s (grownCap w s.size 0 e)).size,(bytesRow s (grownCap w s.size 0 e)).size+1))).heap[w.heap.size]? = some (.cells (bytesRow s (grownCap w s.size 0 e)) e ((bytesRow s (grownCap w s.size 0 e)).size,(bytesRow s (grownCap w s.size 0 e)).size+1)):=heap_alloc_new w.drew _;refine .inl ⟨?_,?_⟩
      ·rw [cell_of_row _ _ _ _ _ _ gd];simp only [gP];unfold bytesRow;have dM:j<s.data.size:=by
        have:=(dW.1 hj).1;simpa using this
       rw [zdO (by simpa using dM)];simpa using hj
      ·rintro (uY|⟨i,ab,hi,he,uY⟩|⟨i,ab,hi,uY⟩)
       ·have:=hc.low _ (hc.sub _ _ uY);have:=hs.size;simp at *;omega
       ·have:=hs.lt hi (AB.Ar uY) he;simp at this
       ·have:=hs.blt hi uY;simp at this
   ·exact h2.elim
  case sl n xs =>
   simp only at h2;split at h2
   ·rename_i e Xj RP;obtain ⟨ei,iw,h3⟩:=bI h2;obtain ⟨RO,_⟩:=ht e ei iw;rw [Xj] at yD;rw [RP] at RM
    cases hb:(qy ei.desc&&Nat.beq n 1) with
    | false=>rw [hb] at h3;exact h3.elim
    | true =>
      rw [hb] at h3;simp only [oB] at hb;have hed:ei.desc = .int .u8:=by
       have:=hb.1;revert this;unfold qy;split<;>simp_all
      have hn1:=ie hb.2;subst hn1;rw [hed] at RO;obtain ⟨bs,rfl,hK⟩:=h3;exact ⟨_,w,E,_,L,vu yD RO RM hv,hK,hs,idle,by simp [VR,VD]⟩
   ·exact h2.elim
 case arr j =>
  simp only at h2;obtain ⟨ab,bC,h3⟩:=cq h2
  cases ab<;>simp only at h3<;>first|exact h3.elim|skip
  rename_i e n xs sh;obtain ⟨bP,hle,n_⟩:=hs.close hc bC;split at h3
  ·rename_i e' Xj RP;obtain ⟨ei,iw,h4⟩:=bI h3;obtain ⟨RO,_⟩:=ht e' ei iw;rw [Xj] at yD;rw [RP] at RM
   cases hb:(qy ei.desc&&Nat.beq n 1) with
   | false=>rw [hb] at h4;exact h4.elim
   | true =>
     rw [hb] at h4;simp only [oB] at hb;have hed:ei.desc = .int .u8:=by
      have:=hb.1;revert this;unfold qy;split<;>simp_all
     have hn1:=ie hb.2;subst hn1;rw [hed] at RO;obtain ⟨bs,rfl,hK⟩:=ew h4;exact ⟨_,w,E,_,_,vu yD RO RM (n_ v hv),hK,bP,hle,by simp [VR,VD]⟩
  ·rename_i e' e'' Xj RP;obtain ⟨ei,iw,h4⟩:=bI h3;obtain ⟨RO,_⟩:=ht e' ei iw;rw [Xj] at yD
   cases hb:(qy ei.desc&&Nat.beq src dst) with
   | false=>rw [hb] at h4;exact h4.elim
   | true =>
     rw [hb] at h4;simp only [oB] at hb;have hed:ei.desc = .int .u8:=by
      have:=hb.1;revert this;unfold qy;split<;>simp_all
     have esd:=ie hb.2;subst esd;rw [hed] at RO;obtain ⟨ef,hK⟩:=ew h4
     -- DE ahn mark
     have KJ:=n_ v hv;have fy:=(hs.fQ j _ bC).2.2;simp only [VR] at hv;obtain ⟨bQ,eY,hrel⟩:=hv;rw [bC] at eY;cases eY
     simp only [bj] at hrel
     cases hE:E j with
     | none=>rw [hE] at fy;exact absurd fy ef
     | some b =>
       rw [hE] at hrel;obtain ⟨cap,cur,rfl,hh,da⟩:=hrel;have bB:b<w.heap.size:=(ud.1 hh).1;have rl:w.heap[b] = .cells cur e (0,0):=(ud.1 hh).2;have AK:w.shape? b=some (e,cur.size):=by unfold World.shape?;rw [hh]
       have hfz:(w.freeze ⟨b,cur.size,none⟩ 1).heap[b]? = some (.cells cur e (cur.size,cur.size+1)):=by
        unfold World.freeze;rw [aR dC];simp [bB,Array.getElem_modify,rl]
       have eZ:∀ k,k≠b->(w.freeze ⟨b,cur.size,none⟩ 1).heap[k]? = w.heap[k]? := by
        intro k hk;unfold World.freeze;rw [aR dC];simp [zeR,Ne.symm hk]
       have kE:mH (E j) w (w.freeze ⟨b,cur.size,none⟩ 1):=by
        rw [hE];refine ⟨?_,?_,?_,?_,λk hk=>eZ k (λe=>hk (by rw [e])),?_⟩
        rotate_right
        ·intro x c1 e1 m1 h1 h2;by_cases hx:x=b
         ·subst hx;rw [hh] at h1;cases h1
          exact ⟨cur,_,hfz,rfl,λo h3 h4=>by have:=h4.1;simp only at this;omega⟩
         ·exact ⟨c1,m1,by rw [eZ x hx];exact h1,rfl,h2⟩
        all_goals (unfold World.freeze;rw [aR dC];try simp)
       have ae3:(L.set j (.row e n xs true))[j]? = some (.row e n xs true):=aD bC;have jG:(aj c.M0 E (L.set j (.row e n xs true)) w).le (aj c.M0 E ((L.set j (.row e n xs true)).set j .dead) (w.freeze ⟨b,cur.size,none⟩ 1)) :=
        rm bP ae3 rfl kE (λo hm=>absurd hm (by simp [AB.mut])) (λb' o u kg _ kc=>by
         rw [hE] at kg;cases kg
         rw [cell_of_row _ _ _ _ _ _ hfz];rw [cell_of_row _ _ _ _ _ _ hh] at kc;exact kc) rfl (λv hv=>kY hv) (λ_ _ _ hv=>iH hv) (λ_ hb=>hb)
       have e_:=bP.Ht ae3 rfl kE jG rfl trivial rfl;have hLL:(L.set j (.row e n xs true)).set j AB.dead=L.set j .dead:=by simp
       rw [hLL] at jG e_;refine ⟨_,_,E,_,_,?_,hK,e_,(hle.trans jG),VR.mono jG _ _ KJ⟩;simp [convert,run_underlying yD,run_underlying RO,markStringish,AK]
  ·exact h3.elim
end
noncomputable section
open Go.RowKit
def abt (n:Nat):Nat :=
 match n with
 | 0=>0|1=>1|2=>2|3=>3|4=>4|5=>5|6=>6|7=>7|8=>8|9=>9|10=>10|11=>11|12=>12|13=>13|14=>14|15=>15|16=>16|17=>17|18=>18|19=>19|20=>20
 | n=>n
theorem Xk (n:Nat):abt n=n:=by unfold abt;split<;>rfl
mutual
def pS (lC:Nat->Option Nat):AV->Option AV
 | .d x=>some (.d x)
 | .arr i=>match lC i with|some j=>some (.arr j)|none=>none
 | .ptr i o=>match lC i with|some j=>some (.ptr j o)|none=>none
 | .ap i k o=>match lC i with|some j=>some (.ap j k o)|none=>none
 | .im cs o=>some (.im cs o)
 | .map i=>match lC i with|some j=>some (.map j)|none=>none
 | .mp i b o=>match lC i with|some j=>some (.mp j b o)|none=>some (.mp 0 b o)
 | .agg cs=>match qz lC cs with|some l=>some (.agg l)|none=>none
 | .tup cs=>match qz lC cs with|some l=>some (.tup l)|none=>none
 | .fn f cs=>match qz lC cs with|some l=>some (.fn f l)|none=>none
 | .sub i n=>match lC i with|some j=>some (.sub j n)|none=>none
 | .isl i x=>match lC i with|some j=>some (.isl j x)|none=>none
def qz (lC:Nat->Option Nat):List AV->Option (List AV)
 | []=>some []
 | x :: r=>match pS lC x with
   | some y=>match qz lC r with
     | some l=>some (y :: l)
     | none=>none
   | none=>none
end
structure yE (R R':RC) (lC:Nat->Option Nat):Prop where
 rd:∀ a u,R.rd a u->R'.rd a u
 pt:∀ i j,lC i=some j->∀ b,R.pt i b->R'.pt j b
 ar:∀ i j,lC i=some j->∀ v,R.ar i v->R'.ar j v
 ap:∀ i j,lC i=some j->∀ k o v,R.ap i k o v->R'.ap j k o v
 is:∀ i j,lC i=some j->∀ x v,R.is i x v->R'.is j x v
mutual
theorem jJ {R R':RC} {lC:Nat->Option Nat} (h:yE R R' lC):∀ (x y:AV),pS lC x=some y->∀ v,VR R x v->VR R' y v
 | .d x,y,k,v,hv=>by simp only [pS,ke] at k;subst k;simp only [VR] at hv ⊢;exact VD.mono h.rd x v hv
 | .arr i,y,k,v,hv=>by
   simp only [pS] at k;split at k
   ·rename_i j hj;cases k;simp only [VR] at hv ⊢;exact h.ar i j hj v hv
   ·cases k
 | .ptr i o,y,k,v,hv=>by
   simp only [pS] at k;split at k
   ·rename_i j hj;cases k;simp only [VR] at hv ⊢;obtain ⟨b,h5,h6⟩:=hv;exact ⟨b,h.pt i j hj b h5,h6⟩
   ·cases k
 | .isl i x,y,k,v,hv=>by
   simp only [pS] at k;split at k
   ·rename_i j hj;cases k;simp only [VR] at hv ⊢;exact ⟨h.is i j hj x v hv.1,hv.2⟩
   ·cases k
 | .sub i n,y,k,v,hv=>by
   simp only [pS] at k;split at k
   ·rename_i j hj;cases k;simp only [VR] at hv ⊢;obtain ⟨p,cap,h5,h6,h7,h8⟩:=hv;exact ⟨p,cap,h5,h6,h7,h.ap i j hj _ _ _ h8⟩
   ·cases k
 | .ap i k' o,y,k,v,hv=>by
   simp only [pS] at k;split at k
   ·rename_i j hj;cases k;simp only [VR] at hv ⊢;exact h.ap i j hj _ _ v hv
   ·cases k
 | .im cs o,y,k,v,hv=>by
   simp only [pS,ke] at k;subst k;simp only [VR] at hv ⊢;obtain ⟨a,h1,h2,h3,h4⟩:=hv;exact ⟨a,h1,h2,h3,pF.mono h.rd cs a h4⟩
 | .map i,y,k,v,hv=>by
   simp only [pS] at k;split at k
   ·rename_i j hj;cases k;simp only [VR] at hv ⊢;obtain ⟨b,h5,h6⟩:=hv;exact ⟨b,h.pt i j hj b h5,h6⟩
   ·cases k
 | .mp i b o,y,k,v,hv=>by
   simp only [pS] at k;split at k
   ·cases k;simpa only [VR] using hv
   ·cases k;simpa only [VR] using hv
 | .agg cs,y,k,v,hv=>by
   simp only [pS] at k;split at k
   ·rename_i l hl;cases k;simp only [VR] at hv ⊢;obtain ⟨us,h3,h4⟩:=hv;exact ⟨us,h3,(oH h cs l hl).1 _ h4⟩
   ·cases k
 | .tup cs,y,k,v,hv=>by
   simp only [pS] at k;split at k
   ·rename_i l hl;cases k;simp only [VR] at hv ⊢;obtain ⟨us,h3,h4⟩:=hv;exact ⟨us,h3,(oH h cs l hl).2 _ h4⟩
   ·cases k
 | .fn f cs,y,k,v,hv=>by
   simp only [pS] at k;split at k
   ·rename_i l hl;cases k;simp only [VR] at hv ⊢;obtain ⟨us,h3,h4⟩:=hv;exact ⟨us,h3,(oH h cs l hl).2 _ h4⟩
   ·cases k
theorem oH {R R':RC} {lC:Nat->Option Nat} (h:yE R R' lC):∀ (xs ys:List AV),qz lC xs=some ys->(∀ us,eK R xs us->eK R' ys us)/\(∀ us,cD R xs us->cD R' ys us)
 | [],ys,k=>by simp only [qz,ke] at k;subst k;exact ⟨λus hv=>by simpa [eK] using hv,λus hv=>by simpa [cD] using hv⟩
 | x :: xs,ys,k=>by
   simp only [qz] at k;split at k
   ·rename_i y hy;split at k
    ·rename_i l hl
     cases k
     have h1:=jJ h x y hy;have h2:=oH h xs l hl;constructor
     ·intro us hv;simp only [eK] at hv ⊢;obtain ⟨u,dt,e1,e2,e3,e4⟩:=hv;exact ⟨u,dt,e1,e2,h1 _ e3,h2.1 _ e4⟩
     ·intro us hv;simp only [cD] at hv ⊢;obtain ⟨u,dt,e1,e3,e4⟩:=hv;exact ⟨u,dt,e1,h1 _ e3,h2.2 _ e4⟩
    ·cases k
   ·cases k
end
def gn (lC:Nat->Option Nat) (ab:AB):Option AB :=
 match ab with
 | .cells cs=>match qz lC cs with|some l=>some (.cells l)|none=>none
 | .row e n xs sh=>some (.row e n xs sh)
 | .map es=>some (.map es)
 | .cK b cs=>some (.cK b cs)
 | .obj o=>some (.obj o)
 | .qJ o n cap=>some (.qJ o n cap)
 | .aN lo n ok=>some (.aN lo n ok)
 | .dead=>some .dead
def Alike (ab bQ:AB):Prop :=
 match ab,bQ with
 | .cells cs,.cells cs'=>cs'.length=cs.length
 | .row e n xs sh,bQ=>bQ = .row e n xs sh
 | .map es,bQ=>bQ = .map es
 | .cK b cs,bQ=>bQ = .cK b cs
 | .obj o,bQ=>bQ = .obj o
 | .qJ o n cap,bQ=>bQ = .qJ o n cap
 | .aN lo n ok,bQ=>bQ = .aN lo n ok
 | .dead,bQ=>bQ = .dead
 | _,_=>False
theorem Alike.gB {ab bQ:AB} (h:Alike ab bQ):bQ.gB=ab.gB:=by
 cases ab<;>cases bQ<;>simp_all [Alike,AB.gB]
theorem Alike.live {ab bQ:AB} (h:Alike ab bQ):bQ.live=ab.live:=by
 cases ab<;>cases bQ<;>simp_all [Alike,AB.live]
theorem Alike.mut {ab bQ:AB} (h:Alike ab bQ) (o:Nat):bQ.mut o↔ab.mut o:=by
 cases ab<;>cases bQ<;>simp_all [Alike,AB.mut]
theorem Alike.boxes {ab bQ:AB} (h:Alike ab bQ):bQ.boxes=ab.boxes:=by
 cases ab<;>cases bQ<;>simp_all [Alike,AB.boxes]
theorem vv {lC:Nat->Option Nat}:∀ {xs ys:List AV},qz lC xs=some ys->ys.length=xs.length
 | [],ys,k=>by simp only [qz,ke] at k;subst k;rfl
 | x :: xs,ys,k=>by
   simp only [qz] at k;split at k
   ·split at k
    ·rename_i l hl
     cases k
     simp [vv hl]
    ·cases k
   ·cases k
theorem Alike.ar {ab bQ:AB} (h:Alike ab bQ) {E E':Nat->Option Nat} {i j:Nat} (he:E' j=E i) {w:World} {v:Value} (k:bj E w i v ab):bj E' w j v bQ:=by
 cases ab with
 | cells cs =>
   cases bQ with
   | cells cs'=>simp only [Alike] at h;simp only [bj] at k ⊢;rw [he,h];exact k
   | _=>exact h.elim
 | map es=>exact k.elim
 | cK b cs=>exact k.elim
 | obj o=>exact k.elim
 | qJ o n cap =>
   simp only [Alike] at h;subst h;simp only [bj] at k ⊢;rw [he];exact k
 | row e n xs sh =>
   simp only [Alike] at h;subst h;simp only [bj] at k ⊢;rw [he];exact k
 | aN lo n ok=>exact k.elim
 | dead=>simp only [Alike] at h;subst h;exact k
theorem Alike.is {ab bQ:AB} (h:Alike ab bQ) {w:World} {x:DV} {v:Value} (k:jD w x v ab):jD w x v bQ:=by
 cases ab with
 | aN lo n ok=>simp only [Alike] at h;subst h;exact k
 | _=>exact k.elim
theorem Alike.ap {ab bQ:AB} (h:Alike ab bQ) {E E':Nat->Option Nat} {i j:Nat} (he:E' j=E i) {k o:Nat} {v:Value} (hk:mF E i k o v ab):mF E' j k o v bQ:=by
 cases ab with
 | cells cs=>exact hk.elim
 | map es=>exact hk.elim
 | cK b cs=>exact hk.elim
 | obj o=>exact hk.elim
 | qJ o n cap=>exact hk.elim
 | row e n xs sh =>
   simp only [Alike] at h;subst h;simp only [mF] at hk ⊢;rw [he];exact hk
 | aN lo n ok=>exact hk.elim
 | dead=>simp only [Alike] at h;subst h;exact hk
theorem aS {lC:Nat->Option Nat} {ab bQ:AB} (k:gn lC ab=some bQ):Alike ab bQ:=by
 cases ab with
 | cells cs =>
   simp only [gn] at k;split at k
   ·rename_i l hl;cases k;exact vv hl
   ·cases k
 | row e n xs sh=>simp only [gn,ke] at k;subst k;rfl
 | map es=>simp only [gn,ke] at k;subst k;rfl
 | cK b cs=>simp only [gn,ke] at k;subst k;rfl
 | obj o=>simp only [gn,ke] at k;subst k;rfl
 | qJ o n cap=>simp only [gn,ke] at k;subst k;rfl
 | aN lo n ok=>simp only [gn,ke] at k;subst k;rfl
 | dead=>simp only [gn,ke] at k;subst k;rfl
theorem HQ {R R':RC} {lC:Nat->Option Nat} (h:yE R R' lC) {ab bQ:AB} (k:gn lC ab=some bQ) {w:World} {eb:Option Nat} (hb:BR R w eb ab):BR R' w eb bQ:=by
 cases ab with
 | cells cs =>
   simp only [gn] at k;split at k
   ·rename_i l hl
    cases k
    obtain ⟨b,cur,e,e1,e2,e3⟩:=hb;exact ⟨b,cur,e,e1,e2,(oH h cs l hl).1 _ e3⟩
   ·cases k
 | row e n xs sh =>
   simp only [gn,ke] at k;subst k;obtain ⟨e1,e2,e3⟩:=hb;refine ⟨e1,e2,?_⟩
   cases eb with
   | none=>exact e3
   | some b =>
     obtain ⟨cap,cur,e4,e5,e6,e7,e8⟩:=e3;exact ⟨cap,cur,e4,e5,e6,e7,cR.mono h.rd e8⟩
 | map es =>
   simp only [gn,ke] at k;subst k;obtain ⟨b,eR,clock,e1,e2,e3,e4,e5⟩:=hb;exact ⟨b,eR,clock,e1,e2,kf.mono h.rd (λ_ _=>rfl) e3,e4,e5⟩
 | cK b cs =>
   simp only [gn,ke] at k;subst k;exact rj.mono h.rd rfl hb
 | obj o =>
   simp only [gn,ke] at k;subst k;exact hb
 | qJ o n cap =>
   simp only [gn,ke] at k;subst k;exact hb
 | aN lo n ok =>
   simp only [gn,ke] at k;subst k;exact hb
 | dead=>simp only [gn,ke] at k;subst k;trivial
def gO:List Nat->Nat->Nat->Option Nat
 | [],_,_=>none
 | i :: r,n,k=>bif Nat.beq i n then some (abt k) else gO r n (k+1)
theorem zS:∀ {ix:List Nat} {n k m:Nat},gO ix n k=some m->∃ j,ix[j]? = some n/\m=k+j
 | [],_,_,_,h=>by cases h
 | i :: r,n,k,m,h=>by
   simp only [gO] at h
   cases hb:Nat.beq i n with
   | true=>rw [hb] at h;simp only [jB,ke] at h;exact ⟨0,by simp [ie hb],by rw [<-h,Xk];rfl⟩
   | false =>
     rw [hb] at h;obtain ⟨j,h1,h2⟩:=zS (ix:=r) (k:=k+1) h;exact ⟨j+1,by simpa using h1,oM⟩
def tl (lC:Nat->Option Nat) (L:List AB):List Nat->Option (List AB)
 | []=>some []
 | i :: r=>match L[i]? with
   | some ab=>match gn lC ab with
     | some bQ=>match tl lC L r with
       | some l=>some (bQ :: l)
       | none=>none
     | none=>none
   | none=>none
theorem vw {lC:Nat->Option Nat} {L:List AB}:∀ {ix:List Nat} {l:List AB},tl lC L ix=some l->l.length=ix.length/\∀ (j i:Nat),ix[j]? = some i->∃ ab bQ,L[i]? = some ab/\l[j]? = some bQ/\gn lC ab=some bQ
 | [],l,h=>by simp only [tl,ke] at h;subst h;exact ⟨rfl,by simp⟩
 | i :: r,l,h=>by
   simp only [tl] at h;split at h
   ·rename_i ab bC;split at h
    ·rename_i bQ eY;split at h
     ·rename_i l' Hb
      cases h
      obtain ⟨h1,h2⟩:=vw Hb;refine ⟨by simp [h1],λj i' hj=>?_⟩
      cases j with
      | zero=>simp at hj;subst hj;exact ⟨ab,bQ,bC,by simp,eY⟩
      | succ j=>simp only [ue] at hj ⊢;exact h2 j i' hj
     ·cases h
    ·cases h
   ·cases h
noncomputable def iy (n:Nat) (l:List Nat):Bool:=List.rec (motive:=λ_=>Bool) false (λi _ ih=>bif Nat.beq i n then true else ih) l
theorem AL (n:Nat):iy n []=false:=rfl
theorem xy (n i:Nat) (r:List Nat):iy n (i :: r)=(Nat.beq i n||iy n r):=by show (bif Nat.beq i n then true else iy n r)=_;cases Nat.beq i n<;>rfl
def mM:List Nat->Bool
 | []=>true
 | i :: r => !(iy i r)&&mM r
theorem lZ {n:Nat}:∀ {l:List Nat},iy n l=false->n∉l
 | [],_=>by simp
 | i :: r,h=>by
   simp only [AL,xy,ze1] at h;intro hm;rcases jy.1 hm with rfl|hm
   ·have h1:=h.1;rw [Sc] at h1;cases h1
   ·exact lZ h.2 hm
theorem kr:∀ {l:List Nat},mM l=true->l.Nodup
 | [],_=>by simp
 | i :: r,h=>by
   simp only [mM,oB,G6] at h;exact Pw.2 ⟨lZ h.1,kr h.2⟩
theorem xz {l:List Nat} (h:l.Nodup) {i j n:Nat} (hi:l[i]? = some n) (hj:l[j]? = some n):i=j:=by
 have h1:=(dW.1 hi);have h2:=(dW.1 hj);obtain ⟨h1l,h1e⟩:=h1;obtain ⟨h2l,h2e⟩:=h2;have hp:=CL.1 h;rcases Nat.lt_trichotomy i j with h3|h3|h3
 ·exact absurd (h1e.trans h2e.symm) (hp i j h1l h2l h3)
 ·exact h3
 ·exact absurd (h2e.trans h1e.symm) (hp j i h2l h1l h3)
def oI (E:Nat->Option Nat) (ix:List Nat):Nat->Option Nat:=λj=>match ix[j]? with|some i=>E i|none=>none
theorem xA {M0 PH:MZ} {E:Nat->Option Nat} {L l:List AB} {w:World} {ix:List Nat} (hl:tl (gO ix · 0) L ix=some l)
  (hM:∀ b o,PH b o->G_ M0 E L b o) (hS:PH.s=M0.s):yE (aj M0 E L w) (aj PH (oI E ix) l w) (gO ix · 0):=by
 obtain ⟨hlen,eO⟩:=vw hl;have pos:∀ i j,gO ix i 0=some j->ix[j]? = some i:=by
  intro i j h;obtain ⟨m,h1,h2⟩:=zS h;rw [gP] at h2;rw [h2];exact h1
 have hE:∀ i j,gO ix i 0=some j->oI E ix j=E i:=by
  intro i j h;simp only [oI,pos i j h]
 refine ⟨?_,?_,?_,?_,?_⟩
 rotate_right
 ·intro i j ru x v ⟨ab,h1,h2⟩;obtain ⟨iS,bQ,h4,h5,h6⟩:=eO j i (pos i j ru);rw [h1] at h4;cases h4
  exact ⟨bQ,h5,(aS h6).is h2⟩
 ·refine ug hS (.refl _) ?_;rintro a u h1 h2;refine ⟨h1,?_⟩;rintro (hm|⟨j,bQ,hj,he,hm⟩|⟨j,bQ,hj,hm⟩)
  ·exact h2 (hM _ _ hm)
  rotate_left
  ·have dM:j<ix.length:=by rw [<-hlen];exact (dW.1 hj).1
   obtain ⟨ab,fp,h3,h4,h5⟩:=eO j ix[j] (ff dM);rw [hj] at h4;cases h4
   exact h2 (.inr (.inr ⟨_,ab,h3,by rw [<-(aS h5).boxes];exact hm⟩))
  ·have dM:j<ix.length:=by rw [<-hlen];exact (dW.1 hj).1
   obtain ⟨ab,fp,h3,h4,h5⟩:=eO j ix[j] (ff dM);rw [hj] at h4;cases h4
   have W0:E ix[j]=some a.block:=by
    simp only [oI,ff dM] at he;exact he
   exact h2 (.inr (.inl ⟨_,ab,h3,W0,((aS h5).mut _).1 hm⟩))
 ·intro i j ru b ⟨ab,h1,h2,h3⟩;obtain ⟨iS,bQ,h4,h5,h6⟩:=eO j i (pos i j ru);rw [h1] at h4;cases h4
  exact ⟨bQ,h5,by rw [(aS h6).gB];exact h2,by rw [hE i j ru];exact h3⟩
 ·intro i j ru v ⟨ab,h1,h2⟩;obtain ⟨iS,bQ,h4,h5,h6⟩:=eO j i (pos i j ru);rw [h1] at h4;cases h4
  exact ⟨bQ,h5,(aS h6).ar (hE i j ru) h2⟩
 ·intro i j ru k o v ⟨ab,h1,h2⟩;obtain ⟨iS,bQ,h4,h5,h6⟩:=eO j i (pos i j ru);rw [h1] at h4;cases h4
  exact ⟨bQ,h5,(aS h6).ap (hE i j ru) h2⟩
theorem AM {c:Ctx} {PH:MZ} {E:Nat->Option Nat} {L l:List AB} {w:World} (hs:aI c E L w) {ix:List Nat} (fh:ix.Nodup) (hl:tl (gO ix · 0) L ix=some l)
  (hM:∀ b o,PH b o->G_ c.M0 E L b o) (hS:PH.s=c.M0.s) :
  (∀ j ab,l[j]? = some ab->BR (aj PH (oI E ix) l w) w (oI E ix j) ab) /\
  (∀ j ab b,l[j]? = some ab->ab.live=true->oI E ix j=some b->∃ i cU,ix[j]? = some i/\L[i]? = some cU/\cU.live=true/\E i=some b) /\
  (∀ j1 j2 iS fp b,l[j1]? = some iS->l[j2]? = some fp->iS.live=true->fp.live=true->oI E ix j1=some b->oI E ix j2=some b->j1=j2) /\
  (∀ (P1:Nat->Prop),(∀ b,P1 b->∀ (j:Nat) (ab:AB),l[j]? = some ab->b∉ab.boxes)->Sf P1 (oI E ix) l):=by
 have ja:=xA (w:=w) hl hM hS;obtain ⟨hlen,eO⟩:=vw hl;have DH:∀ j ab,l[j]? = some ab->∃ i cU,ix[j]? = some i/\L[i]? = some cU/\gn (gO ix · 0) cU=some ab/\oI E ix j=E i:=by
  intro j ab hj;have dM:j<ix.length:=by rw [<-hlen];exact (dW.1 hj).1
  obtain ⟨cU,fp,h3,h4,h5⟩:=eO j ix[j] (ff dM);rw [hj] at h4;cases h4
  exact ⟨ix[j],cU,ff dM,h3,h5,by simp only [oI,ff dM]⟩
 have h2:∀ j ab b,l[j]? = some ab->ab.live=true->oI E ix j=some b->∃ i cU,ix[j]? = some i/\L[i]? = some cU/\cU.live=true/\E i=some b:=by
  intro j ab b hj hlv he;obtain ⟨i,cU,k1,k2,k3,k4⟩:=DH j ab hj;exact ⟨i,cU,k1,k2,by rw [<-(aS k3).live];exact hlv,by rw [<-k4];exact he⟩
 refine ⟨?_,h2,?_,?_⟩
 rotate_right
 ·intro P1 hP1;refine ⟨λj ab b hj hb hp=>hP1 b hp j ab hj hb,?_,?_,?_⟩
  ·intro j1 j2 iS fp b pK hb lA kj pz;obtain ⟨i1,a1,k1,k2,k3,k4⟩:=DH j1 iS pK;obtain ⟨i2,a2,m1,m2,m3,m4⟩:=h2 j2 fp b lA kj pz;exact hs.bx.own i1 i2 a1 a2 b k2 (by rw [<-(aS k3).boxes];exact hb) m2 m3 m4
  ·intro j ab hj;obtain ⟨i1,a1,k1,k2,k3,k4⟩:=DH j ab hj;rw [(aS k3).boxes];exact hs.bx.nd i1 a1 k2
  ·intro j1 j2 iS fp b pK lA eS iR;obtain ⟨i1,a1,k1,k2,k3,k4⟩:=DH j1 iS pK;obtain ⟨i2,a2,m1,m2,m3,m4⟩:=DH j2 fp lA;have:=hs.bx.dj i1 i2 a1 a2 b k2 m2 (by rw [<-(aS k3).boxes];exact eS) (by rw [<-(aS m3).boxes];exact iR);subst this;exact xz fh k1 m1
 ·intro j ab hj;obtain ⟨i,cU,k1,k2,k3,k4⟩:=DH j ab hj;rw [k4];exact HQ ja k3 (hs.fQ i cU k2)
 ·intro j1 j2 iS fp b pK lA l1 l2 e1 e2;obtain ⟨i1,a1,k1,k2,k3,k4⟩:=h2 j1 iS b pK l1 e1;obtain ⟨i2,a2,m1,m2,m3,m4⟩:=h2 j2 fp b lA l2 e2;have:=hs.inj i1 i2 a1 a2 b k2 m2 k3 m3 k4 m4;subst this;exact xz fh k1 m1
end
noncomputable section
open Go.RowKit
def ay (P:Program) (f:FuncId) (cS:List AV) (cg:List AB) (post:AV->List AB->Prop):Prop :=
 ∀ (c:Ctx) (vs:Array Value),c.wf->c.L0=cg->aI c c.E0 cg c.w0->cD (aj c.M0 c.E0 cg c.w0) cS vs.toList ->
   Calls P f vs c.w0 λe w'=>∃ v av L' E',e = .returned v/\post av L'/\aI c E' L' w'/\VR (aj c.M0 E' L' w') av v
theorem ay.mono {P:Program} {f:FuncId} {cS:List AV} {cg:List AB} {post nF:AV->List AB->Prop} (h:ay P f cS cg post) (hp:∀ av L,post av L->nF av L):ay P f cS cg nF :=
 λc vs h1 h2 h3 h4=>(h c vs h1 h2 h3 h4).mono λ_ _ ⟨v,av,L',E',e1,e2,e3,e4⟩=>⟨v,av,L',E',e1,hp _ _ e2,e3,e4⟩
def pT (n:Nat) (K:Nat->Prop):Prop :=
 match n with
 | 0=>K 0|1=>K 1|2=>K 2|3=>K 3|4=>K 4|5=>K 5|6=>K 6|7=>K 7|8=>K 8|9=>K 9|10=>K 10|11=>K 11|12=>K 12|13=>K 13|14=>K 14|15=>K 15|16=>K 16
 | 17=>K 17|18=>K 18|19=>K 19|20=>K 20|21=>K 21|22=>K 22|23=>K 23|24=>K 24
 | n=>K n
theorem l_ {n:Nat} {K:Nat->Prop} (h:pT n K):K n:=by unfold pT at h;split at h<;>exact h
noncomputable def fA (x:AV):(AV->Prop)->Prop :=
 AV.rec (motive_1:=λ_=>(AV->Prop)->Prop) (motive_2:=λ_=>(List AV->Prop)->Prop) (λx K=>K (.d x)) (λi K=>pT i λi=>K (.arr i)) (λi o K=>pT i λi=>K (.ptr i o)) (λi k o K=>pT i λi=>K (.ap i k o)) (λcs o K=>K (.im cs o)) (λi K=>pT i λi=>K (.map i)) (λi b o K=>pT i λi=>K (.mp i b o))
  (λ_ ih K=>ih λl=>K (.agg l)) (λ_ ih K=>ih λl=>K (.tup l)) (λf _ ih K=>ih λl=>K (.fn f l)) (λi n K=>pT i λi=>K (.sub i n)) (λi x K=>pT i λi=>K (.isl i x)) (λK=>K []) (λ_ _ PI ihr K=>PI λy=>ihr λl=>K (y :: l)) x
noncomputable def fAs (xs:List AV):(List AV->Prop)->Prop :=
 AV.rec_1 (motive_1:=λ_=>(AV->Prop)->Prop) (motive_2:=λ_=>(List AV->Prop)->Prop) (λx K=>K (.d x)) (λi K=>pT i λi=>K (.arr i)) (λi o K=>pT i λi=>K (.ptr i o)) (λi k o K=>pT i λi=>K (.ap i k o)) (λcs o K=>K (.im cs o)) (λi K=>pT i λi=>K (.map i)) (λi b o K=>pT i λi=>K (.mp i b o))
  (λ_ ih K=>ih λl=>K (.agg l)) (λ_ ih K=>ih λl=>K (.tup l)) (λf _ ih K=>ih λl=>K (.fn f l)) (λi n K=>pT i λi=>K (.sub i n)) (λi x K=>pT i λi=>K (.isl i x)) (λK=>K []) (λ_ _ PI ihr K=>PI λy=>ihr λl=>K (y :: l)) xs
mutual
theorem NH:∀ (x:AV) (K:AV->Prop),fA x K->K x
 | .d x,K,h=>h
 | .arr i,K,h=>l_ (K:=λi=>K (.arr i)) h
 | .ptr i o,K,h=>l_ (K:=λi=>K (.ptr i o)) h
 | .ap i k o,K,h=>l_ (K:=λi=>K (.ap i k o)) h
 | .im cs o,K,h=>h
 | .map i,K,h=>l_ (K:=λi=>K (.map i)) h
 | .mp i b o,K,h=>l_ (K:=λi=>K (.mp i b o)) h
 | .agg cs,K,h=>xC cs (λl=>K (.agg l)) h
 | .tup cs,K,h=>xC cs (λl=>K (.tup l)) h
 | .fn f cs,K,h=>xC cs (λl=>K (.fn f l)) h
 | .sub i n,K,h=>l_ (K:=λi=>K (.sub i n)) h
 | .isl i x,K,h=>l_ (K:=λi=>K (.isl i x)) h
theorem xC:∀ (xs:List AV) (K:List AV->Prop),fAs xs K->K xs
 | [],K,h=>h
 | x :: r,K,h=>xC r (λl=>K (x :: l)) (NH x (λy=>fAs r λl=>K (y :: l)) h)
end
def fB (ab:AB) (K:AB->Prop):Prop :=
 match ab with
 | .cells cs=>fAs cs λl=>K (.cells l)
 | .row e n xs sh=>K (.row e n xs sh)
 | .map es=>K (.map es)
 | .cK b cs=>K (.cK b cs)
 | .obj o=>K (.obj o)
 | .qJ o n cap=>K (.qJ o n cap)
 | .aN lo n ok=>K (.aN lo n ok)
 | .dead=>K .dead
theorem ae4 {ab:AB} {K:AB->Prop} (h:fB ab K):K ab:=by
 cases ab with
 | cells cs=>exact xC cs _ h
 | row e n xs sh=>exact h
 | map es=>exact h
 | cK b cs=>exact h
 | obj o=>exact h
 | qJ o n cap=>exact h
 | aN lo n ok=>exact h
 | dead=>exact h
noncomputable def fL (xs:List AB):(List AB->Prop)->Prop :=
 List.rec (motive:=λ_=>(List AB->Prop)->Prop) (λK=>K []) (λx _ ih K=>fB x λy=>ih λl=>K (y :: l)) xs
theorem HR:∀ {xs:List AB} {K:List AB->Prop},fL xs K->K xs
 | [],_,h=>h
 | x :: r,K,h=>HR (xs:=r) (K:=λl=>K (x :: l)) (ae4 (show fB x λy=>fL r λl=>K (y :: l) from h))
def tm (i:Nat) (acc:List Nat) (K:List Nat->Prop):Prop:=bif iy i acc then K acc else K (acc++[i])
noncomputable def abw (x:AV):List Nat->(List Nat->Prop)->Prop :=
 AV.rec (motive_1:=λ_=>List Nat->(List Nat->Prop)->Prop) (motive_2:=λ_=>List Nat->(List Nat->Prop)->Prop) (λ_ acc K=>K acc) (λi acc K=>tm i acc K) (λi _ acc K=>tm i acc K) (λi _ _ acc K=>tm i acc K) (λ_ _ acc K=>K acc) (λi acc K=>tm i acc K) (λi _ _ acc K=>tm i acc K)
  (λ_ ih acc K=>ih acc K) (λ_ ih acc K=>ih acc K) (λ_ _ ih acc K=>ih acc K) (λi _ acc K=>tm i acc K) (λi _ acc K=>tm i acc K) (λacc K=>K acc) (λ_ _ PI ihr acc K=>PI acc λacc=>ihr acc K) x
noncomputable def HS (xs:List AV):List Nat->(List Nat->Prop)->Prop :=
 AV.rec_1 (motive_1:=λ_=>List Nat->(List Nat->Prop)->Prop) (motive_2:=λ_=>List Nat->(List Nat->Prop)->Prop) (λ_ acc K=>K acc) (λi acc K=>tm i acc K) (λi _ acc K=>tm i acc K) (λi _ _ acc K=>tm i acc K) (λ_ _ acc K=>K acc) (λi acc K=>tm i acc K) (λi _ _ acc K=>tm i acc K)
  (λ_ ih acc K=>ih acc K) (λ_ ih acc K=>ih acc K) (λ_ _ ih acc K=>ih acc K) (λi _ acc K=>tm i acc K) (λi _ acc K=>tm i acc K) (λacc K=>K acc) (λ_ _ PI ihr acc K=>PI acc λacc=>ihr acc K) xs
noncomputable def fN (xs:List Nat):(List Nat->Prop)->Prop :=
 List.rec (motive:=λ_=>(List Nat->Prop)->Prop) (λK=>K []) (λx _ ih K=>pT x λy=>ih λl=>K (y :: l)) xs
theorem NI:∀ {xs:List Nat} {K:List Nat->Prop},fN xs K->K xs
 | [],_,h=>h
 | x :: r,K,h=>NI (xs:=r) (K:=λl=>K (x :: l)) (l_ (show pT x λy=>fN r λl=>K (y :: l) from h))
noncomputable def xD (fuel:Nat):List Nat->Nat->List AB->(List Nat->Prop)->Prop :=
 Nat.rec (motive:=λ_=>List Nat->Nat->List AB->(List Nat->Prop)->Prop) (λ_ _ _ _=>False) (λ_ ih ix k L K=>match ix[k]? with
  | none=>fN ix K
  | some i=>fC L i λab=>match ab with
    | .cells cs=>HS cs ix λix'=>ih ix' (k+1) L K
    | _=>ih ix (k+1) L K) fuel
theorem pU {i:Nat} {acc:List Nat} {K:List Nat->Prop} (h:tm i acc K):∃ l,K l:=by unfold tm at h;cases hb:iy i acc<;>rw [hb] at h<;>exact ⟨_,h⟩
mutual
theorem FB:∀ (x:AV) (acc:List Nat) (K:List Nat->Prop),abw x acc K->∃ l,K l
 | .d _,acc,K,h=>⟨_,h⟩
 | .arr i,acc,K,h=>pU h
 | .ptr i _,acc,K,h=>pU h
 | .ap i _ _,acc,K,h=>pU h
 | .im _ _,acc,K,h=>⟨_,h⟩
 | .map i,acc,K,h=>pU h
 | .mp i _ _,acc,K,h=>pU h
 | .agg cs,acc,K,h=>oJ cs acc K h
 | .tup cs,acc,K,h=>oJ cs acc K h
 | .fn _ cs,acc,K,h=>oJ cs acc K h
 | .sub i _,acc,K,h=>pU h
 | .isl i _,acc,K,h=>pU h
theorem oJ:∀ (xs:List AV) (acc:List Nat) (K:List Nat->Prop),HS xs acc K->∃ l,K l
 | [],acc,K,h=>⟨_,h⟩
 | x :: r,acc,K,h=>by
   obtain ⟨l,h1⟩:=FB x acc (λacc=>HS r acc K) h;exact oJ r l K h1
end
theorem oK:∀ {fuel:Nat} {ix:List Nat} {k:Nat} {L:List AB} {K:List Nat->Prop},xD fuel ix k L K->∃ l,K l
 | 0,_,_,_,_,h=>h.elim
 | fuel+1,ix,k,L,K,h=>by
   replace h:(match ix[k]? with
    | none=>fN ix K
    | some i=>fC L i λab=>match ab with
      | .cells cs=>HS cs ix λix'=>xD fuel ix' (k+1) L K
      | _=>xD fuel ix (k+1) L K):=h
   split at h
   ·exact ⟨_,NI h⟩
   ·obtain ⟨ab,_,h1⟩:=cq h
    cases ab with
    | cells cs =>
      obtain ⟨l,h2⟩:=oJ cs _ _ h1;exact oK h2
    | _=>exact oK h1
def SQ (x:AV) (L:List AB) (K:AV->List AB->Prop):Prop :=
 match x with
 | .arr j=>K8 (.arr j) L λd L'=>K (.d d) L'
 | x=>K x L
noncomputable def AN (xs:List AV):List AB->(List AV->List AB->Prop)->Prop :=
 List.rec (motive:=λ_=>List AB->(List AV->List AB->Prop)->Prop) (λL K=>K [] L) (λx _ ih L K=>SQ x L λy L1=>ih L1 λl L2=>K (y :: l) L2) xs
theorem FC {c:Ctx} (hc:c.wf) {E:Nat->Option Nat} {L:List AB} {w:World} (hs:aI c E L w) {x:AV} {K:AV->List AB->Prop} (h:SQ x L K) {v:Value} (hv:VR (aj c.M0 E L w) x v) :
  ∃ y L',K y L'/\aI c E L' w/\(aj c.M0 E L w).le (aj c.M0 E L' w)/\VR (aj c.M0 E L' w) y v:=by
 cases x<;>first|exact ⟨_,L,h,hs,.refl _,hv⟩|skip
 case arr j =>
  have h':K8 (.arr j) L (λd L'=>K (.d d) L'):=h;obtain ⟨d,L',h1,_,h2,h3,h4⟩:=zN hc hs h' hv;exact ⟨_,L',h1,h2,h3,by simp only [VR];exact h4⟩
theorem vx {c:Ctx} (hc:c.wf) {E:Nat->Option Nat} {w:World}:∀ {xs:List AV} {L:List AB} {K:List AV->List AB->Prop} {us:List Value},aI c E L w->AN xs L K->cD (aj c.M0 E L w) xs us ->
  ∃ ys L',K ys L'/\aI c E L' w/\(aj c.M0 E L w).le (aj c.M0 E L' w)/\cD (aj c.M0 E L' w) ys us
 | [],L,K,us,hs,h,hv=>⟨[],L,h,hs,.refl _,by simpa [cD] using hv⟩
 | x :: xs,L,K,us,hs,h,hv=>by
   simp only [cD] at hv;obtain ⟨u,dt,rfl,h1,h2⟩:=hv;obtain ⟨y,L1,k1,k2,k3,k4⟩:=FC hc hs (show SQ x L λy L1=>AN xs L1 λl L2=>K (y :: l) L2 from h) h1;obtain ⟨ys,L2,m1,m2,m3,m4⟩:=vx hc (xs:=xs) k2 k1 (cD.mono k3 _ _ h2);exact ⟨y :: ys,L2,m1,m2,k3.trans m3,by simp only [cD];exact ⟨u,dt,rfl,VR.mono m3 _ _ k4,m4⟩⟩
def RQ (ix:List Nat) (base j:Nat):Option Nat :=
 match ix[j]? with
 | some i=>some i
 | none=>some (base+(j - ix.length))
def SR (lC:Nat->Option Nat):List AB->Option (List AB)
 | []=>some []
 | ab :: r=>match gn lC ab with
   | some bQ=>match SR lC r with
     | some l=>some (bQ :: l)
     | none=>none
   | none=>none
def xE:List Nat->List AB->List AB->List AB
 | i :: ix,ab :: r,L=>xE ix r (L.set i ab)
 | _,_,L=>L
def SS (ix:List Nat) (Lo L:List AB):Option (List AB):=bif Nat.ble ix.length Lo.length then some (xE ix Lo L++Lo.drop ix.length) else none
theorem NJ {lC:Nat->Option Nat}:∀ {l l':List AB},SR lC l=some l'->l'.length=l.length/\∀ (j:Nat) (bQ:AB),l'[j]? = some bQ->∃ ab,l[j]? = some ab/\gn lC ab=some bQ
 | [],l',h=>by simp only [SR,ke] at h;subst h;exact ⟨rfl,by simp⟩
 | ab :: r,l',h=>by
   simp only [SR] at h;split at h
   ·rename_i bQ bC;split at h
    ·rename_i l2 kj
     cases h
     obtain ⟨h1,h2⟩:=NJ kj;refine ⟨by simp [h1],λj aid hj=>?_⟩
     cases j with
     | zero=>simp at hj;subst hj;exact ⟨ab,by simp,bC⟩
     | succ j=>simp only [ue] at hj ⊢;exact h2 j aid hj
    ·cases h
   ·cases h
theorem yF:∀ (ix:List Nat) (Lo L:List AB),(xE ix Lo L).length=L.length
 | [],_,L=>by simp [xE]
 | i :: ix,[],L=>by simp [xE]
 | i :: ix,ab :: r,L=>by simp only [xE];rw [yF];simp
theorem pV:∀ (ix:List Nat) (Lo L:List AB) (k:Nat),k∉ix->(xE ix Lo L)[k]? = L[k]?
 | [],_,L,k,_=>by simp [xE]
 | i :: ix,[],L,k,_=>by simp [xE]
 | i :: ix,ab :: r,L,k,h=>by
   simp only [jy,CO] at h;simp only [xE];rw [pV ix r _ k h.2,al h.1]
theorem FD:∀ (ix:List Nat) (Lo L:List AB),ix.Nodup->(∀ i∈ix,i<L.length)->ix.length<=Lo.length->∀ (j i:Nat),ix[j]? = some i->(xE ix Lo L)[i]? = Lo[j]?
 | [],_,L,_,_,_,j,i,h=>by simp at h
 | a :: ix,[],L,_,_,hl,j,i,h=>by simp at hl
 | a :: ix,ab :: r,L,fh,bB,hl,j,i,h=>by
   rw [Pw] at fh;simp only [xE]
   cases j with
   | zero =>
     simp at h;subst h;rw [pV ix r _ a fh.1];have:=bB a (by simp);rw [zeU];simp [this]
   | succ j =>
     simp only [ue] at h ⊢;exact FD ix r _ fh.2 (λi hi=>by simpa using bB i (by simp [hi])) (by simpa using hl) j i h
def ry (P:Program) (f:FuncId) (FE:List AV) (L1:List AB) (K:AV->List AB->Prop):Prop :=
 HS FE [] λix0=>xD 64 ix0 0 L1 λix =>
 bif mM ix then
  match qz (gO ix · 0) FE,tl (gO ix · 0) L1 ix with
  | some PJ,some cg=>fAs PJ λPJ=>fL cg λcg=>ay P f PJ cg λav Le=>pT L1.length λbase =>
     match SR (RQ ix base) Le,pS (RQ ix base) av with
     | some Lo,some ny=>match SS ix Lo L1 with
       | some L2=>fL L2 λL2=>fA ny λny=>K ny L2
       | none=>False
     | _,_=>False
  | _,_=>False
 else False
def NK (P:Program) (f:FuncId) (cS:List AV) (L:List AB) (K:AV->List AB->Prop):Prop:=AN cS L λFE L1=>ry P f FE L1 K
end
end Go.Ab
