/- NodeFormsCard: abstract runs. -/
import Derived.Test.YtgkhgapkfnkagaaGreatDoorNodeFormsCardLayB
import Derived.Laws.BytesString
set_option linter.unusedVariables false
set_option linter.unusedSimpArgs false
namespace Go.Ab
noncomputable section
open Go.RowKit
theorem rc_arr_new {M0:MZ} {E:Nat→Option Nat} {L:List AB} {w:World} {e n b cap:Nat} {xs:List (List DV)} {sh:Bool} {cur:Array Value}
  (hh:w.heap[b]? = some (.cells cur e (0,0))) (hsz:cur.size=cap * n) :
  VR (rcOf M0 (Eupd E L.length (some b)) (L++[.row e n xs sh]) w) (.arr L.length) (.slice (some ⟨b,0,none⟩) xs.length cap):=by
 simp only [VR]
 exact ⟨.row e n xs sh,by simp,by simp only [arRel,Eupd,if_true];exact ⟨cap,cur,rfl,hh,hsz⟩⟩
theorem rc_arr_nil {M0:MZ} {E:Nat→Option Nat} {L:List AB} {w:World} {e n:Nat} {xs:List (List DV)} {sh:Bool} :
  VR (rcOf M0 (Eupd E L.length none) (L++[.row e n xs sh]) w) (.arr L.length) (.slice none 0 0):=by
 simp only [VR]
 exact ⟨.row e n xs sh,by simp,by simp [arRel,Eupd]⟩
theorem SimH.newRow {c:Ctx} (hc:c.wf) {E:Nat→Option Nat} {L:List AB} {w w':World} (hs:SimH c E L w) (k:Keeps w w') {e n cap:Nat} {xs:List (List DV)} {cur:Array Value} (sh:Bool)
  (hn:RN e n) (hlen:∀ cs∈xs,cs.length=n) (hh:w'.heap[w.heap.size]? = some (.cells cur e (0,0))) (hsz:cur.size=cap * n) (hcap:xs.length≤cap) (hm:cap≤maxLen)
  (hv:VDs (rcOf c.M0 E L w).rd xs.flatten (cur.toList.take (xs.length * n))) :
  SimH c (Eupd E L.length (some w.heap.size)) (L++[.row e n xs sh]) w' ∧
  (rcOf c.M0 E L w).le (rcOf c.M0 (Eupd E L.length (some w.heap.size)) (L++[.row e n xs sh]) w'):=by
 have hle:=le_extend (c:=c) (E:=E) (L:=L) k (.row e n xs sh) (some w.heap.size) hs.bl (fun b hb=>by cases hb;exact Nat.le_refl _) (fun b hb=>by simp [AB.boxes] at hb)
 refine ⟨hs.extend hc k _ _ (fun b hb=>by cases hb;exact Nat.le_refl _) (fun b hb=>by simp [AB.boxes] at hb) (by simp [AB.boxes]) (fun b hb=>by simp [AB.boxes] at hb) ?_,hle⟩
 exact ⟨hn,hlen,cap,cur,hh,hsz,hcap,hm,VDs.mono hle.rd hv⟩
theorem SimH.nilRow {c:Ctx} (hc:c.wf) {E:Nat→Option Nat} {L:List AB} {w:World} (hs:SimH c E L w) (e n:Nat) (sh:Bool) (hn:RN e n) :
  SimH c (Eupd E L.length none) (L++[.row e n [] sh]) w∧(rcOf c.M0 E L w).le (rcOf c.M0 (Eupd E L.length none) (L++[.row e n [] sh]) w):=by
 have hle:=le_extend (c:=c) (E:=E) (L:=L) (Keeps.refl w) (.row e n [] sh) none hs.bl (fun b hb=>by cases hb) (fun b hb=>by simp [AB.boxes] at hb)
 exact ⟨hs.extend hc (Keeps.refl w) _ _ (fun b hb=>by cases hb) (fun b hb=>by simp [AB.boxes] at hb) (by simp [AB.boxes]) (fun b hb=>by simp [AB.boxes] at hb) ⟨hn,by simp,rfl⟩,hle⟩
def nilRowK (tt:TypeId→Option TI) (t:TypeId) (L:List AB) (K:AV→List AB→Prop):Prop :=
 ttK tt t fun i=>match sliceElem i.desc with
  | some e=>ttK tt e fun ei=>bif Nat.beq ei.size 0 then False else lpushK L (.row e ei.size [] false) 0 fun j L'=>K (.arr j) L'
  | none=>False
theorem nilRowK_ok {P:Program} {tt:TypeId→Option TI} (ht:TTok P tt) {t:TypeId} {c:Ctx} (hc:c.wf) {E:Nat→Option Nat} {L:List AB} {w:World} (hs:SimH c E L w) {K:AV→List AB→Prop} (h:nilRowK tt t L K) :
  ∃ E' av L',K av L'∧SimH c E' L' w∧(rcOf c.M0 E L w).le (rcOf c.M0 E' L' w)∧VR (rcOf c.M0 E' L' w) av (.slice none 0 0):=by
 obtain ⟨i,hi,h1⟩:=ttK_ok h
 split at h1
 ·rename_i e he
  obtain ⟨ei,hei,h2⟩:=ttK_ok h1
  cases hz:Nat.beq ei.size 0 with
  | true=>rw [hz] at h2;exact h2.elim
  | false =>
    rw [hz] at h2
    simp only [cond_false] at h2
    have h3:=lpushK_ok h2
    rw [Nat.zero_add] at h3
    have hn:0<ei.size:=by
     rcases Nat.eq_zero_or_pos ei.size with h|h
     ·rw [h] at hz;cases hz
     ·exact h
    obtain ⟨hs',hle⟩:=hs.nilRow hc e ei.size false ⟨hn,ht.sz _ _ hei⟩
    exact ⟨_,_,_,h3,hs',hle,rc_arr_nil⟩
 ·exact h1.elim
def eqPlace (size:Nat) (i:Nat) (K:Nat×Nat→Prop):Prop:=K (i * size,size)
noncomputable def chunksK {α:Type} (n:Nat) (k:Nat):List α→(List (List α)→Prop)→Prop :=
 Nat.rec (motive:=fun _=>List α→(List (List α)→Prop)→Prop) (fun _ K=>K []) (fun _ ih l K=>takeK n l fun c=>dropK n l fun r=>ih r fun cs=>K (c :: cs)) k
theorem chunksK_ok {α:Type} {n:Nat}:∀ {k:Nat} {l:List α} {K:List (List α)→Prop},chunksK n k l K→k * n≤l.length∧∃ xs,K xs∧xs.length=k∧(∀ cs∈xs,cs.length=n)∧xs.flatten=l.take (k * n)
 | 0,l,K,h=>⟨by simp,[],h,rfl,by simp,by simp⟩
 | k+1,l,K,h=>by
   obtain ⟨h1,h2⟩:=takeK_ok h
   obtain ⟨h3,h4⟩:=dropK_ok h2
   obtain ⟨h5,xs,h6,h7,h8,h9⟩:=chunksK_ok (k:=k) h4
   have hl:(l.take n).length=n:=by simp;omega
   refine ⟨by rw [Nat.add_mul,Nat.one_mul];simp at h5;omega,l.take n :: xs,h6,by simp [h7],?_,?_⟩
   ·intro cs hcs
    rcases List.mem_cons.1 hcs with rfl|h
    ·exact hl
    ·exact h8 cs h
   ·rw [List.flatten_cons,h9]
    have e:(k+1) * n=n+k * n:=by rw [Nat.add_mul];omega
    rw [e,List.take_add]
noncomputable def toDsK (xs:List AV):List AB→(List DV→List AB→Prop)→Prop :=
 List.rec (motive:=fun _=>List AB→(List DV→List AB→Prop)→Prop) (fun L K=>K [] L) (fun x _ ih L K=>toDK x L fun d L1=>ih L1 fun ds L2=>K (d :: ds) L2) xs
theorem toDsK_ok {c:Ctx} (hc:c.wf) {E:Nat→Option Nat} {w:World}:∀ {xs:List AV} {L:List AB} {K:List DV→List AB→Prop} {us:List Value},SimH c E L w→toDsK xs L K→VRs (rcOf c.M0 E L w) xs us →
  ∃ ds L',K ds L'∧L'.length=L.length∧SimH c E L' w∧(rcOf c.M0 E L w).le (rcOf c.M0 E L' w)∧VDs (rcOf c.M0 E L' w).rd ds us
 | [],L,K,us,hs,h,hv=>⟨[],L,h,rfl,hs,.refl _,by simpa [VRs,VDs,Cs] using hv⟩
 | x :: xs,L,K,us,hs,h,hv=>by
   simp only [VRs] at hv
   obtain ⟨u,us',rfl,h0,h1,h2⟩:=hv
   obtain ⟨d,L1,k1,kl,k2,k3,k4⟩:=toDK_ok hc hs (show toDK x L fun d L1=>toDsK xs L1 fun ds L2=>K (d :: ds) L2 from h) h1
   obtain ⟨ds,L2,m1,ml,m2,m3,m4⟩:=toDsK_ok hc (xs:=xs) k2 k1 (VRs.mono k3 _ _ h2)
   exact ⟨d :: ds,L2,m1,by rw [ml,kl],m2,k3.trans m3,by simp only [VDs,Cs];exact ⟨u,us',rfl,h0,VD.mono m3.rd _ _ k4,m4⟩⟩
def zerosOf (zc:List AV) (n:Nat):List AV:=(List.range n).map fun i=>zc.getD (i % zc.length) (.d .any)
def cellNs (tt:TypeId→Option TI) (fuel:Nat):TypeId→List Nat :=
 Nat.rec (motive:=fun _=>TypeId→List Nat) (fun _=>[]) (fun _ ih t=>match tt t with
  | none=>[]
  | some i=>match i.desc with
    | .slice e=>match tt e with|some ei=>[ei.size]|none=>[0]
    | .struct fs=>List.rec (motive:=fun _=>List Nat) [] (fun f _ acc=>ih f.type++acc) fs.toList
    | _=>List.replicate i.size 0) fuel
def nthNat (l:List Nat):Nat→Nat :=
 List.rec (motive:=fun _=>Nat→Nat) (fun _=>0) (fun o _ ih j=>Nat.rec (motive:=fun _=>Nat) o (fun m _=>ih m) j) l
def nzK (n:Nat) (K:DV→Prop):Prop:=match n with|0=>K .nils|n+1=>K (.sl (n+1) [])
def normNs (ns:List Nat) (size:Nat) (ds:List DV):Nat→(List DV→Prop)→Prop :=
 List.rec (motive:=fun _=>Nat→(List DV→Prop)→Prop) (fun _ K=>K []) (fun d _ ih j K=>match d with
  | .nils=>nzK (nthNat ns (j % size)) fun y=>ih (j+1) fun l=>K (y :: l)
  | .int k n=>ih (j+1) fun l=>K (.int k n :: l)
  | .bool b=>ih (j+1) fun l=>K (.bool b :: l)
  | .str s=>ih (j+1) fun l=>K (.str s :: l)
  | .sl n xs=>ih (j+1) fun l=>K (.sl n xs :: l)
  | d=>ih (j+1) fun l=>K (d :: l)) ds
theorem normNs_ok (ns:List Nat) (size:Nat):∀ {ds:List DV} {j:Nat} {K:List DV→Prop},normNs ns size ds j K→∃ ds',K ds'∧ds'.length=ds.length∧∀ (rd:Addr→Value→Prop) (us:List Value),VDs rd ds us→VDs rd ds' us
 | [],j,K,h=>⟨[],h,rfl,fun _ _ h=>h⟩
 | d :: r,j,K,h=>by
   have key:∀ d',(normNs ns size r (j+1) fun l=>K (d' :: l))→(∀ (rd:Addr→Value→Prop) (u:Value),VD rd d u→VD rd d' u)→∃ ds',K ds'∧ds'.length=(d :: r).length∧∀ (rd:Addr→Value→Prop) (us:List Value),VDs rd (d :: r) us→VDs rd ds' us:=by
    intro d' hd hv
    obtain ⟨ds',h1,h2,h3⟩:=normNs_ok ns size (ds:=r) hd
    refine ⟨d' :: ds',h1,by simp [h2],fun rd us hu => ?_⟩
    simp only [VDs,Cs] at hu ⊢
    obtain ⟨u,us',e,k1,k2,k3⟩:=hu
    exact ⟨u,us',e,k1,hv rd u k2,h3 rd us' k3⟩
   cases d with
   | nils =>
     replace h:nzK (nthNat ns (j % size)) fun y=>normNs ns size r (j+1) fun l=>K (y :: l):=h
     unfold nzK at h
     split at h
     ·exact key _ h fun _ _ h=>h
     ·refine key _ h fun rd u hu => ?_
      simp only [VD] at hu ⊢
      subst hu
      exact ⟨by omega,none,0,rfl,by simp,by simp [maxLen],fun _=>rfl,(fun _ h=>by cases h)⟩
   | _=>exact key _ h fun _ _ h=>h
noncomputable def ptrsB (l:List (Nat×AV)):Bool:=List.rec (motive:=fun _=>Bool) false (fun p _ ih=>match p.2 with | .ptr _ _=>true|_=>ih) l
def buildSliceK (tt:TypeId→Option TI) (t:TypeId) (len:Nat) (parts:List (Nat×AV)) (L:List AB) (K:AV→List AB→Prop):Prop :=
 ttK tt t fun i=>match sliceElem i.desc with
  | some e=>ttK tt e fun ei=>bif !(Nat.beq ei.size 0)&&Nat.ble (len * ei.size) 16777216&&cellsB ei.size (avOf ei.zero) then
     bif ptrsB parts then bif Nat.beq ei.size 1 then fillK (eqPlace ei.size) (zerosOf (cellsOf (avOf ei.zero)) (len * ei.size)) parts fun cs=>lpushK L (.cells cs) 0 fun j L'=>K (.arr j) L' else False else
     fillK (eqPlace ei.size) (zerosOf (cellsOf (avOf ei.zero)) (len * ei.size)) parts fun cs=>toDsK cs L fun ds L1=>normNs (cellNs tt 6 e) ei.size ds 0 fun ds=>chunksK ei.size len ds fun xs=>lpushK L1 (.row e ei.size xs false) 0 fun j L'=>K (.arr j) L'
    else False
  | none=>False
theorem zerosOf_ok {R:RC} {zc:List AV} {z:Array Value} (hv:VRs R zc z.toList) (h0:0<zc.length) (n:Nat):VRs R (zerosOf zc n) (((Array.range n).map (z[· % z.size]!)).toList):=by
 have hl:z.size=zc.length:=by have:=VRs_length hv;simpa using this
 refine VRs_of (by simp [zerosOf]) ?_
 intro i x u hx hu
 simp only [zerosOf,List.getElem?_map] at hx
 simp only [Array.toList_map,List.getElem?_map] at hu
 rcases Nat.lt_or_ge i n with hin|hin
 ·have h1:(List.range n)[i]? = some i:=by rw [List.getElem?_range hin]
  have h2:(Array.range n).toList[i]? = some i:=by simp [hin]
  rw [h1] at hx;rw [h2] at hu
  simp only [Option.map_some,Option.some.injEq] at hx hu
  have hm:i % zc.length<zc.length:=Nat.mod_lt _ h0
  obtain ⟨u',k1,k2,k3⟩:=VRs_get hv (List.getElem?_eq_getElem hm)
  have e1:zc.getD (i % zc.length) (.d .any)=zc[i % zc.length]:=by simp [hm]
  rw [e1] at hx
  have hmz:i % z.size<z.size:=by rw [hl];exact hm
  have e2:z[i % z.size]! = z[i % z.size]:=by simp [hmz]
  rw [e2] at hu
  have e3:u'=u:=by
   rw [← hu]
   have:z.toList[i % zc.length]? = some z[i % z.size]:=by
    rw [← hl];simp [hmz]
   rw [this] at k1;exact (Option.some.inj k1).symm
  subst hx;subst e3
  exact ⟨k2,k3⟩
 ·have h1:(List.range n)[i]? = none:=by simp [hin]
  rw [h1] at hx;cases hx
theorem buildSliceK_ok {P:Program} {tt:TypeId→Option TI} (ht:TTok P tt) {t:TypeId} {c:Ctx} (hc:c.wf) {E:Nat→Option Nat} {L:List AB} {w:World} (hs:SimH c E L w) {len:Nat} {parts:List (Nat×AV)} {vals:Array (Nat×Value)}
  {K:AV→List AB→Prop} (h:buildSliceK tt t len parts L K) (hl:vals.size=parts.length) (hv:∀ (j i:Nat) (x:AV),parts[j]? = some (i,x)→∃ v,vals[j]? = some (i,v)∧VR (rcOf c.M0 E L w) x v) :
  ∃ r w' E' av L',(Instr.buildSlice t len vals).run P w = .ok r w'∧K av L'∧SimH c E' L' w'∧(rcOf c.M0 E L w).le (rcOf c.M0 E' L' w')∧VR (rcOf c.M0 E' L' w') av r:=by
 obtain ⟨i,hi,h1⟩:=ttK_ok h
 split at h1
 ·rename_i e he
  obtain ⟨ei,hei,h2⟩:=ttK_ok h1
  have hd:i.desc = .slice e:=by
   revert he
   cases i.desc<;>simp [sliceElem]
  obtain ⟨hut,_⟩:=ht t i hi
  rw [hd] at hut
  obtain ⟨_,info,k1,k2,k3,k4⟩:=ht e ei hei
  cases hb:(!(Nat.beq ei.size 0)&&Nat.ble (len * ei.size) 16777216&&cellsB ei.size (avOf ei.zero)) with
  | false=>rw [hb] at h2;exact h2.elim
  | true =>
    rw [hb] at h2
    simp only [cond_true] at h2
    simp only [Bool.and_eq_true,Bool.not_eq_true'] at hb
    obtain ⟨⟨hz,hbig⟩,hcb⟩:=hb
    have hn:0<ei.size:=by
     rcases Nat.eq_zero_or_pos ei.size with h|h
     ·rw [h] at hz;cases hz
     ·exact h
    have hbig':len * ei.size≤16777216:=Nat.le_of_ble_eq_true hbig
    obtain ⟨hzl,hzne⟩:=cellsB_ok hcb
    have hzv:=cellsOf_ok hzne (VR_avOf (rcOf c.M0 E L w) ei.zero)
    have hz0:=zerosOf_ok hzv (by rw [hzl];exact hn) (len * ei.size)
    have hzs:ei.zero.cells.size=ei.size:=by have:=VRs_length hzv;simp only [Array.length_toList] at this;rw [this,hzl]
    cases hpb:ptrsB parts with
    | true =>
      rw [hpb] at h2
      simp only [cond_true] at h2
      cases hb1:Nat.beq ei.size 1 with
      | false=>rw [hb1] at h2;exact h2.elim
      | true =>
      rw [hb1] at h2
      simp only [cond_true] at h2
      have he1:ei.size=1:=Nat.eq_of_beq_eq_true hb1
      obtain ⟨cs',cur',m1,m2,m3,m4⟩:=fillK_ok (pl:=fun i=>some (i * ei.size,ei.size)) (fun i K hK=>⟨_,rfl,hK⟩) (vals:=vals.toList) h2 (by simpa using hl) (fun j i x hx=>by
        obtain ⟨v,hv1,hv2⟩:=hv j i x hx
        exact ⟨v,by simpa using hv1,hv2⟩) hz0
      have n6:=lpushK_ok m2
      rw [Nat.zero_add] at n6
      have hcs:cur'.size=len * ei.size:=by rw [m4];simp
      have hcl:cs'.length=len:=by have:=VRs_length m3;simp only [Array.length_toList] at this;rw [← this,hcs,he1,Nat.mul_one]
      obtain ⟨hs',hle⟩:=hs.newCells hc e m3
      refine ⟨.slice (some ⟨w.heap.size,0,none⟩) len len,w.alloc (.cells cur' e),_,_,_,?_,n6,hs',hle,?_⟩
      ·by_cases h0:len * ei.size=0
       ·have m1':Instr.fill (fun i=>some (i * ei.size,ei.size)) #[] vals.toList=some cur':=by
         have:(Array.range (len * ei.size)).map (ei.zero.cells[· % ei.zero.cells.size]!) = #[]:=by rw [h0];simp
         rw [this] at m1;exact m1
        have hr0:Array.range 0 = #[]:=by simp
        simp [Instr.buildSlice,run_underlying hut,run_sizeOf k1,k3,h0,hr0,m1',newRow]
       ·have hbig2:¬(16777216<len * ei.size):=by omega
        simp [Instr.buildSlice,run_underlying hut,run_sizeOf k1,k3,h0,hbig2,zeroValue,typeInfo,k1,k2,m1,newRow]
      ·simp only [VR]
       exact ⟨.cells cs',by simp,w.heap.size,by simp [Eupd],by rw [hcl]⟩
    | false =>
    rw [hpb] at h2
    simp only [cond_false] at h2
    obtain ⟨cs',cur',m1,m2,m3,m4⟩:=fillK_ok (pl:=fun i=>some (i * ei.size,ei.size)) (fun i K hK=>⟨_,rfl,hK⟩) (vals:=vals.toList) h2 (by simpa using hl) (fun j i x hx=>by
      obtain ⟨v,hv1,hv2⟩:=hv j i x hx
      exact ⟨v,by simpa using hv1,hv2⟩) hz0
    obtain ⟨ds0,L1,q1,ql,q2,q3,q4⟩:=toDsK_ok hc hs m2 m3
    obtain ⟨ds,q1,q5,q6⟩:=normNs_ok _ _ q1
    replace q4:=q6 _ _ q4
    clear q6 q5
    obtain ⟨n1,xs,n2,n3,n4,n5⟩:=chunksK_ok q1
    have n6:=lpushK_ok n2
    rw [Nat.zero_add] at n6
    have hcs:cur'.size=len * ei.size:=by rw [m4];simp
    have hcl:ds.length=len * ei.size:=by have:=Cs_length q4;simp only [Array.length_toList] at this;rw [← this,hcs]
    have hfl:xs.flatten=ds:=by rw [n5,List.take_of_length_le (by omega)]
    obtain ⟨hs',hle⟩:=q2.newRow hc (Keeps.alloc w (.cells cur' e)) (e:=e) (cap:=len) (xs:=xs) false ⟨hn,ht.sz _ _ hei⟩ n4 (heap_alloc_new w _) hcs (by omega) (by
      have h1:len≤len * ei.size:=Nat.le_mul_of_pos_right len hn
      unfold maxLen;omega) (by
      rw [hfl,n3,List.take_of_length_le (by simp [hcs])];exact q4)
    refine ⟨_,_,_,_,_,?_,n6,hs',q3.trans hle,rc_arr_new (cap:=len) (heap_alloc_new w _) hcs⟩
    have hxl:xs.length=len:=n3
    rw [hxl]
    by_cases h0:len * ei.size=0
    ·have m1':Instr.fill (fun i=>some (i * ei.size,ei.size)) #[] vals.toList=some cur':=by
      have:(Array.range (len * ei.size)).map (ei.zero.cells[· % ei.zero.cells.size]!) = #[]:=by rw [h0];simp
      rw [this] at m1;exact m1
     have hr0:Array.range 0 = #[]:=by simp
     simp [Instr.buildSlice,run_underlying hut,run_sizeOf k1,k3,h0,hr0,m1',newRow]
    ·have hbig2:¬(16777216<len * ei.size):=by omega
     simp [Instr.buildSlice,run_underlying hut,run_sizeOf k1,k3,h0,hbig2,zeroValue,typeInfo,k1,k2,m1,newRow]
 ·exact h1.elim
def srcK (L:List AB) (n:Nat) (x:AV) (K:List (List DV)→List AB→Prop):Prop :=
 match x with
 | .d .nils=>K [] L
 | .d (.sl m ys)=>bif Nat.beq m n then K ys L else False
 | .arr j=>lgetK L j fun ab=>match ab with
   | .row e m xs _=>bif Nat.beq m n then lsetK L j (.row e m xs true) fun L'=>K xs L' else False
   | _=>False
 | _=>False
def srcAK (L:List AB) (n:Nat) (x:AV) (K:List (List DV)→Prop):Prop :=
 match x with
 | .d .nils=>K []
 | .d (.sl m ys)=>bif Nat.beq m n then K ys else False
 | .d (.slo m ys)=>bif Nat.beq m n then K ys else False
 | .arr j=>lgetK L j fun ab=>match ab with
   | .row _ m xs _=>bif Nat.beq m n then K xs else False
   | _=>False
 | _=>False
def SrcOf (rd:Addr→Value→Prop) (w:World) (n:Nat) (ys:List (List DV)) (v:Value):Prop :=
 ∃ p kcap,v = .slice p ys.length kcap∧(ys=[]∨∃ a us,p=some a∧VDs rd ys.flatten us∧us.length=ys.length * n∧(∀ (j:Nat) (u:Value),us[j]? = some u→w.cell? (a.add j)=some u)∧(∀ cs∈ys,cs.length=n))
def appendTo (e n bytes:Nat) (L:List AB) (s:AV) (ys:List (List DV)) (K:AV→List AB→Prop):Prop :=
 match s with
 | .d .nils=>ys.length * bytes≤140737488355328∧lpushK L (.row e n ys false) 0 fun j L'=>K (.arr j) L'
 | .arr j=>lgetK L j fun ab=>match ab with
   | .row e' m xs sh=>bif Nat.beq m n&&Nat.beq e' e then (xs.length+ys.length) * bytes≤140737488355328 ∧
      lsetK L j .dead fun L1=>lpushK L1 (.row e n (xs++ys) sh) 0 fun j' L'=>K (.arr j') L' else False
   | _=>False
 | _=>False
def appendK (tt:TypeId→Option TI) (t:TypeId) (L:List AB) (s x:AV) (K:AV→List AB→Prop):Prop :=
 ttK tt t fun i=>match sliceElem i.desc with
  | some e=>ttK tt e fun ei=>bif Nat.beq ei.size 0||Nat.beq ei.bytes 0 then False else
     srcAK L ei.size x fun ys=>appendTo e ei.size ei.bytes L s ys K
  | none=>False
theorem srcK_ok {c:Ctx} (hc:c.wf) {E:Nat→Option Nat} {L:List AB} {w:World} (hs:SimH c E L w) {n:Nat} (hn:0<n) {x:AV} {K:List (List DV)→List AB→Prop} (h:srcK L n x K) {v:Value} (hv:VR (rcOf c.M0 E L w) x v) :
  ∃ ys L',K ys L'∧SimH c E L' w∧(rcOf c.M0 E L w).le (rcOf c.M0 E L' w)∧VR (rcOf c.M0 E L' w) (.d (.sl n ys)) v:=by
 have idle:(rcOf c.M0 E L w).le (rcOf c.M0 E L w):=RC.le.refl _
 cases x<;>first|exact h.elim|skip
 case d x =>
  cases x<;>simp only [srcK] at h<;>first|exact h.elim|skip
  case nils =>
   simp only [VR,VD] at hv;subst hv
   exact ⟨[],L,h,hs,idle,by simp only [VR,VD];exact ⟨hn,none,0,rfl,by simp,by simp [maxLen],fun _=>rfl,(fun a' h=>by cases h)⟩⟩
  case sl m ys =>
   cases hb:Nat.beq m n with
   | false=>rw [hb] at h;exact h.elim
   | true =>
     rw [hb] at h
     have:=Nat.eq_of_beq_eq_true hb
     subst this
     exact ⟨ys,L,h,hs,idle,hv⟩
 case arr j =>
  obtain ⟨ab,hab,h1⟩:=lgetK_ok h
  cases ab<;>simp only at h1<;>first|exact h1.elim|skip
  rename_i e m xs sh
  cases hb:Nat.beq m n with
  | false=>rw [hb] at h1;exact h1.elim
  | true =>
    rw [hb] at h1
    have:=Nat.eq_of_beq_eq_true hb
    subst this
    have h2:=lsetK_ok h1
    obtain ⟨hs',hle,hsl⟩:=hs.close hc hab
    exact ⟨xs,_,h2,hs',hle,hsl v hv⟩
theorem run_append_none {P:Program} {w:World} {t ty e:TypeId} {info:TypeInfo} (hu:P.underlying t=some (.slice e)) (hi:P.info? e=some info) (base:Option Addr) (l c:Nat) (p:Option Addr) (k:Nat) (hlc:l≤c) :
  (Builtin.append_ #[t,t] ty #[.slice base l c,.slice p 0 k]).run P w = .ok (.slice base l c) w:=by
 cases base<;>cases p<;>simp [Builtin.append_,run_underlying hu,run_sizeOf hi,Builtin.lenOf,hlc,Builtin.firstCells,loadCells,loadCellsFrom,storeCells]
theorem srcAK_ok {c:Ctx} {E:Nat→Option Nat} {L:List AB} {w:World} (hs:SimH c E L w) {n:Nat} (hn:0<n) {x:AV} {K:List (List DV)→Prop} (h:srcAK L n x K) {v:Value} (hv:VR (rcOf c.M0 E L w) x v) :
  ∃ ys,K ys∧SrcOf (rcOf c.M0 E L w).rd w n ys v:=by
 cases x<;>first|exact h.elim|skip
 case d x =>
  cases x<;>simp only [srcAK] at h<;>first|exact h.elim|skip
  case nils =>
   simp only [VR,VD] at hv;subst hv
   exact ⟨[],h,none,0,rfl,.inl rfl⟩
  case sl m ys =>
   cases hb:Nat.beq m n with
   | false=>rw [hb] at h;exact h.elim
   | true =>
     rw [hb] at h
     have:=Nat.eq_of_beq_eq_true hb
     subst this
     simp only [VR,VD] at hv
     obtain ⟨_,p,kcap,rfl,hyc,hym,hpn,hp⟩:=hv
     refine ⟨ys,h,p,kcap,rfl,?_⟩
     cases p with
     | none=>left;have:=hpn rfl;exact List.eq_nil_of_length_eq_zero (by omega)
     | some a =>
       obtain ⟨hsp0,_,hvre⟩:=hp a rfl
       rcases hsp0 with hys|hsp
       ·exact .inl hys
       obtain ⟨us,l1,l2,l3⟩:=VDE_vals m hvre hsp
       refine .inr ⟨a,us,rfl,l1,l2,fun j u hj => ?_,?_⟩
       ·rw [add_lit a hsp];exact (rd_cell (l3 j u hj) rfl).1
       ·intro cs hcs
        obtain ⟨i,hi⟩:=List.mem_iff_getElem?.1 hcs
        exact (VDE_get m hvre hsp hi).1
  case slo m ys =>
   cases hb:Nat.beq m n with
   | false=>rw [hb] at h;exact h.elim
   | true =>
     rw [hb] at h
     have:=Nat.eq_of_beq_eq_true hb
     subst this
     simp only [VR,VD] at hv
     obtain ⟨_,p,kcap,rfl,hyc,hym,hpn,hp⟩:=hv
     refine ⟨ys,h,p,kcap,rfl,?_⟩
     cases p with
     | none=>left;have:=hpn rfl;exact List.eq_nil_of_length_eq_zero (by omega)
     | some a =>
       obtain ⟨hsp0,hvre⟩:=hp a rfl
       rcases hsp0 with hys|hsp
       ·exact .inl hys
       obtain ⟨us,l1,l2,l3⟩:=VDE_vals m hvre hsp
       refine .inr ⟨a,us,rfl,l1,l2,fun j u hj => ?_,?_⟩
       ·rw [add_lit a hsp];exact (rd_cell (l3 j u hj) rfl).1
       ·intro cs hcs
        obtain ⟨i,hi⟩:=List.mem_iff_getElem?.1 hcs
        exact (VDE_get m hvre hsp hi).1
 case arr j =>
  obtain ⟨ab,hab,h1⟩:=lgetK_ok h
  cases ab<;>simp only at h1<;>first|exact h1.elim|skip
  rename_i e m xs sh
  cases hb:Nat.beq m n with
  | false=>rw [hb] at h1;exact h1.elim
  | true =>
    rw [hb] at h1
    have:=Nat.eq_of_beq_eq_true hb
    subst this
    refine ⟨xs,h1,?_⟩
    obtain ⟨_,hlen,hbr2⟩:=hs.blk j _ hab
    simp only [VR] at hv
    obtain ⟨ab',hab',hrel⟩:=hv
    rw [hab] at hab';cases hab'
    simp only [arRel] at hrel
    cases hE:E j with
    | none =>
      rw [hE] at hrel hbr2
      simp only at hrel hbr2
      subst hbr2
      exact ⟨none,0,by simpa using hrel,.inl rfl⟩
    | some b =>
      rw [hE] at hrel hbr2
      obtain ⟨cap,cur,hv,hh,hsz⟩:=hrel
      obtain ⟨cap',cur',hh',hsz',hle1,hle2,hvrs⟩:=hbr2
      rw [hh] at hh';cases hh'
      have hcap:cap=cap':=Nat.eq_of_mul_eq_mul_right hn (hsz.symm.trans hsz')
      subst hcap
      have hxl:xs.flatten.length=xs.length * m:=flatten_length m hlen
      refine ⟨some ⟨b,0,none⟩,cap,hv,.inr ⟨_,cur.toList.take (xs.length * m),rfl,hvrs,by rw [Cs_length hvrs,hxl],fun i u hi => ?_,hlen⟩⟩
      rw [add_lit _ rfl,Nat.zero_add,cell_of_row w b i cur e (0,0) hh]
      rw [List.getElem?_take] at hi
      split at hi
      ·simpa using hi
      ·cases hi
theorem appendTo_ok {P:Program} {tt:TypeId→Option TI} (ht:TTok P tt) {t e:TypeId} {ei:TI} (hu:P.underlying t=some (.slice e)) (hei:tt e=some ei) (hz:ei.zero.cells.size=ei.size) (hn:0<ei.size) (hby:0<ei.bytes)
  {c:Ctx} (hc:c.wf) {E:Nat→Option Nat} {L:List AB} {w:World} (hs:SimH c E L w) {s:AV} {ys:List (List DV)} {K:AV→List AB→Prop} (h:appendTo e ei.size ei.bytes L s ys K) (ty:TypeId)
  {v u:Value} (hv:VR (rcOf c.M0 E L w) s v) (hu':SrcOf (rcOf c.M0 E L w).rd w ei.size ys u) :
  ∃ r w' E' av L',(Builtin.append_ #[t,t] ty #[v,u]).run P w = .ok r w'∧K av L'∧SimH c E' L' w'∧(rcOf c.M0 E L w).le (rcOf c.M0 E' L' w')∧VR (rcOf c.M0 E' L' w') av r:=by
 obtain ⟨_,info,k1,k2,k3,k4⟩:=ht e ei hei
 -- the source's cells
 obtain ⟨p,kcap,rfl,hsrc⟩:=hu'
 -- a new block that holds olds and news
 have fresh:∀ (xs:List (List DV)) (us0:List Value) (need old cap:Nat),VDs (rcOf c.M0 E L w).rd xs.flatten us0→us0.length=need * ei.size→xs.length=need→(∀ cs∈xs,cs.length=ei.size)→need≤cap→cap≤maxLen →
   ∀ (cur:Array Value),cur=us0.toArray++Builtin.zeroCells ei.zero.cells (cap - need) →
   cur.size=cap * ei.size∧VDs (rcOf c.M0 E L w).rd xs.flatten (cur.toList.take (xs.length * ei.size)):=by
  intro xs us0 need old cap h1 h2 h3 h4 h5 h6 cur hcur
  subst hcur
  constructor
  ·simp only [Array.size_append,List.size_toArray,size_zeroCells,hz,h2,← Nat.add_mul]
   congr 1;omega
  ·rw [h3,Array.toList_append,← h2]
   simp only [List.take_left]
   exact h1
 cases s<;>first|exact h.elim|skip
 case d s =>
  cases s<;>first|exact h.elim|skip
  simp only [VR,VD] at hv;subst hv
  obtain ⟨hbound,h2⟩:=h
  have h3:=lpushK_ok h2
  rw [Nat.zero_add] at h3
  rcases hsrc with rfl|⟨a,us,rfl,l1,l2,l3,l4⟩
  ·obtain ⟨hs',hle⟩:=hs.nilRow hc e ei.size false ⟨hn,ht.sz _ _ hei⟩
   exact ⟨_,_,_,_,_,run_append_none hu k1 none 0 0 p kcap (Nat.le_refl _),h3,hs',hle,rc_arr_nil⟩
  ·by_cases hy0:ys.length=0
   ·have:ys=[]:=List.eq_nil_of_length_eq_zero hy0
    subst this
    obtain ⟨hs',hle⟩:=hs.nilRow hc e ei.size false ⟨hn,ht.sz _ _ hei⟩
    exact ⟨_,_,_,_,_,run_append_none hu k1 none 0 0 _ kcap (Nat.le_refl _),h3,hs',hle,rc_arr_nil⟩
   ·have hyle:ys.length≤140737488355328:=Nat.le_trans (Nat.le_mul_of_pos_right _ hby) hbound
    have hr:=run_append_nil (P:=P) w t ty e info ei.zero hu k1 k2 a ys.length kcap us (by rw [k3];exact l2) l3 (by omega) (by omega) (by rw [k4];omega)
    have hge:=grownCap_ge w ys.length 0 e
    have hcm:=grownCap_le_maxLen w ys.length 0 e (by unfold maxLen;omega)
    obtain ⟨f1,f2⟩:=fresh ys us ys.length 0 _ l1 l2 rfl l4 hge hcm _ rfl
    have kk:Keeps w (w.drew.alloc (.cells (us.toArray++Builtin.zeroCells ei.zero.cells (grownCap w ys.length 0 e - ys.length)) e)):=(Keeps.drew w).trans (Keeps.alloc w.drew _)
    obtain ⟨hs',hle⟩:=hs.newRow hc kk (e:=e) (xs:=ys) false ⟨hn,ht.sz _ _ hei⟩ l4 (heap_alloc_new w.drew _) f1 hge hcm f2
    exact ⟨_,_,_,_,_,hr,h3,hs',hle,rc_arr_new (heap_alloc_new w.drew _) f1⟩
 case arr j =>
  obtain ⟨ab,hab,h1⟩:=lgetK_ok h
  cases ab<;>simp only at h1<;>first|exact h1.elim|skip
  rename_i e' m xs sh
  cases hb:(Nat.beq m ei.size&&Nat.beq e' e) with
  | false=>rw [hb] at h1;exact h1.elim
  | true =>
    rw [hb] at h1
    simp only [Bool.and_eq_true] at hb
    have em:=Nat.eq_of_beq_eq_true hb.1
    have ee:=Nat.eq_of_beq_eq_true hb.2
    subst em;subst ee
    obtain ⟨hbound,h2⟩:=h1
    have h3:=lpushK_ok (lsetK_ok h2)
    rw [Nat.zero_add] at h3
    simp only [List.length_set] at h3
    have hbr:=hs.blk j _ hab
    obtain ⟨_,hxlen,hbr2⟩:=hbr
    have hlt:j<L.length:=(List.getElem?_eq_some_iff.1 hab).1
    simp only [VR] at hv
    obtain ⟨ab',hab',hrel⟩:=hv
    rw [hab] at hab';cases hab'
    simp only [arRel] at hrel
    -- behind the kill
    obtain ⟨hk,hkle⟩:=hs.kill hab
    have hklen:(L.set j AB.dead).length=L.length:=by simp
    cases hE:E j with
    | none =>
      rw [hE] at hbr2 hrel
      simp only at hbr2 hrel
      subst hbr2;subst hrel
      simp only [List.nil_append,List.length_nil,Nat.zero_add] at h3 hbound
      have nilcase:ys=[]→∃ r w' E' av L',(Builtin.append_ #[t,t] ty #[.slice none 0 0,.slice p ys.length kcap]).run P w = .ok r w'∧K av L'∧SimH c E' L' w'∧(rcOf c.M0 E L w).le (rcOf c.M0 E' L' w')∧VR (rcOf c.M0 E' L' w') av r:=by
       intro hy
       subst hy
       obtain ⟨hs',hle⟩:=hk.nilRow hc e' ei.size sh ⟨hn,ht.sz _ _ hei⟩
       rw [hklen] at hs' hle
       exact ⟨_,_,_,_,_,run_append_none hu k1 none 0 0 p kcap (Nat.le_refl _),h3,hs',(hkle.trans hle),by rw [← hklen];exact rc_arr_nil⟩
      rcases hsrc with hy|⟨a,us,rfl,l1,l2,l3,l4⟩
      ·exact nilcase hy
      ·by_cases hy0:ys.length=0
       ·exact nilcase (List.eq_nil_of_length_eq_zero hy0)
       ·have hyle:ys.length≤140737488355328:=Nat.le_trans (Nat.le_mul_of_pos_right _ hby) hbound
        have hr:=run_append_nil (P:=P) w t ty e' info ei.zero hu k1 k2 a ys.length kcap us (by rw [k3];exact l2) l3 (by omega) (by omega) (by rw [k4];omega)
        have hge:=grownCap_ge w ys.length 0 e'
        have hcm:=grownCap_le_maxLen w ys.length 0 e' (by unfold maxLen;omega)
        obtain ⟨f1,f2⟩:=fresh ys us ys.length 0 _ l1 l2 rfl l4 hge hcm _ rfl
        have kk:Keeps w (w.drew.alloc (.cells (us.toArray++Builtin.zeroCells ei.zero.cells (grownCap w ys.length 0 e' - ys.length)) e')):=(Keeps.drew w).trans (Keeps.alloc w.drew _)
        obtain ⟨hs',hle⟩:=hk.newRow hc kk (e:=e') (xs:=ys) sh ⟨hn,ht.sz _ _ hei⟩ l4 (heap_alloc_new w.drew _) f1 hge hcm (VDs.mono hkle.rd f2)
        rw [hklen] at hs' hle
        exact ⟨_,_,_,_,_,hr,h3,hs',(hkle.trans hle),by rw [← hklen];exact rc_arr_new (heap_alloc_new w.drew _) f1⟩
    | some b =>
      rw [hE] at hbr2 hrel
      obtain ⟨cap,cur,rfl,hh,hsz⟩:=hrel
      obtain ⟨cap',cur',hh',hsz',hxc,hxm,hvx⟩:=hbr2
      rw [hh] at hh';cases hh'
      have ecap:cap=cap':=Nat.eq_of_mul_eq_mul_right hn (hsz.symm.trans hsz')
      subst ecap
      have hxl:xs.flatten.length=xs.length * ei.size:=flatten_length ei.size hxlen
      have hxcl:(cur.toList.take (xs.length * ei.size)).length=xs.length * ei.size:=by rw [Cs_length hvx,hxl]
      have samecase:ys=[]→∃ r w' E' av L',(Builtin.append_ #[t,t] ty #[.slice (some ⟨b,0,none⟩) xs.length cap,.slice p ys.length kcap]).run P w = .ok r w'∧K av L'∧SimH c E' L' w'∧(rcOf c.M0 E L w).le (rcOf c.M0 E' L' w')∧VR (rcOf c.M0 E' L' w') av r:=by
       intro hy
       subst hy
       simp only [List.append_nil] at h3
       obtain ⟨hs',hle⟩:=hs.relabel hab (zs:=xs) (Nat.le_refl _) (hs.blk j _ hab)
       refine ⟨_,_,_,_,_,run_append_none hu k1 _ _ _ p kcap hxc,h3,hs',hle,?_⟩
       rw [hE]
       have:=rc_arr_new (M0:=c.M0) (E:=E) (L:=L.set j .dead) (w:=w) (e:=e') (n:=ei.size) (xs:=xs) (sh:=sh) hh hsz
       rw [hklen] at this
       exact this
      rcases hsrc with hy|⟨a,us,rfl,l1,l2,l3,l4⟩
      ·exact samecase hy
      ·by_cases hy0:ys.length=0
       ·exact samecase (List.eq_nil_of_length_eq_zero hy0)
       ·have hyle:xs.length+ys.length≤140737488355328:=Nat.le_trans (Nat.le_mul_of_pos_right _ hby) hbound
        have hzsl:(xs++ys).length=xs.length+ys.length:=by simp
        have hall:∀ cs∈xs++ys,cs.length=ei.size:=by
         intro cs hcs
         rcases List.mem_append.1 hcs with h|h
         ·exact hxlen cs h
         ·exact l4 cs h
        by_cases hroom:xs.length+ys.length≤cap
        · -- there is room
          have hfit:xs.length * ei.size+us.length≤cur.size:=by rw [l2,hsz,← Nat.add_mul];exact Nat.mul_le_mul_right _ hroom
          have hr:=run_append_room (P:=P) w t ty e' info hu k1 b xs.length cap cur hh a ys.length kcap us (by rw [k3];exact l2) l3 (Cs_one l1) hroom (by rw [k3];exact hfit)
          rw [k3] at hr
          have hfl:xs.length * ei.size≤cur.toList.length:=by simp only [Array.length_toList];omega
          have htk:(cur.toList.take (xs.length * ei.size)++us++cur.toList.drop (xs.length * ei.size+us.length)).toArray.toList.take (xs.length * ei.size)=cur.toList.take (xs.length * ei.size):=by
           simp only [List.append_assoc]
           rw [List.take_append_of_le_length (by omega)]
           rw [List.take_take,Nat.min_self]
          obtain ⟨hs1,hle1⟩:=hs.write hab hE hh (cur':=(cur.toList.take (xs.length * ei.size)++us++cur.toList.drop (xs.length * ei.size+us.length)).toArray) (by
           simp only [List.size_toArray,List.length_append,List.length_take,List.length_drop,Array.length_toList];omega) htk
          have hh1:=setRow_heap w b cur (cur.toList.take (xs.length * ei.size)++us++cur.toList.drop (xs.length * ei.size+us.length)).toArray e' (0,0) hh
          have hsz1:(cur.toList.take (xs.length * ei.size)++us++cur.toList.drop (xs.length * ei.size+us.length)).toArray.size=cap * ei.size:=by
           rw [← hsz]
           simp only [List.size_toArray,List.length_append,List.length_take,List.length_drop,Array.length_toList];omega
          obtain ⟨hs2,hle2⟩:=hs1.relabel hab (zs:=xs++ys) (by simp) (by
           rw [hE]
           refine ⟨⟨hn,ht.sz _ _ hei⟩,hall,cap,_,hh1,hsz1,by omega,hxm,?_⟩
           rw [List.flatten_append]
           refine VDs.mono hle1.rd ?_
           have e1:(cur.toList.take (xs.length * ei.size)++us++cur.toList.drop (xs.length * ei.size+us.length)).toArray.toList.take ((xs++ys).length * ei.size)=cur.toList.take (xs.length * ei.size)++us:=by
            have:(xs++ys).length * ei.size=(cur.toList.take (xs.length * ei.size)++us).length:=by
             simp only [List.length_append,hxcl,l2,Nat.add_mul]
            rw [this]
            exact List.take_left
           rw [e1]
           exact Cs_append hvx l1)
          refine ⟨_,_,_,_,_,hr,h3,hs2,(hle1.trans hle2),?_⟩
          rw [hE,← hzsl]
          have:=rc_arr_new (M0:=c.M0) (E:=E) (L:=L.set j .dead) (e:=e') (n:=ei.size) (xs:=xs++ys) (sh:=sh) hh1 hsz1
          rw [hklen] at this
          exact this
        · -- it grows
          have holds:∀ i u,(cur.toList.take (xs.length * ei.size))[i]? = some u→w.cell? ((⟨b,0,none⟩:Addr).add i)=some u:=by
           intro i u hi
           rw [add_lit _ rfl,Nat.zero_add,cell_of_row w b i cur e' (0,0) hh]
           rw [List.getElem?_take] at hi
           split at hi
           ·simpa using hi
           ·cases hi
          have hr:=run_append_grow (P:=P) w t ty e' info ei.zero hu k1 k2 ⟨b,0,none⟩ xs.length cap (cur.toList.take (xs.length * ei.size)) (by rw [hxcl,k3]) holds a ys.length kcap us (by rw [k3];exact l2) l3 (by omega) (by omega)
           (by rw [k4];exact growslice_fits (by omega) hbound)
          have hge:=grownCap_ge w (xs.length+ys.length) cap e'
          have hcm:=grownCap_le_maxLen w (xs.length+ys.length) cap e' (by unfold maxLen;omega)
          obtain ⟨f1,f2⟩:=fresh (xs++ys) (cur.toList.take (xs.length * ei.size)++us) (xs.length+ys.length) 0 _ (by rw [List.flatten_append];exact Cs_append hvx l1) (by rw [List.length_append,hxcl,l2,Nat.add_mul]) hzsl hall hge hcm _ rfl
          have ecur:(cur.toList.take (xs.length * ei.size)).toArray++us.toArray++Builtin.zeroCells ei.zero.cells (grownCap w (xs.length+ys.length) cap e' - (xs.length+ys.length))=(cur.toList.take (xs.length * ei.size)++us).toArray++Builtin.zeroCells ei.zero.cells (grownCap w (xs.length+ys.length) cap e' - (xs.length+ys.length)):=by simp
          rw [ecur] at hr
          have kk:Keeps w (w.drew.alloc (.cells ((cur.toList.take (xs.length * ei.size)++us).toArray++Builtin.zeroCells ei.zero.cells (grownCap w (xs.length+ys.length) cap e' - (xs.length+ys.length))) e')):=(Keeps.drew w).trans (Keeps.alloc w.drew _)
          obtain ⟨hs',hle⟩:=hk.newRow hc kk (e:=e') (xs:=xs++ys) sh ⟨hn,ht.sz _ _ hei⟩ hall (heap_alloc_new w.drew _) f1 (by rw [hzsl];exact hge) hcm (VDs.mono hkle.rd f2)
          rw [hklen] at hs' hle
          refine ⟨_,_,_,_,_,hr,h3,hs',(hkle.trans hle),?_⟩
          rw [← hklen,← hzsl]
          exact rc_arr_new (heap_alloc_new w.drew _) (by rw [hzsl];exact f1)
noncomputable def norm1Ks (xs:List DV):(List DV→Prop)→Prop :=
 List.rec (motive:=fun _=>(List DV→Prop)→Prop) (fun K=>K []) (fun x _ ih K=>norm1K x fun y=>ih fun l=>K (y :: l)) xs
theorem norm1Ks_ok:∀ {xs:List DV} {K:List DV→Prop},norm1Ks xs K→K (xs.map norm1)
 | [],_,h=>h
 | x :: r,K,h=>norm1Ks_ok (xs:=r) (K:=fun l=>K (norm1 x :: l)) (norm1K_ok (show norm1K x fun y=>norm1Ks r fun l=>K (y :: l) from h))
def boxPK (x:AV) (L:List AB) (K:AV→List AB→Prop):Prop :=
 bif oneAV x||aggB x then toDsK (cellsOf x) L fun ds L'=>norm1Ks ds fun ds=>∀ b,lpushK L' (.pool b ds) 0 fun i L''=>K (.mp i b 0) L'' else False
theorem boxPK_ok {P:Program} {c:Ctx} (hc:c.wf) {E:Nat→Option Nat} {L:List AB} {w:World} (hs:SimH c E L w) {x:AV} {K:AV→List AB→Prop} (h:boxPK x L K) (t:TypeId) {v:Value} (hv:VR (rcOf c.M0 E L w) x v) :
  ∃ r w' E' av L',(Instr.box t v).run P w = .ok r w'∧K av L'∧SimH c E' L' w'∧(rcOf c.M0 E L w).le (rcOf c.M0 E' L' w')∧VR (rcOf c.M0 E' L' w') av r:=by
 unfold boxPK at h
 cases hb:(oneAV x||aggB x) with
 | false=>rw [hb] at h;exact h.elim
 | true =>
   rw [hb] at h
   simp only [cond_true] at h
   have hne:cellsOf x≠[]∨∃ cs,x = .agg cs:=by
    cases x with
    | agg cs=>exact .inr ⟨_,rfl⟩
    | tup cs=>cases hb
    | d x =>
      cases x with
      | any=>cases hb
      | _=>exact .inl (by simp [cellsOf])
    | _=>exact .inl (by simp [cellsOf])
   have hvs:=cellsOf_ok hne hv
   obtain ⟨ds,L1,h1,_,hs1,hle1,hds⟩:=toDsK_ok hc hs h hvs
   have h2:=lpushK_ok (norm1Ks_ok h1 w.heap.size)
   have hds:=norm1s_ok hds
   rw [Nat.zero_add] at h2
   have k:=Keeps.alloc w (.cells v.cells t)
   have hle:=le_extend (c:=c) (E:=E) (L:=L1) k (.pool w.heap.size (ds.map norm1)) none hs1.bl (fun b hb=>by cases hb) (fun b hb=>by simp [AB.boxes] at hb;omega)
   have hs':=hs1.extend hc k (.pool w.heap.size (ds.map norm1)) none (fun b hb=>by cases hb) (fun b hb=>by simp [AB.boxes] at hb;omega) (by simp [AB.boxes]) (fun b hb=>by simp)
    ⟨v.cells,t,heap_alloc_new w _,VDs.mono hle.rd hds⟩
   exact ⟨.pointer (some ⟨w.heap.size,0,none⟩),w.alloc (.cells v.cells t),_,_,_,by simp [Instr.box,newVar,newRow],h2,hs',hle1.trans hle,by simp [VR]⟩
end
end Go.Ab
namespace Go.Ab
noncomputable section
open Go.RowKit
def dputK (cs:List DV):Nat→List DV→(List DV→Prop)→Prop :=
 List.rec (motive:=fun _=>Nat→List DV→(List DV→Prop)→Prop) (fun _ vs K=>List.rec (motive:=fun _=>Prop) (K []) (fun _ _ _=>False) vs)
  (fun c r ih n vs=>List.rec (motive:=fun _=>(List DV→Prop)→Prop) (fun K=>K (c :: r)) (fun v vs' _=>Nat.rec (motive:=fun _=>(List DV→Prop)→Prop) (fun K=>ih 0 vs' fun l=>K (v :: l)) (fun m _ K=>ih m (v :: vs') fun l=>K (c :: l)) n) vs) cs
theorem dputK_ok:∀ {cs:List DV} {n:Nat} {vs:List DV} {K:List DV→Prop},dputK cs n vs K→(vs=[]∨n+vs.length≤cs.length)∧K (overD cs n vs)
 | [],n,[],K,h=>⟨.inl rfl,by
     have:overD ([]:List DV) n []=[]:=by simp [overD]
     rw [this];exact h⟩
 | [],_,_ :: _,_,h=>h.elim
 | c :: cs,n,[],K,h=>⟨.inl rfl,by
     have:overD (c :: cs) n []=c :: cs:=by simp [overD]
     rw [this];exact h⟩
 | c :: cs,0,v :: vs,K,h=>by
   obtain ⟨h1,h2⟩:=dputK_ok (cs:=cs) (n:=0) (vs:=vs) (K:=fun l=>K (v :: l)) h
   refine ⟨.inr ?_,?_⟩
   ·rcases h1 with rfl|h1<;>simp<;>omega
   ·have:overD (c :: cs) 0 (v :: vs)=v :: overD cs 0 vs:=by simp [overD]
    rw [this];exact h2
 | c :: cs,n+1,v :: vs,K,h=>by
   obtain ⟨h1,h2⟩:=dputK_ok (cs:=cs) (n:=n) (vs:=v :: vs) (K:=fun l=>K (c :: l)) h
   refine ⟨.inr ?_,?_⟩
   ·rcases h1 with h1|h1
    ·cases h1
    ·simp at h1 ⊢;omega
   ·have e:n+1+(v :: vs).length=(n+(v :: vs).length)+1:=by omega
    have:overD (c :: cs) (n+1) (v :: vs)=c :: overD cs n (v :: vs):=by
     unfold overD
     rw [e,List.take_succ_cons,List.drop_succ_cons];rfl
    rw [this];exact h2
theorem overD_flatten (n:Nat):∀ {xs:List (List DV)},(∀ cs∈xs,cs.length=n)→∀ {k off:Nat} {cs ds:List DV},xs[k]? = some cs→off+ds.length≤n→(xs.set k (overD cs off ds)).flatten=overD xs.flatten (k * n+off) ds
 | [],_,k,off,cs,ds,h,_=>by simp at h
 | c :: r,hl,0,off,cs,ds,h,hle=>by
   simp at h;subst h
   have hc:c.length=n:=hl c (by simp)
   simp only [List.set_cons_zero,List.flatten_cons,Nat.zero_mul,Nat.zero_add,overD]
   rw [List.take_append_of_le_length (by omega),List.drop_append_of_le_length (by omega)]
   simp [List.append_assoc]
 | c :: r,hl,k+1,off,cs,ds,h,hle=>by
   have hc:c.length=n:=hl c (by simp)
   have ih:=overD_flatten n (xs:=r) (fun x hx=>hl x (by simp [hx])) (k:=k) (off:=off) (cs:=cs) (ds:=ds) (by simpa using h) hle
   rw [List.set_cons_succ,List.flatten_cons,ih,List.flatten_cons]
   unfold overD
   have e:(k+1) * n+off=c.length+(k * n+off):=by rw [hc,Nat.add_mul];omega
   have e2:c.length+(k * n+off)+ds.length=c.length+(k * n+off+ds.length):=by omega
   rw [e,e2,List.take_append,List.drop_append,List.take_of_length_le (show c.length≤c.length+(k * n+off) by omega),List.drop_eq_nil_of_le (show c.length≤c.length+(k * n+off+ds.length) by omega)]
   simp only [Nat.add_sub_cancel_left,List.nil_append,List.append_assoc]
theorem SimH.rewrite {c:Ctx} {E:Nat→Option Nat} {L:List AB} {w:World} (h:SimH c E L w) {i e n:Nat} {xs zs:List (List DV)} (hi:L[i]? = some (.row e n xs false)) {b:Nat} (hb:E i=some b)
  {cur cur':Array Value} (hh:w.heap[b]? = some (.cells cur e (0,0))) (hs:cur'.size=cur.size) (hz:zs.length=xs.length) (hn:∀ cs∈zs,cs.length=n)
  (hv:VDs (rcOf c.M0 E L w).rd zs.flatten (cur'.toList.take (zs.length * n))) :
  SimH c E (L.set i (.row e n zs false)) (w.setRow b cur')∧(rcOf c.M0 E L w).le (rcOf c.M0 E (L.set i (.row e n zs false)) (w.setRow b cur')):=by
 have k:TurnsE (E i) w (w.setRow b cur'):=by rw [hb];exact (Turns.setRow w b cur').toE (likes_setRow hh hs)
 have hle:(rcOf c.M0 E L w).le (rcOf c.M0 E (L.set i (.row e n zs false)) (w.setRow b cur')):=by
  refine le_set h hi rfl k (fun o hm => ?_) ?_ rfl ?_ ?_ (fun _ hb=>hb)
  ·intro hf;cases hf
  ·intro b' o u hb' hnm hc
   exact absurd (fun hf=>by cases hf) hnm
  ·intro v hv
   simp only [arRel,hb] at hv ⊢
   obtain ⟨cap,cur2,h1,h2,h3⟩:=hv
   rw [hh] at h2;cases h2
   exact ⟨cap,cur',by rw [h1,hz],setRow_heap w b cur cur' e (0,0) hh,by rw [hs];exact h3⟩
  ·intro j o v hv
   simp only [apRel] at hv ⊢
   exact hv
 refine ⟨h.setE hi rfl k hle rfl ?_ rfl,hle⟩
 have hbr:=h.blk i _ hi
 obtain ⟨hn0,hl,h3⟩:=hbr
 refine ⟨hn0,hn,?_⟩
 rw [hb] at h3 ⊢
 obtain ⟨cap,cur2,h4,h5,h6,h7,h8⟩:=h3
 rw [hh] at h4;cases h4
 exact ⟨cap,cur',setRow_heap w b cur cur' e (0,0) hh,by rw [hs];exact h5,by rw [hz];exact h6,h7,VDs.mono hle.rd hv⟩
def storeApK (tt:TypeId→Option TI) (t:TypeId) (i:TI) (L:List AB) (j k off:Nat) (v:AV) (K:List AB→Prop):Prop :=
 bif cellsB i.size v then toDsK (cellsOf v) L fun ds L1=>normNs (cellNs tt 6 t) i.size ds 0 fun ds=>lgetK L1 j fun ab=>match ab with
  | .row e n xs sh=>match sh with
    | true=>False
    | false=>∃ cs,xs[k]? = some cs∧dputK cs off ds fun cs'=>lsetK L1 j (.row e n (xs.set k cs') false) K
  | _=>False
 else False
theorem storeApK_ok {P:Program} {tt:TypeId→Option TI} (ht:TTok P tt) {t:TypeId} {i:TI} (hi:tt t=some i) {c:Ctx} (hc:c.wf) {E:Nat→Option Nat} {L:List AB} {w:World} (hs:SimH c E L w)
  {j k off:Nat} {v:AV} {K:List AB→Prop} (h:storeApK tt t i L j k off v K) {p u:Value} (hp:VR (rcOf c.M0 E L w) (.ap j k off) p) (hu:VR (rcOf c.M0 E L w) v u) :
  ∃ w' L',(Instr.storeAt t p u).run P w = .ok () w'∧K L'∧SimH c E L' w'∧(rcOf c.M0 E L w).le (rcOf c.M0 E L' w'):=by
 unfold storeApK at h
 cases hsz:cellsB i.size v with
 | false=>rw [hsz] at h;exact h.elim
 | true =>
   rw [hsz] at h
   simp only [cond_true] at h
   obtain ⟨hlen,hne⟩:=cellsB_ok hsz
   have hcs:=cellsOf_ok hne hu
   obtain ⟨hu',info,k1,k2,k3,k4⟩:=ht t i hi
   obtain ⟨ds0,L1,h1,hL1,hs1,hle1,hds0⟩:=toDsK_ok hc hs h hcs
   obtain ⟨ds,h2,hdl,hds⟩:=normNs_ok _ _ h1
   replace hds:=hds _ _ hds0
   obtain ⟨ab,hab,h3⟩:=lgetK_ok h2
   cases ab with
   | row e n xs sh =>
     cases sh with
     | true=>exact h3.elim
     | false =>
       obtain ⟨cs,hxk,h4⟩:=h3
       obtain ⟨hov,h5⟩:=dputK_ok h4
       have h6:=lsetK_ok h5
       have hp1:=VR.mono hle1 _ _ hp
       simp only [VR] at hp1
       obtain ⟨ab',hab',hr⟩:=hp1
       rw [hab] at hab';cases hab'
       obtain ⟨b,hb,rfl⟩:=hr
       have hbr:=hs1.blk j _ hab
       obtain ⟨hn0,hl,hb3⟩:=hbr
       rw [hb] at hb3
       obtain ⟨cap,cur,hh,hcs2,hcap,hmax,hvd⟩:=hb3
       have hul:u.cells.toList.length=ds.length:=by rw [hdl,← Cs_length hds0]
       have hcl:cs.length=n:=hl cs (List.mem_of_getElem? hxk)
       have hk:k<xs.length:=(List.getElem?_eq_some_iff.1 hxk).1
       have hfit:ds=[]∨off+ds.length≤n:=by rw [← hcl];exact hov
       have hbase:k * n+n≤xs.length * n:=by
        have:=Nat.mul_le_mul_right n (show k+1≤xs.length from hk)
        rw [Nat.add_mul,Nat.one_mul] at this;exact this
       have hcapn:xs.length * n≤cap * n:=Nat.mul_le_mul_right n hcap
       have hu1:u.cells.size=i.size:=by rw [← Array.length_toList,← hlen];exact VRs_length hcs
       rcases hfit with hnil|hfit
       · -- nothing is written
         have hu0:u.cells.toList=[]:=List.eq_nil_of_length_eq_zero (by rw [hul,hnil];rfl)
         have hov0:overD cs off ds=cs:=by rw [hnil];simp [overD]
         have hxs:xs.set k (overD cs off ds)=xs:=by
          rw [hov0]
          apply List.ext_getElem?
          intro m
          by_cases hm:m=k
          ·subst hm;rw [getElem?_set_same hxk,hxk]
          ·rw [getElem?_set_other hm]
         rw [hxs] at h6
         have hLs:L1.set j (.row e n xs false)=L1:=by
          apply List.ext_getElem?
          intro m
          by_cases hm:m=j
          ·subst hm;rw [getElem?_set_same hab,hab]
          ·rw [getElem?_set_other hm]
         rw [hLs] at h6
         refine ⟨w,L1,?_,h6,hs1,hle1⟩
         have hu2:u.cells.size=0:=by rw [← Array.length_toList,hu0];rfl
         have hz:i.size=0:=by rw [← hu1,hu2]
         simp only [Instr.storeAt,Instr.sureAddr,storeVar,Sem.run_bind,Sem.run_pure,Result.andThen_ok,run_sizeOf k1,k3,hz,hu2,hu0]
         rfl
       ·have hst:=run_storeCells_at P b (k * n+off) e u.cells.toList 0 cur w hh (by rw [hul,hcs2];omega) (VRs_one hcs)
        simp only [Nat.add_zero] at hst
        have hF:=overD_flatten n hl hxk hfit
        have hlen':∀ cs'∈xs.set k (overD cs off ds),cs'.length=n:=by
         intro cs' hm
         rcases List.mem_or_eq_of_mem_set hm with hm|rfl
         ·exact hl cs' hm
         ·simp only [overD,List.length_append,List.length_take,List.length_drop,hcl];omega
        have hcurl:cur.toList.length=cap * n:=by rw [Array.length_toList,hcs2]
        have hvs':VDs (rcOf c.M0 E L1 w).rd (xs.set k (overD cs off ds)).flatten ((cur.toList.take (k * n+off)++u.cells.toList++cur.toList.drop (k * n+off+u.cells.toList.length)).take (xs.length * n)):=by
         rw [hF]
         have e1:(cur.toList.take (k * n+off)++u.cells.toList++cur.toList.drop (k * n+off+u.cells.toList.length)).take (xs.length * n) =
           (cur.toList.take (xs.length * n)).take (k * n+off)++u.cells.toList++(cur.toList.take (xs.length * n)).drop (k * n+off+ds.length):=by
          rw [List.take_take,Nat.min_eq_left (by omega),List.drop_take,hul,List.take_append]
          have hl1:(cur.toList.take (k * n+off)++u.cells.toList).length=k * n+off+ds.length:=by
           rw [List.length_append,List.length_take,hul,Nat.min_eq_left (by omega)]
          rw [hl1,List.take_of_length_le (by rw [hl1];omega)]
         rw [e1]
         unfold overD
         exact Cs_append (Cs_append (Cs_take _ hvd) hds) (Cs_drop _ hvd)
        have hz2:(xs.set k (overD cs off ds)).length=xs.length:=by simp
        obtain ⟨hs',hle⟩:=hs1.rewrite hab hb hh (zs:=xs.set k (overD cs off ds)) (cur':=(cur.toList.take (k * n+off)++u.cells.toList++cur.toList.drop (k * n+off+u.cells.toList.length)).toArray)
         (by
           rw [List.size_toArray,List.length_append,List.length_append,List.length_take,List.length_drop,hul,hcurl,hcs2,Nat.min_eq_left (by omega)]
           omega) hz2 hlen' (by rw [hz2];simpa using hvs')
        refine ⟨_,_,?_,h6,hs',hle1.trans hle⟩
        simp only [Instr.storeAt,Instr.sureAddr,storeVar,Sem.run_bind,Sem.run_pure,Result.andThen_ok,run_sizeOf k1,k3,hu1]
        rw [if_neg (by simp)]
        exact hst
   | _=>exact h3.elim
def storeAllK (tt:TypeId→Option TI) (t:TypeId) (L:List AB) (a v:AV) (K:List AB→Prop):Prop :=
 ttK tt t fun i=>match a with
  | .ap j k off=>storeApK tt t i L j k off v K
  | a=>storeK i L a v K
theorem storeAllK_ok {P:Program} {tt:TypeId→Option TI} (ht:TTok P tt) {t:TypeId} {c:Ctx} (hc:c.wf) {E:Nat→Option Nat} {L:List AB} {w:World} (hs:SimH c E L w)
  {a v:AV} {K:List AB→Prop} (h:storeAllK tt t L a v K) {p u:Value} (hp:VR (rcOf c.M0 E L w) a p) (hu:VR (rcOf c.M0 E L w) v u) :
  ∃ w' L',(Instr.storeAt t p u).run P w = .ok () w'∧K L'∧SimH c E L' w'∧(rcOf c.M0 E L w).le (rcOf c.M0 E L' w'):=by
 obtain ⟨i,hi,h1⟩:=ttK_ok h
 split at h1
 ·exact storeApK_ok ht hi hc hs h1 hp hu
 ·exact storeK_ok ht hi hc hs h1 hp hu
end
end Go.Ab
namespace Go.Ab
noncomputable section
open Go.RowKit
def u8s (bs:List UInt8):List (List DV):=bs.map fun b=>[.int .u8 b.toNat]
def intKindD:TypeDesc→Option IntKind | .int k=>some k|_=>none
def isU8D (d:TypeDesc):Bool:=match d with | .int .u8=>true|_=>false
def fltKindD (d:TypeDesc):Option FloatKind:=match d with | .float k=>some k|_=>none
def bytesObj (e:TypeId) (s:ByteArray) (cap:Nat):Obj := .cells (bytesRow s cap) e ((bytesRow s cap).size,(bytesRow s cap).size+1)
def convertK (tt:TypeId→Option TI) (src dst:TypeId) (L:List AB) (x:AV) (K:AV→List AB→Prop):Prop :=
 ttK tt src fun si=>ttK tt dst fun di =>
  match x with
  | .d (.int _ n)=>match intKindD di.desc with
    | some k=>∀ z,z=k.wrap n→K (.d (.int k z)) L
    | none=>match fltKindD di.desc with
      | some k=>K (.d (.flt k (fnear k n))) L
      | none=>False
  | .d (.str s)=>match di.desc with
    | .string=>K (.d (.str s)) L
    | .slice e=>ttK tt e fun ei=>bif isStrD si.desc&&isU8D ei.desc&&Nat.beq ei.size 1 then s.size≤maxLen∧(K (.d (.sl 1 (u8s s.data.toList))) L∨∀ cap,s.size≤cap→cap≤maxLen→lpushK L (.obs (bytesObj e s cap) s.size cap) 0 fun j L'=>K (.arr j) L') else False
    | _=>False
  | .d (.sl n xs)=>match si.desc,di.desc with
    | .slice e,.string=>ttK tt e fun ei=>bif isU8D ei.desc&&Nat.beq n 1 then ∃ bs,xs=u8s bs∧K (.d (.str ⟨bs.toArray⟩)) L else False
    | _,_=>False
  | .arr j=>lgetK L j fun ab=>match ab with
    | .row e n xs _=>match si.desc,di.desc with
      | .slice e',.string=>ttK tt e' fun ei=>bif isU8D ei.desc&&Nat.beq n 1 then ∃ bs,xs=u8s bs∧K (.d (.str ⟨bs.toArray⟩)) L else False
      | .slice e',.slice _=>ttK tt e' fun ei=>bif isU8D ei.desc&&Nat.beq src dst then lsetK L j .dead fun L'=>xs≠[]∧K (.d (.sl n xs)) L' else False
      | _,_=>False
    | _=>False
  | _=>False
theorem foldl_push_bytes':∀ (ns:List UInt8) (s:ByteArray),(ns.map fun b=>(b.toNat:Int)).foldl (fun r n=>r.push (UInt8.ofNat n.toNat)) s=⟨s.data++ns.toArray⟩
 | [],s=>by simp
 | n :: ns,s=>by
   simp only [List.map_cons,List.foldl_cons]
   rw [foldl_push_bytes' ns]
   simp [ByteArray.push]
theorem VDs_u8s {rd:Addr→Value→Prop}:∀ {bs:List UInt8} {us:List Value},VDs rd (u8s bs).flatten us→us=bs.map fun b => .int .u8 (b.toNat:Int)
 | [],us,h=>by simpa [u8s,VDs,Cs] using h
 | b :: bs,us,h=>by
   simp only [u8s,List.map_cons,List.flatten_cons,List.singleton_append,VDs,Cs] at h
   obtain ⟨u,us',rfl,_,h1,h2⟩:=h
   simp only [VD] at h1
   subst h1
   have:=VDs_u8s (bs:=bs) (by simpa [u8s,VDs] using h2)
   simp [this]
theorem u8s_VDs {rd:Addr→Value→Prop}:∀ (bs:List UInt8),VDs rd (u8s bs).flatten (bs.map fun b=>Value.int .u8 (b.toNat:Int))
 | []=>by simp [u8s,VDs,Cs]
 | b :: bs=>by
   simp only [u8s,List.map_cons,List.flatten_cons,List.singleton_append,VDs,Cs]
   exact ⟨_,_,rfl,rfl,by simp [VD],by simpa [u8s,VDs] using u8s_VDs bs⟩
theorem u8s_length (bs:List UInt8):(u8s bs).length=bs.length:=by simp [u8s]
theorem u8s_one (bs:List UInt8):∀ cs∈u8s bs,cs.length=1:=by
 intro cs h
 simp only [u8s,List.mem_map] at h
 obtain ⟨b,_,rfl⟩:=h;rfl
theorem string_of_sl {P:Program} {w:World} {src dst e:TypeId} (hs:P.underlying src=some (.slice e)) (he:P.underlying e=some (.int .u8)) (hd:P.underlying dst=some .string)
  {c:Ctx} {E:Nat→Option Nat} {L:List AB} {bs:List UInt8} {v:Value} (hv:VR (rcOf c.M0 E L w) (.d (.sl 1 (u8s bs))) v):(convert src dst v).run P w = .ok (.string ⟨bs.toArray⟩) w:=by
 simp only [VR,VD] at hv
 obtain ⟨_,p,cap,rfl,h1,h2,h3,h4⟩:=hv
 rw [run_convert_bytes_string w src dst e p _ cap hs he hd]
 cases p with
 | none =>
   have:=h3 rfl
   have hb:bs=[]:=by
    have:(u8s bs).length=0:=by omega
    rw [u8s_length] at this
    exact List.eq_nil_of_length_eq_zero this
   subst hb
   simp [Conv.bytesToString];rfl
 | some a =>
   obtain ⟨hsp,_,hvre⟩:=h4 a rfl
   obtain ⟨us,hlen,hus,hcell⟩:∃ us:List Value,us.length=(u8s bs).length∧us=bs.map (fun b=>Value.int .u8 (b.toNat:Int))∧∀ (j:Nat) (v:Value),us[j]? = some v→w.cell? (a.add j)=some v:=by
    rcases hsp with hb|hsp
    ·have:bs=[]:=by
      have h0:(u8s bs).length=0:=by rw [hb];rfl
      rw [u8s_length] at h0
      exact List.eq_nil_of_length_eq_zero h0
     subst this
     exact ⟨[],rfl,rfl,fun j v hj=>by simp at hj⟩
    ·obtain ⟨us,k1,k2,k3⟩:=VDE_vals 1 hvre hsp
     exact ⟨us,by omega,VDs_u8s k1,fun j v hj=>by rw [add_lit a hsp];exact (rd_cell (k3 j v hj) rfl).1⟩
   have hl:=run_loadCells_list (P:=P) w a us hcell
   rw [hlen] at hl
   have:=run_bytesToString (P:=P) w a (u8s bs).length cap (bs.map fun b=>(b.toNat:Int)) (by rw [hl,hus];simp [Function.comp_def])
   rw [this,foldl_push_bytes']
   simp
theorem convertK_ok {P:Program} {tt:TypeId→Option TI} (ht:TTok P tt) {src dst:TypeId} {c:Ctx} (hc:c.wf) {E:Nat→Option Nat} {L:List AB} {w:World} (hs:SimH c E L w) {x:AV} {K:AV→List AB→Prop}
  (h:convertK tt src dst L x K) {v:Value} (hv:VR (rcOf c.M0 E L w) x v) :
  ∃ r w' E' av L',(convert src dst v).run P w = .ok r w'∧K av L'∧SimH c E' L' w'∧(rcOf c.M0 E L w).le (rcOf c.M0 E' L' w')∧VR (rcOf c.M0 E' L' w') av r:=by
 obtain ⟨si,hsi,h1⟩:=ttK_ok h
 obtain ⟨di,hdi,h2⟩:=ttK_ok h1
 obtain ⟨hus,_⟩:=ht src si hsi
 obtain ⟨hud,_⟩:=ht dst di hdi
 have idle:(rcOf c.M0 E L w).le (rcOf c.M0 E L w):=RC.le.refl _
 cases x<;>first|exact h2.elim|skip
 case d x =>
  cases x<;>first|exact h2.elim|skip
  case int k n =>
   simp only at h2
   simp only [VR,VD] at hv;subst hv
   split at h2
   ·rename_i k' hk'
    have hd:di.desc = .int k':=by
     revert hk'
     cases di.desc<;>simp [intKindD]
    rw [hd] at hud
    exact ⟨.int k' (k'.wrap n),w,E,_,L,by unfold convert;simp only [Sem.run_bind,run_underlying hus,run_underlying hud,Result.andThen_ok];rfl,h2 _ rfl,hs,idle,by simp [VR,VD]⟩
   ·split at h2
    ·rename_i k' hk'
     have hd:di.desc = .float k':=by
      revert hk'
      cases di.desc<;>simp [fltKindD]
     rw [hd] at hud
     exact ⟨.float k' (fnear k' n),w,E,_,L,by unfold convert;simp only [Sem.run_bind,run_underlying hus,run_underlying hud,Result.andThen_ok];cases si.desc<;>rfl,h2,hs,idle,by simp [VR,VD]⟩
    ·exact h2.elim
  case str s =>
   simp only at h2
   simp only [VR,VD] at hv;subst hv
   split at h2
   ·rename_i hd
    rw [hd] at hud
    exact ⟨.string s,w,E,_,L,by unfold convert;simp only [Sem.run_bind,run_underlying hus,run_underlying hud,Result.andThen_ok];cases si.desc<;>rfl,h2,hs,idle,by simp [VR,VD]⟩
   ·rename_i e hd
    rw [hd] at hud
    obtain ⟨ei,hei,h3⟩:=ttK_ok h2
    obtain ⟨hue,_⟩:=ht e ei hei
    cases hb:(isStrD si.desc&&isU8D ei.desc&&Nat.beq ei.size 1) with
    | false=>rw [hb] at h3;exact h3.elim
    | true =>
      rw [hb] at h3
      simp only [Bool.and_eq_true] at hb
      have hsd:si.desc = .string:=by
       have:=hb.1.1
       revert this
       cases si.desc<;>simp [isStrD]
      have hed:ei.desc = .int .u8:=by
       have:=hb.1.2
       revert this
       unfold isU8D
       split<;>simp_all
      rw [hsd] at hus
      rw [hed] at hue
      have hr:=run_bytes_of_string (P:=P) w src dst e s hus hud hue
      have hge:=grownCap_ge w s.size 0 e
      have kk:Keeps w (w.drew.alloc (.cells (bytesRow s (grownCap w s.size 0 e)) e ((bytesRow s (grownCap w s.size 0 e)).size,(bytesRow s (grownCap w s.size 0 e)).size+1))):=(Keeps.drew w).trans (Keeps.alloc w.drew _)
      rcases h3.2 with h3a|h3b
      rotate_left
      ·have hp:=lpushK_ok (h3b (grownCap w s.size 0 e) hge (grownCap_le_maxLen w s.size 0 e h3.1))
       rw [Nat.zero_add] at hp
       have hnew:(w.drew.alloc (.cells (bytesRow s (grownCap w s.size 0 e)) e ((bytesRow s (grownCap w s.size 0 e)).size,(bytesRow s (grownCap w s.size 0 e)).size+1))).heap[w.heap.size]? = some (bytesObj e s (grownCap w s.size 0 e)):=heap_alloc_new w.drew _
       refine ⟨_,_,Eupd E L.length (some w.heap.size),_,_,hr,hp,hs.extend hc kk _ _ (fun b hb=>by cases hb;exact Nat.le_refl _) (fun b hb=>by cases hb) (by simp [AB.boxes]) (fun b hb=>by cases hb) ⟨w.heap.size,rfl,hnew⟩,le_extend kk _ _ hs.bl (fun b hb=>by cases hb;exact Nat.le_refl _) (fun b hb=>by cases hb),?_⟩
       simp only [VR]
       exact ⟨_,by simp;rfl,by simp only [arRel,Eupd,if_true];exact ⟨w.heap.size,rfl,rfl⟩⟩
      refine ⟨_,_,E,_,L,hr,h3a,hs.keeps hc kk,le_keeps hs.bl kk,?_⟩
      have hsl:s.data.toList.length=s.size:=by rw [Array.length_toList];rfl
      simp only [VR,VD]
      have hm:grownCap w s.size 0 e≤maxLen:=grownCap_le_maxLen w s.size 0 e h3.1
      refine ⟨by omega,some ⟨w.heap.size,0,none⟩,grownCap w s.size 0 e,by rw [u8s_length,hsl],by rw [u8s_length,hsl];exact hge,hm,(fun h=>by cases h),fun a' ha => ?_⟩
      cases ha
      refine ⟨.inr rfl,?_,VDE_of (le_keeps (c:=c) (E:=E) (L:=L) hs.bl kk).rd 1 (u8s_VDs s.data.toList) (u8s_one _) rfl ?_⟩
      ·refine fun _ => .inr ⟨1,rfl,fun s0 hs0=>⟨fun h0=>by omega,fun _=>⟨Nat.le_trans (hc.s_le hs0) hs.size,_,e,_,grownCap w s.size 0 e,rfl,heap_alloc_new w.drew _,fun o h1 h2=>by have:=h2.1;simp only at this;omega,by rw [ht.sz e ei hei];exact Nat.eq_of_beq_eq_true hb.2,Nat.mod_one _,?_⟩⟩⟩
       show 0+grownCap w s.size 0 e * 1≤(bytesRow s (grownCap w s.size 0 e)).size
       unfold bytesRow
       simp
       have:s.data.size=s.size:=rfl
       omega
      intro j u hj
      have hnew:(w.drew.alloc (.cells (bytesRow s (grownCap w s.size 0 e)) e ((bytesRow s (grownCap w s.size 0 e)).size,(bytesRow s (grownCap w s.size 0 e)).size+1))).heap[w.heap.size]? = some (.cells (bytesRow s (grownCap w s.size 0 e)) e ((bytesRow s (grownCap w s.size 0 e)).size,(bytesRow s (grownCap w s.size 0 e)).size+1)):=heap_alloc_new w.drew _
      refine .inl ⟨?_,?_⟩
      ·rw [cell_of_row _ _ _ _ _ _ hnew]
       simp only [Nat.zero_add]
       unfold bytesRow
       have hjl:j<s.data.size:=by
        have:=(List.getElem?_eq_some_iff.1 hj).1
        simpa using this
       rw [Array.getElem?_append_left (by simpa using hjl)]
       simpa using hj
      ·rintro (hm'|⟨i,ab,hi,he,hm'⟩|⟨i,ab,hi,hm'⟩)
       ·have:=hc.low _ (hc.sub _ _ hm')
        have:=hs.size
        simp at *
        omega
       ·have:=hs.lt hi (AB.mut_live hm') he
        simp at this
       ·have:=hs.blt hi hm'
        simp at this
   ·exact h2.elim
  case sl n xs =>
   simp only at h2
   split at h2
   ·rename_i e hsd hdd
    obtain ⟨ei,hei,h3⟩:=ttK_ok h2
    obtain ⟨hue,_⟩:=ht e ei hei
    rw [hsd] at hus
    rw [hdd] at hud
    cases hb:(isU8D ei.desc&&Nat.beq n 1) with
    | false=>rw [hb] at h3;exact h3.elim
    | true =>
      rw [hb] at h3
      simp only [Bool.and_eq_true] at hb
      have hed:ei.desc = .int .u8:=by
       have:=hb.1
       revert this
       unfold isU8D
       split<;>simp_all
      have hn1:=Nat.eq_of_beq_eq_true hb.2
      subst hn1
      rw [hed] at hue
      obtain ⟨bs,rfl,hK⟩:=h3
      exact ⟨_,w,E,_,L,string_of_sl hus hue hud hv,hK,hs,idle,by simp [VR,VD]⟩
   ·exact h2.elim
 case arr j =>
  simp only at h2
  obtain ⟨ab,hab,h3⟩:=lgetK_ok h2
  cases ab<;>simp only at h3<;>first|exact h3.elim|skip
  rename_i e n xs sh
  obtain ⟨hs',hle,hsl⟩:=hs.close hc hab
  split at h3
  ·rename_i e' hsd hdd
   obtain ⟨ei,hei,h4⟩:=ttK_ok h3
   obtain ⟨hue,_⟩:=ht e' ei hei
   rw [hsd] at hus
   rw [hdd] at hud
   cases hb:(isU8D ei.desc&&Nat.beq n 1) with
   | false=>rw [hb] at h4;exact h4.elim
   | true =>
     rw [hb] at h4
     simp only [Bool.and_eq_true] at hb
     have hed:ei.desc = .int .u8:=by
      have:=hb.1
      revert this
      unfold isU8D
      split<;>simp_all
     have hn1:=Nat.eq_of_beq_eq_true hb.2
     subst hn1
     rw [hed] at hue
     obtain ⟨bs,rfl,hK⟩:=h4
     exact ⟨_,w,E,_,_,string_of_sl hus hue hud (hsl v hv),hK,hs,idle,by simp [VR,VD]⟩
  ·rename_i e' e'' hsd hdd
   obtain ⟨ei,hei,h4⟩:=ttK_ok h3
   obtain ⟨hue,_⟩:=ht e' ei hei
   rw [hsd] at hus
   cases hb:(isU8D ei.desc&&Nat.beq src dst) with
   | false=>rw [hb] at h4;exact h4.elim
   | true =>
     rw [hb] at h4
     simp only [Bool.and_eq_true] at hb
     have hed:ei.desc = .int .u8:=by
      have:=hb.1
      revert this
      unfold isU8D
      split<;>simp_all
     have esd:=Nat.eq_of_beq_eq_true hb.2
     subst esd
     rw [hed] at hue
     obtain ⟨hne,hK⟩:=lsetK_ok h4
     -- the block's mark
     have hsv:=hsl v hv
     have hbr:=(hs.blk j _ hab).2.2
     simp only [VR] at hv
     obtain ⟨ab',hab',hrel⟩:=hv
     rw [hab] at hab';cases hab'
     simp only [arRel] at hrel
     cases hE:E j with
     | none=>rw [hE] at hbr;exact absurd hbr hne
     | some b =>
       rw [hE] at hrel
       obtain ⟨cap,cur,rfl,hh,hsz⟩:=hrel
       have hlt:b<w.heap.size:=(Array.getElem?_eq_some_iff.1 hh).1
       have hge:w.heap[b] = .cells cur e (0,0):=(Array.getElem?_eq_some_iff.1 hh).2
       have hshape:w.shape? b=some (e,cur.size):=by unfold World.shape?;rw [hh]
       have hfz:(w.freeze ⟨b,cur.size,none⟩ 1).heap[b]? = some (.cells cur e (cur.size,cur.size+1)):=by
        unfold World.freeze
        rw [if_neg (by decide)]
        simp [hlt,Array.getElem_modify,hge]
       have hfo:∀ k,k≠b→(w.freeze ⟨b,cur.size,none⟩ 1).heap[k]? = w.heap[k]? := by
        intro k hk
        unfold World.freeze
        rw [if_neg (by decide)]
        simp [Array.getElem?_modify,Ne.symm hk]
       have kE:TurnsE (E j) w (w.freeze ⟨b,cur.size,none⟩ 1):=by
        rw [hE]
        refine ⟨?_,?_,?_,?_,fun k hk=>hfo k (fun e=>hk (by rw [e])),?_⟩
        rotate_right
        ·intro x c1 e1 m1 h1 h2
         by_cases hx:x=b
         ·subst hx
          rw [hh] at h1;cases h1
          exact ⟨cur,_,hfz,rfl,fun o h3 h4=>by have:=h4.1;simp only at this;omega⟩
         ·exact ⟨c1,m1,by rw [hfo x hx];exact h1,rfl,h2⟩
        all_goals (unfold World.freeze;rw [if_neg (by decide)];try simp)
       have hab1:(L.set j (.row e n xs true))[j]? = some (.row e n xs true):=getElem?_set_same hab
       have hle2:(rcOf c.M0 E (L.set j (.row e n xs true)) w).le (rcOf c.M0 E ((L.set j (.row e n xs true)).set j .dead) (w.freeze ⟨b,cur.size,none⟩ 1)) :=
        le_set hs' hab1 rfl kE (fun o hm=>absurd hm (by simp [AB.mut])) (fun b' o u hb' _ hc'=>by
         rw [hE] at hb';cases hb'
         rw [cell_of_row _ _ _ _ _ _ hfz]
         rw [cell_of_row _ _ _ _ _ _ hh] at hc'
         exact hc') rfl (fun v hv=>arRel_slice hv) (fun _ _ _ hv=>apRel_pointer hv) (fun _ hb=>hb)
       have hs2:=hs'.setE hab1 rfl kE hle2 rfl trivial rfl
       have hLL:(L.set j (.row e n xs true)).set j AB.dead=L.set j .dead:=by simp
       rw [hLL] at hle2 hs2
       refine ⟨_,_,E,_,_,?_,hK,hs2,(hle.trans hle2),VR.mono hle2 _ _ hsv⟩
       simp [convert,run_underlying hus,run_underlying hue,markStringish,hshape]
  ·exact h3.elim
end
end Go.Ab
namespace Go.Ab
noncomputable section
open Go.RowKit
def litN (n:Nat):Nat :=
 match n with
 | 0=>0|1=>1|2=>2|3=>3|4=>4|5=>5|6=>6|7=>7|8=>8|9=>9|10=>10|11=>11|12=>12|13=>13|14=>14|15=>15|16=>16|17=>17|18=>18|19=>19|20=>20
 | n=>n
theorem litN_eq (n:Nat):litN n=n:=by unfold litN;split<;>rfl
mutual
def renA (rho:Nat→Option Nat):AV→Option AV
 | .d x=>some (.d x)
 | .arr i=>match rho i with|some j=>some (.arr j)|none=>none
 | .ptr i o=>match rho i with|some j=>some (.ptr j o)|none=>none
 | .ap i k o=>match rho i with|some j=>some (.ap j k o)|none=>none
 | .im cs o=>some (.im cs o)
 | .map i=>match rho i with|some j=>some (.map j)|none=>none
 | .mp i b o=>match rho i with|some j=>some (.mp j b o)|none=>some (.mp 0 b o)
 | .agg cs=>match renAs rho cs with|some l=>some (.agg l)|none=>none
 | .tup cs=>match renAs rho cs with|some l=>some (.tup l)|none=>none
 | .fn f cs=>match renAs rho cs with|some l=>some (.fn f l)|none=>none
 | .sub i n=>match rho i with|some j=>some (.sub j n)|none=>none
 | .isl i x=>match rho i with|some j=>some (.isl j x)|none=>none
def renAs (rho:Nat→Option Nat):List AV→Option (List AV)
 | []=>some []
 | x :: r=>match renA rho x with
   | some y=>match renAs rho r with
     | some l=>some (y :: l)
     | none=>none
   | none=>none
end
structure Leads (R R':RC) (rho:Nat→Option Nat):Prop where
 rd:∀ a u,R.rd a u→R'.rd a u
 pt:∀ i j,rho i=some j→∀ b,R.pt i b→R'.pt j b
 ar:∀ i j,rho i=some j→∀ v,R.ar i v→R'.ar j v
 ap:∀ i j,rho i=some j→∀ k o v,R.ap i k o v→R'.ap j k o v
 is:∀ i j,rho i=some j→∀ x v,R.is i x v→R'.is j x v
mutual
theorem renA_ok {R R':RC} {rho:Nat→Option Nat} (h:Leads R R' rho):∀ (x y:AV),renA rho x=some y→∀ v,VR R x v→VR R' y v
 | .d x,y,k,v,hv=>by simp only [renA,Option.some.injEq] at k;subst k;simp only [VR] at hv ⊢;exact VD.mono h.rd x v hv
 | .arr i,y,k,v,hv=>by
   simp only [renA] at k
   split at k
   ·rename_i j hj;cases k;simp only [VR] at hv ⊢;exact h.ar i j hj v hv
   ·cases k
 | .ptr i o,y,k,v,hv=>by
   simp only [renA] at k
   split at k
   ·rename_i j hj;cases k;simp only [VR] at hv ⊢;obtain ⟨b,h5,h6⟩:=hv;exact ⟨b,h.pt i j hj b h5,h6⟩
   ·cases k
 | .isl i x,y,k,v,hv=>by
   simp only [renA] at k
   split at k
   ·rename_i j hj;cases k;simp only [VR] at hv ⊢;exact ⟨h.is i j hj x v hv.1,hv.2⟩
   ·cases k
 | .sub i n,y,k,v,hv=>by
   simp only [renA] at k
   split at k
   ·rename_i j hj;cases k;simp only [VR] at hv ⊢;obtain ⟨p,cap,h5,h6,h7,h8⟩:=hv;exact ⟨p,cap,h5,h6,h7,h.ap i j hj _ _ _ h8⟩
   ·cases k
 | .ap i k' o,y,k,v,hv=>by
   simp only [renA] at k
   split at k
   ·rename_i j hj;cases k;simp only [VR] at hv ⊢;exact h.ap i j hj _ _ v hv
   ·cases k
 | .im cs o,y,k,v,hv=>by
   simp only [renA,Option.some.injEq] at k;subst k
   simp only [VR] at hv ⊢;obtain ⟨a,h1,h2,h3,h4⟩:=hv;exact ⟨a,h1,h2,h3,VDC.mono h.rd cs a h4⟩
 | .map i,y,k,v,hv=>by
   simp only [renA] at k
   split at k
   ·rename_i j hj;cases k;simp only [VR] at hv ⊢;obtain ⟨b,h5,h6⟩:=hv;exact ⟨b,h.pt i j hj b h5,h6⟩
   ·cases k
 | .mp i b o,y,k,v,hv=>by
   simp only [renA] at k
   split at k
   ·cases k;simpa only [VR] using hv
   ·cases k;simpa only [VR] using hv
 | .agg cs,y,k,v,hv=>by
   simp only [renA] at k
   split at k
   ·rename_i l hl;cases k;simp only [VR] at hv ⊢;obtain ⟨us,h3,h4⟩:=hv;exact ⟨us,h3,(renAs_ok h cs l hl).1 _ h4⟩
   ·cases k
 | .tup cs,y,k,v,hv=>by
   simp only [renA] at k
   split at k
   ·rename_i l hl;cases k;simp only [VR] at hv ⊢;obtain ⟨us,h3,h4⟩:=hv;exact ⟨us,h3,(renAs_ok h cs l hl).2 _ h4⟩
   ·cases k
 | .fn f cs,y,k,v,hv=>by
   simp only [renA] at k
   split at k
   ·rename_i l hl;cases k;simp only [VR] at hv ⊢;obtain ⟨us,h3,h4⟩:=hv;exact ⟨us,h3,(renAs_ok h cs l hl).2 _ h4⟩
   ·cases k
theorem renAs_ok {R R':RC} {rho:Nat→Option Nat} (h:Leads R R' rho):∀ (xs ys:List AV),renAs rho xs=some ys→(∀ us,VRs R xs us→VRs R' ys us)∧(∀ us,VRt R xs us→VRt R' ys us)
 | [],ys,k=>by simp only [renAs,Option.some.injEq] at k;subst k;exact ⟨fun us hv=>by simpa [VRs] using hv,fun us hv=>by simpa [VRt] using hv⟩
 | x :: xs,ys,k=>by
   simp only [renAs] at k
   split at k
   ·rename_i y hy
    split at k
    ·rename_i l hl
     cases k
     have h1:=renA_ok h x y hy
     have h2:=renAs_ok h xs l hl
     constructor
     ·intro us hv
      simp only [VRs] at hv ⊢
      obtain ⟨u,us',e1,e2,e3,e4⟩:=hv
      exact ⟨u,us',e1,e2,h1 _ e3,h2.1 _ e4⟩
     ·intro us hv
      simp only [VRt] at hv ⊢
      obtain ⟨u,us',e1,e3,e4⟩:=hv
      exact ⟨u,us',e1,h1 _ e3,h2.2 _ e4⟩
    ·cases k
   ·cases k
end
def renAB (rho:Nat→Option Nat) (ab:AB):Option AB :=
 match ab with
 | .cells cs=>match renAs rho cs with|some l=>some (.cells l)|none=>none
 | .row e n xs sh=>some (.row e n xs sh)
 | .map es=>some (.map es)
 | .pool b cs=>some (.pool b cs)
 | .obj o=>some (.obj o)
 | .obs o n cap=>some (.obs o n cap)
 | .isle lo n ok=>some (.isle lo n ok)
 | .dead=>some .dead
def Alike (ab ab':AB):Prop :=
 match ab,ab' with
 | .cells cs,.cells cs'=>cs'.length=cs.length
 | .row e n xs sh,ab'=>ab' = .row e n xs sh
 | .map es,ab'=>ab' = .map es
 | .pool b cs,ab'=>ab' = .pool b cs
 | .obj o,ab'=>ab' = .obj o
 | .obs o n cap,ab'=>ab' = .obs o n cap
 | .isle lo n ok,ab'=>ab' = .isle lo n ok
 | .dead,ab'=>ab' = .dead
 | _,_=>False
theorem Alike.isCell {ab ab':AB} (h:Alike ab ab'):ab'.isCell=ab.isCell:=by
 cases ab<;>cases ab'<;>simp_all [Alike,AB.isCell]
theorem Alike.live {ab ab':AB} (h:Alike ab ab'):ab'.live=ab.live:=by
 cases ab<;>cases ab'<;>simp_all [Alike,AB.live]
theorem Alike.mut {ab ab':AB} (h:Alike ab ab') (o:Nat):ab'.mut o↔ab.mut o:=by
 cases ab<;>cases ab'<;>simp_all [Alike,AB.mut]
theorem Alike.boxes {ab ab':AB} (h:Alike ab ab'):ab'.boxes=ab.boxes:=by
 cases ab<;>cases ab'<;>simp_all [Alike,AB.boxes]
theorem renAs_length {rho:Nat→Option Nat}:∀ {xs ys:List AV},renAs rho xs=some ys→ys.length=xs.length
 | [],ys,k=>by simp only [renAs,Option.some.injEq] at k;subst k;rfl
 | x :: xs,ys,k=>by
   simp only [renAs] at k
   split at k
   ·split at k
    ·rename_i l hl
     cases k
     simp [renAs_length hl]
    ·cases k
   ·cases k
theorem Alike.ar {ab ab':AB} (h:Alike ab ab') {E E':Nat→Option Nat} {i j:Nat} (he:E' j=E i) {w:World} {v:Value} (k:arRel E w i v ab):arRel E' w j v ab':=by
 cases ab with
 | cells cs =>
   cases ab' with
   | cells cs'=>simp only [Alike] at h;simp only [arRel] at k ⊢;rw [he,h];exact k
   | _=>exact h.elim
 | map es=>exact k.elim
 | pool b cs=>exact k.elim
 | obj o=>exact k.elim
 | obs o n cap =>
   simp only [Alike] at h;subst h
   simp only [arRel] at k ⊢;rw [he];exact k
 | row e n xs sh =>
   simp only [Alike] at h;subst h
   simp only [arRel] at k ⊢;rw [he];exact k
 | isle lo n ok=>exact k.elim
 | dead=>simp only [Alike] at h;subst h;exact k
theorem Alike.is {ab ab':AB} (h:Alike ab ab') {w:World} {x:DV} {v:Value} (k:islRel w x v ab):islRel w x v ab':=by
 cases ab with
 | isle lo n ok=>simp only [Alike] at h;subst h;exact k
 | _=>exact k.elim
theorem Alike.ap {ab ab':AB} (h:Alike ab ab') {E E':Nat→Option Nat} {i j:Nat} (he:E' j=E i) {k o:Nat} {v:Value} (hk:apRel E i k o v ab):apRel E' j k o v ab':=by
 cases ab with
 | cells cs=>exact hk.elim
 | map es=>exact hk.elim
 | pool b cs=>exact hk.elim
 | obj o=>exact hk.elim
 | obs o n cap=>exact hk.elim
 | row e n xs sh =>
   simp only [Alike] at h;subst h
   simp only [apRel] at hk ⊢;rw [he];exact hk
 | isle lo n ok=>exact hk.elim
 | dead=>simp only [Alike] at h;subst h;exact hk
theorem renAB_alike {rho:Nat→Option Nat} {ab ab':AB} (k:renAB rho ab=some ab'):Alike ab ab':=by
 cases ab with
 | cells cs =>
   simp only [renAB] at k
   split at k
   ·rename_i l hl;cases k;exact renAs_length hl
   ·cases k
 | row e n xs sh=>simp only [renAB,Option.some.injEq] at k;subst k;rfl
 | map es=>simp only [renAB,Option.some.injEq] at k;subst k;rfl
 | pool b cs=>simp only [renAB,Option.some.injEq] at k;subst k;rfl
 | obj o=>simp only [renAB,Option.some.injEq] at k;subst k;rfl
 | obs o n cap=>simp only [renAB,Option.some.injEq] at k;subst k;rfl
 | isle lo n ok=>simp only [renAB,Option.some.injEq] at k;subst k;rfl
 | dead=>simp only [renAB,Option.some.injEq] at k;subst k;rfl
theorem renAB_ok {R R':RC} {rho:Nat→Option Nat} (h:Leads R R' rho) {ab ab':AB} (k:renAB rho ab=some ab') {w:World} {eb:Option Nat} (hb:BR R w eb ab):BR R' w eb ab':=by
 cases ab with
 | cells cs =>
   simp only [renAB] at k
   split at k
   ·rename_i l hl
    cases k
    obtain ⟨b,cur,e,e1,e2,e3⟩:=hb
    exact ⟨b,cur,e,e1,e2,(renAs_ok h cs l hl).1 _ e3⟩
   ·cases k
 | row e n xs sh =>
   simp only [renAB,Option.some.injEq] at k;subst k
   obtain ⟨e1,e2,e3⟩:=hb
   refine ⟨e1,e2,?_⟩
   cases eb with
   | none=>exact e3
   | some b =>
     obtain ⟨cap,cur,e4,e5,e6,e7,e8⟩:=e3
     exact ⟨cap,cur,e4,e5,e6,e7,VDs.mono h.rd e8⟩
 | map es =>
   simp only [renAB,Option.some.injEq] at k;subst k
   obtain ⟨b,ents,clock,e1,e2,e3,e4,e5⟩:=hb
   exact ⟨b,ents,clock,e1,e2,VME.mono h.rd (fun _ _=>rfl) e3,e4,e5⟩
 | pool b cs =>
   simp only [renAB,Option.some.injEq] at k;subst k
   exact VBox.mono h.rd rfl hb
 | obj o =>
   simp only [renAB,Option.some.injEq] at k;subst k
   exact hb
 | obs o n cap =>
   simp only [renAB,Option.some.injEq] at k;subst k
   exact hb
 | isle lo n ok =>
   simp only [renAB,Option.some.injEq] at k;subst k
   exact hb
 | dead=>simp only [renAB,Option.some.injEq] at k;subst k;trivial
def posN:List Nat→Nat→Nat→Option Nat
 | [],_,_=>none
 | i :: r,n,k=>bif Nat.beq i n then some (litN k) else posN r n (k+1)
theorem posN_ok:∀ {ix:List Nat} {n k m:Nat},posN ix n k=some m→∃ j,ix[j]? = some n∧m=k+j
 | [],_,_,_,h=>by cases h
 | i :: r,n,k,m,h=>by
   simp only [posN] at h
   cases hb:Nat.beq i n with
   | true=>rw [hb] at h;simp only [cond_true,Option.some.injEq] at h;exact ⟨0,by simp [Nat.eq_of_beq_eq_true hb],by rw [← h,litN_eq];rfl⟩
   | false =>
     rw [hb] at h
     obtain ⟨j,h1,h2⟩:=posN_ok (ix:=r) (k:=k+1) h
     exact ⟨j+1,by simpa using h1,by omega⟩
def linA (rho:Nat→Option Nat) (L:List AB):List Nat→Option (List AB)
 | []=>some []
 | i :: r=>match L[i]? with
   | some ab=>match renAB rho ab with
     | some ab'=>match linA rho L r with
       | some l=>some (ab' :: l)
       | none=>none
     | none=>none
   | none=>none
theorem linA_ok {rho:Nat→Option Nat} {L:List AB}:∀ {ix:List Nat} {l:List AB},linA rho L ix=some l→l.length=ix.length∧∀ (j i:Nat),ix[j]? = some i→∃ ab ab',L[i]? = some ab∧l[j]? = some ab'∧renAB rho ab=some ab'
 | [],l,h=>by simp only [linA,Option.some.injEq] at h;subst h;exact ⟨rfl,by simp⟩
 | i :: r,l,h=>by
   simp only [linA] at h
   split at h
   ·rename_i ab hab
    split at h
    ·rename_i ab' hab'
     split at h
     ·rename_i l' hl'
      cases h
      obtain ⟨h1,h2⟩:=linA_ok hl'
      refine ⟨by simp [h1],fun j i' hj => ?_⟩
      cases j with
      | zero=>simp at hj;subst hj;exact ⟨ab,ab',hab,by simp,hab'⟩
      | succ j=>simp only [List.getElem?_cons_succ] at hj ⊢;exact h2 j i' hj
     ·cases h
    ·cases h
   ·cases h
noncomputable def memB (n:Nat) (l:List Nat):Bool:=List.rec (motive:=fun _=>Bool) false (fun i _ ih=>bif Nat.beq i n then true else ih) l
theorem memB_nil (n:Nat):memB n []=false:=rfl
theorem memB_cons (n i:Nat) (r:List Nat):memB n (i :: r)=(Nat.beq i n||memB n r):=by show (bif Nat.beq i n then true else memB n r)=_;cases Nat.beq i n<;>rfl
def nodupB:List Nat→Bool
 | []=>true
 | i :: r => !(memB i r)&&nodupB r
theorem memB_ok {n:Nat}:∀ {l:List Nat},memB n l=false→n∉l
 | [],_=>by simp
 | i :: r,h=>by
   simp only [memB_nil,memB_cons,Bool.or_eq_false_iff] at h
   intro hm
   rcases List.mem_cons.1 hm with rfl|hm
   ·have h1:=h.1;rw [Nat.beq_refl] at h1;cases h1
   ·exact memB_ok h.2 hm
theorem nodupB_ok:∀ {l:List Nat},nodupB l=true→l.Nodup
 | [],_=>by simp
 | i :: r,h=>by
   simp only [nodupB,Bool.and_eq_true,Bool.not_eq_true'] at h
   exact List.nodup_cons.2 ⟨memB_ok h.1,nodupB_ok h.2⟩
theorem nodup_inj {l:List Nat} (h:l.Nodup) {i j n:Nat} (hi:l[i]? = some n) (hj:l[j]? = some n):i=j:=by
 have h1:=(List.getElem?_eq_some_iff.1 hi)
 have h2:=(List.getElem?_eq_some_iff.1 hj)
 obtain ⟨h1l,h1e⟩:=h1
 obtain ⟨h2l,h2e⟩:=h2
 have hp:=List.pairwise_iff_getElem.1 h
 rcases Nat.lt_trichotomy i j with h3|h3|h3
 ·exact absurd (h1e.trans h2e.symm) (hp i j h1l h2l h3)
 ·exact h3
 ·exact absurd (h2e.trans h1e.symm) (hp j i h2l h1l h3)
def Esub (E:Nat→Option Nat) (ix:List Nat):Nat→Option Nat:=fun j=>match ix[j]? with|some i=>E i|none=>none
theorem sub_leads {M0 M0':MZ} {E:Nat→Option Nat} {L l:List AB} {w:World} {ix:List Nat} (hl:linA (posN ix · 0) L ix=some l)
  (hM:∀ b o,M0' b o→Mut M0 E L b o) (hS:M0'.s=M0.s):Leads (rcOf M0 E L w) (rcOf M0' (Esub E ix) l w) (posN ix · 0):=by
 obtain ⟨hlen,hlook⟩:=linA_ok hl
 have pos:∀ i j,posN ix i 0=some j→ix[j]? = some i:=by
  intro i j h
  obtain ⟨m,h1,h2⟩:=posN_ok h
  rw [Nat.zero_add] at h2;rw [h2];exact h1
 have hE:∀ i j,posN ix i 0=some j→Esub E ix j=E i:=by
  intro i j h
  simp only [Esub,pos i j h]
 refine ⟨?_,?_,?_,?_,?_⟩
 rotate_right
 ·intro i j hij x v ⟨ab,h1,h2⟩
  obtain ⟨ab1,ab',h4,h5,h6⟩:=hlook j i (pos i j hij)
  rw [h1] at h4;cases h4
  exact ⟨ab',h5,(renAB_alike h6).is h2⟩
 ·refine rdle hS (.refl _) ?_
  rintro a u h1 h2
  refine ⟨h1,?_⟩
  rintro (hm|⟨j,ab',hj,he,hm⟩|⟨j,ab',hj,hm⟩)
  ·exact h2 (hM _ _ hm)
  rotate_left
  ·have hjl:j<ix.length:=by rw [← hlen];exact (List.getElem?_eq_some_iff.1 hj).1
   obtain ⟨ab,ab2,h3,h4,h5⟩:=hlook j ix[j] (List.getElem?_eq_getElem hjl)
   rw [hj] at h4;cases h4
   exact h2 (.inr (.inr ⟨_,ab,h3,by rw [← (renAB_alike h5).boxes];exact hm⟩))
  ·have hjl:j<ix.length:=by rw [← hlen];exact (List.getElem?_eq_some_iff.1 hj).1
   obtain ⟨ab,ab2,h3,h4,h5⟩:=hlook j ix[j] (List.getElem?_eq_getElem hjl)
   rw [hj] at h4;cases h4
   have he':E ix[j]=some a.block:=by
    simp only [Esub,List.getElem?_eq_getElem hjl] at he;exact he
   exact h2 (.inr (.inl ⟨_,ab,h3,he',((renAB_alike h5).mut _).1 hm⟩))
 ·intro i j hij b ⟨ab,h1,h2,h3⟩
  obtain ⟨ab1,ab',h4,h5,h6⟩:=hlook j i (pos i j hij)
  rw [h1] at h4;cases h4
  exact ⟨ab',h5,by rw [(renAB_alike h6).isCell];exact h2,by rw [hE i j hij];exact h3⟩
 ·intro i j hij v ⟨ab,h1,h2⟩
  obtain ⟨ab1,ab',h4,h5,h6⟩:=hlook j i (pos i j hij)
  rw [h1] at h4;cases h4
  exact ⟨ab',h5,(renAB_alike h6).ar (hE i j hij) h2⟩
 ·intro i j hij k o v ⟨ab,h1,h2⟩
  obtain ⟨ab1,ab',h4,h5,h6⟩:=hlook j i (pos i j hij)
  rw [h1] at h4;cases h4
  exact ⟨ab',h5,(renAB_alike h6).ap (hE i j hij) h2⟩
theorem sub_blocks {c:Ctx} {M0':MZ} {E:Nat→Option Nat} {L l:List AB} {w:World} (hs:SimH c E L w) {ix:List Nat} (hnd:ix.Nodup) (hl:linA (posN ix · 0) L ix=some l)
  (hM:∀ b o,M0' b o→Mut c.M0 E L b o) (hS:M0'.s=c.M0.s) :
  (∀ j ab,l[j]? = some ab→BR (rcOf M0' (Esub E ix) l w) w (Esub E ix j) ab) ∧
  (∀ j ab b,l[j]? = some ab→ab.live=true→Esub E ix j=some b→∃ i ab0,ix[j]? = some i∧L[i]? = some ab0∧ab0.live=true∧E i=some b) ∧
  (∀ j1 j2 ab1 ab2 b,l[j1]? = some ab1→l[j2]? = some ab2→ab1.live=true→ab2.live=true→Esub E ix j1=some b→Esub E ix j2=some b→j1=j2) ∧
  (∀ (P1:Nat→Prop),(∀ b,P1 b→∀ (j:Nat) (ab:AB),l[j]? = some ab→b∉ab.boxes)→Boxy P1 (Esub E ix) l):=by
 have hleads:=sub_leads (w:=w) hl hM hS
 obtain ⟨hlen,hlook⟩:=linA_ok hl
 have hback:∀ j ab,l[j]? = some ab→∃ i ab0,ix[j]? = some i∧L[i]? = some ab0∧renAB (posN ix · 0) ab0=some ab∧Esub E ix j=E i:=by
  intro j ab hj
  have hjl:j<ix.length:=by rw [← hlen];exact (List.getElem?_eq_some_iff.1 hj).1
  obtain ⟨ab0,ab2,h3,h4,h5⟩:=hlook j ix[j] (List.getElem?_eq_getElem hjl)
  rw [hj] at h4;cases h4
  exact ⟨ix[j],ab0,List.getElem?_eq_getElem hjl,h3,h5,by simp only [Esub,List.getElem?_eq_getElem hjl]⟩
 have h2:∀ j ab b,l[j]? = some ab→ab.live=true→Esub E ix j=some b→∃ i ab0,ix[j]? = some i∧L[i]? = some ab0∧ab0.live=true∧E i=some b:=by
  intro j ab b hj hlv he
  obtain ⟨i,ab0,k1,k2,k3,k4⟩:=hback j ab hj
  exact ⟨i,ab0,k1,k2,by rw [← (renAB_alike k3).live];exact hlv,by rw [← k4];exact he⟩
 refine ⟨?_,h2,?_,?_⟩
 rotate_right
 ·intro P1 hP1
  refine ⟨fun j ab b hj hb hp=>hP1 b hp j ab hj hb,?_,?_,?_⟩
  ·intro j1 j2 ab1 ab2 b hj1 hb hj2 hl2 he2
   obtain ⟨i1,a1,k1,k2,k3,k4⟩:=hback j1 ab1 hj1
   obtain ⟨i2,a2,m1,m2,m3,m4⟩:=h2 j2 ab2 b hj2 hl2 he2
   exact hs.bx.own i1 i2 a1 a2 b k2 (by rw [← (renAB_alike k3).boxes];exact hb) m2 m3 m4
  ·intro j ab hj
   obtain ⟨i1,a1,k1,k2,k3,k4⟩:=hback j ab hj
   rw [(renAB_alike k3).boxes];exact hs.bx.nd i1 a1 k2
  ·intro j1 j2 ab1 ab2 b hj1 hj2 hb1 hb2
   obtain ⟨i1,a1,k1,k2,k3,k4⟩:=hback j1 ab1 hj1
   obtain ⟨i2,a2,m1,m2,m3,m4⟩:=hback j2 ab2 hj2
   have:=hs.bx.dj i1 i2 a1 a2 b k2 m2 (by rw [← (renAB_alike k3).boxes];exact hb1) (by rw [← (renAB_alike m3).boxes];exact hb2)
   subst this
   exact nodup_inj hnd k1 m1
 ·intro j ab hj
  obtain ⟨i,ab0,k1,k2,k3,k4⟩:=hback j ab hj
  rw [k4]
  exact renAB_ok hleads k3 (hs.blk i ab0 k2)
 ·intro j1 j2 ab1 ab2 b hj1 hj2 l1 l2 e1 e2
  obtain ⟨i1,a1,k1,k2,k3,k4⟩:=h2 j1 ab1 b hj1 l1 e1
  obtain ⟨i2,a2,m1,m2,m3,m4⟩:=h2 j2 ab2 b hj2 l2 e2
  have:=hs.inj i1 i2 a1 a2 b k2 m2 k3 m3 k4 m4
  subst this
  exact nodup_inj hnd k1 m1
end
end Go.Ab
namespace Go.Ab
noncomputable section
open Go.RowKit
def ACalls (P:Program) (f:FuncId) (avs:List AV) (Lin:List AB) (post:AV→List AB→Prop):Prop :=
 ∀ (c:Ctx) (vs:Array Value),c.wf→c.L0=Lin→SimH c c.E0 Lin c.w0→VRt (rcOf c.M0 c.E0 Lin c.w0) avs vs.toList →
   Calls P f vs c.w0 fun e w'=>∃ v av L' E',e = .returned v∧post av L'∧SimH c E' L' w'∧VR (rcOf c.M0 E' L' w') av v
theorem ACalls.mono {P:Program} {f:FuncId} {avs:List AV} {Lin:List AB} {post post':AV→List AB→Prop} (h:ACalls P f avs Lin post) (hp:∀ av L,post av L→post' av L):ACalls P f avs Lin post' :=
 fun c vs h1 h2 h3 h4=>(h c vs h1 h2 h3 h4).mono fun _ _ ⟨v,av,L',E',e1,e2,e3,e4⟩=>⟨v,av,L',E',e1,hp _ _ e2,e3,e4⟩
def litK (n:Nat) (K:Nat→Prop):Prop :=
 match n with
 | 0=>K 0|1=>K 1|2=>K 2|3=>K 3|4=>K 4|5=>K 5|6=>K 6|7=>K 7|8=>K 8|9=>K 9|10=>K 10|11=>K 11|12=>K 12|13=>K 13|14=>K 14|15=>K 15|16=>K 16
 | 17=>K 17|18=>K 18|19=>K 19|20=>K 20|21=>K 21|22=>K 22|23=>K 23|24=>K 24
 | n=>K n
theorem litK_ok {n:Nat} {K:Nat→Prop} (h:litK n K):K n:=by unfold litK at h;split at h<;>exact h
noncomputable def fA (x:AV):(AV→Prop)→Prop :=
 AV.rec (motive_1:=fun _=>(AV→Prop)→Prop) (motive_2:=fun _=>(List AV→Prop)→Prop) (fun x K=>K (.d x)) (fun i K=>litK i fun i=>K (.arr i)) (fun i o K=>litK i fun i=>K (.ptr i o)) (fun i k o K=>litK i fun i=>K (.ap i k o)) (fun cs o K=>K (.im cs o)) (fun i K=>litK i fun i=>K (.map i)) (fun i b o K=>litK i fun i=>K (.mp i b o))
  (fun _ ih K=>ih fun l=>K (.agg l)) (fun _ ih K=>ih fun l=>K (.tup l)) (fun f _ ih K=>ih fun l=>K (.fn f l)) (fun i n K=>litK i fun i=>K (.sub i n)) (fun i x K=>litK i fun i=>K (.isl i x)) (fun K=>K []) (fun _ _ ihx ihr K=>ihx fun y=>ihr fun l=>K (y :: l)) x
noncomputable def fAs (xs:List AV):(List AV→Prop)→Prop :=
 AV.rec_1 (motive_1:=fun _=>(AV→Prop)→Prop) (motive_2:=fun _=>(List AV→Prop)→Prop) (fun x K=>K (.d x)) (fun i K=>litK i fun i=>K (.arr i)) (fun i o K=>litK i fun i=>K (.ptr i o)) (fun i k o K=>litK i fun i=>K (.ap i k o)) (fun cs o K=>K (.im cs o)) (fun i K=>litK i fun i=>K (.map i)) (fun i b o K=>litK i fun i=>K (.mp i b o))
  (fun _ ih K=>ih fun l=>K (.agg l)) (fun _ ih K=>ih fun l=>K (.tup l)) (fun f _ ih K=>ih fun l=>K (.fn f l)) (fun i n K=>litK i fun i=>K (.sub i n)) (fun i x K=>litK i fun i=>K (.isl i x)) (fun K=>K []) (fun _ _ ihx ihr K=>ihx fun y=>ihr fun l=>K (y :: l)) xs
mutual
theorem fA_ok:∀ (x:AV) (K:AV→Prop),fA x K→K x
 | .d x,K,h=>h
 | .arr i,K,h=>litK_ok (K:=fun i=>K (.arr i)) h
 | .ptr i o,K,h=>litK_ok (K:=fun i=>K (.ptr i o)) h
 | .ap i k o,K,h=>litK_ok (K:=fun i=>K (.ap i k o)) h
 | .im cs o,K,h=>h
 | .map i,K,h=>litK_ok (K:=fun i=>K (.map i)) h
 | .mp i b o,K,h=>litK_ok (K:=fun i=>K (.mp i b o)) h
 | .agg cs,K,h=>fAs_ok cs (fun l=>K (.agg l)) h
 | .tup cs,K,h=>fAs_ok cs (fun l=>K (.tup l)) h
 | .fn f cs,K,h=>fAs_ok cs (fun l=>K (.fn f l)) h
 | .sub i n,K,h=>litK_ok (K:=fun i=>K (.sub i n)) h
 | .isl i x,K,h=>litK_ok (K:=fun i=>K (.isl i x)) h
theorem fAs_ok:∀ (xs:List AV) (K:List AV→Prop),fAs xs K→K xs
 | [],K,h=>h
 | x :: r,K,h=>fAs_ok r (fun l=>K (x :: l)) (fA_ok x (fun y=>fAs r fun l=>K (y :: l)) h)
end
def fB (ab:AB) (K:AB→Prop):Prop :=
 match ab with
 | .cells cs=>fAs cs fun l=>K (.cells l)
 | .row e n xs sh=>K (.row e n xs sh)
 | .map es=>K (.map es)
 | .pool b cs=>K (.pool b cs)
 | .obj o=>K (.obj o)
 | .obs o n cap=>K (.obs o n cap)
 | .isle lo n ok=>K (.isle lo n ok)
 | .dead=>K .dead
theorem fB_ok {ab:AB} {K:AB→Prop} (h:fB ab K):K ab:=by
 cases ab with
 | cells cs=>exact fAs_ok cs _ h
 | row e n xs sh=>exact h
 | map es=>exact h
 | pool b cs=>exact h
 | obj o=>exact h
 | obs o n cap=>exact h
 | isle lo n ok=>exact h
 | dead=>exact h
noncomputable def fL (xs:List AB):(List AB→Prop)→Prop :=
 List.rec (motive:=fun _=>(List AB→Prop)→Prop) (fun K=>K []) (fun x _ ih K=>fB x fun y=>ih fun l=>K (y :: l)) xs
theorem fL_ok:∀ {xs:List AB} {K:List AB→Prop},fL xs K→K xs
 | [],_,h=>h
 | x :: r,K,h=>fL_ok (xs:=r) (K:=fun l=>K (x :: l)) (fB_ok (show fB x fun y=>fL r fun l=>K (y :: l) from h))
def addK (i:Nat) (acc:List Nat) (K:List Nat→Prop):Prop:=bif memB i acc then K acc else K (acc++[i])
noncomputable def idsK (x:AV):List Nat→(List Nat→Prop)→Prop :=
 AV.rec (motive_1:=fun _=>List Nat→(List Nat→Prop)→Prop) (motive_2:=fun _=>List Nat→(List Nat→Prop)→Prop) (fun _ acc K=>K acc) (fun i acc K=>addK i acc K) (fun i _ acc K=>addK i acc K) (fun i _ _ acc K=>addK i acc K) (fun _ _ acc K=>K acc) (fun i acc K=>addK i acc K) (fun i _ _ acc K=>addK i acc K)
  (fun _ ih acc K=>ih acc K) (fun _ ih acc K=>ih acc K) (fun _ _ ih acc K=>ih acc K) (fun i _ acc K=>addK i acc K) (fun i _ acc K=>addK i acc K) (fun acc K=>K acc) (fun _ _ ihx ihr acc K=>ihx acc fun acc=>ihr acc K) x
noncomputable def idsKs (xs:List AV):List Nat→(List Nat→Prop)→Prop :=
 AV.rec_1 (motive_1:=fun _=>List Nat→(List Nat→Prop)→Prop) (motive_2:=fun _=>List Nat→(List Nat→Prop)→Prop) (fun _ acc K=>K acc) (fun i acc K=>addK i acc K) (fun i _ acc K=>addK i acc K) (fun i _ _ acc K=>addK i acc K) (fun _ _ acc K=>K acc) (fun i acc K=>addK i acc K) (fun i _ _ acc K=>addK i acc K)
  (fun _ ih acc K=>ih acc K) (fun _ ih acc K=>ih acc K) (fun _ _ ih acc K=>ih acc K) (fun i _ acc K=>addK i acc K) (fun i _ acc K=>addK i acc K) (fun acc K=>K acc) (fun _ _ ihx ihr acc K=>ihx acc fun acc=>ihr acc K) xs
noncomputable def fN (xs:List Nat):(List Nat→Prop)→Prop :=
 List.rec (motive:=fun _=>(List Nat→Prop)→Prop) (fun K=>K []) (fun x _ ih K=>litK x fun y=>ih fun l=>K (y :: l)) xs
theorem fN_ok:∀ {xs:List Nat} {K:List Nat→Prop},fN xs K→K xs
 | [],_,h=>h
 | x :: r,K,h=>fN_ok (xs:=r) (K:=fun l=>K (x :: l)) (litK_ok (show litK x fun y=>fN r fun l=>K (y :: l) from h))
noncomputable def reachK (fuel:Nat):List Nat→Nat→List AB→(List Nat→Prop)→Prop :=
 Nat.rec (motive:=fun _=>List Nat→Nat→List AB→(List Nat→Prop)→Prop) (fun _ _ _ _=>False) (fun _ ih ix k L K=>match ix[k]? with
  | none=>fN ix K
  | some i=>lgetK L i fun ab=>match ab with
    | .cells cs=>idsKs cs ix fun ix'=>ih ix' (k+1) L K
    | _=>ih ix (k+1) L K) fuel
theorem addK_ok {i:Nat} {acc:List Nat} {K:List Nat→Prop} (h:addK i acc K):∃ l,K l:=by unfold addK at h;cases hb:memB i acc<;>rw [hb] at h<;>exact ⟨_,h⟩
mutual
theorem idsK_ok:∀ (x:AV) (acc:List Nat) (K:List Nat→Prop),idsK x acc K→∃ l,K l
 | .d _,acc,K,h=>⟨_,h⟩
 | .arr i,acc,K,h=>addK_ok h
 | .ptr i _,acc,K,h=>addK_ok h
 | .ap i _ _,acc,K,h=>addK_ok h
 | .im _ _,acc,K,h=>⟨_,h⟩
 | .map i,acc,K,h=>addK_ok h
 | .mp i _ _,acc,K,h=>addK_ok h
 | .agg cs,acc,K,h=>idsKs_ok cs acc K h
 | .tup cs,acc,K,h=>idsKs_ok cs acc K h
 | .fn _ cs,acc,K,h=>idsKs_ok cs acc K h
 | .sub i _,acc,K,h=>addK_ok h
 | .isl i _,acc,K,h=>addK_ok h
theorem idsKs_ok:∀ (xs:List AV) (acc:List Nat) (K:List Nat→Prop),idsKs xs acc K→∃ l,K l
 | [],acc,K,h=>⟨_,h⟩
 | x :: r,acc,K,h=>by
   obtain ⟨l,h1⟩:=idsK_ok x acc (fun acc=>idsKs r acc K) h
   exact idsKs_ok r l K h1
end
theorem reachK_ok:∀ {fuel:Nat} {ix:List Nat} {k:Nat} {L:List AB} {K:List Nat→Prop},reachK fuel ix k L K→∃ l,K l
 | 0,_,_,_,_,h=>h.elim
 | fuel+1,ix,k,L,K,h=>by
   replace h:(match ix[k]? with
    | none=>fN ix K
    | some i=>lgetK L i fun ab=>match ab with
      | .cells cs=>idsKs cs ix fun ix'=>reachK fuel ix' (k+1) L K
      | _=>reachK fuel ix (k+1) L K):=h
   split at h
   ·exact ⟨_,fN_ok h⟩
   ·obtain ⟨ab,_,h1⟩:=lgetK_ok h
    cases ab with
    | cells cs =>
      obtain ⟨l,h2⟩:=idsKs_ok cs _ _ h1
      exact reachK_ok h2
    | _=>exact reachK_ok h1
def argK (x:AV) (L:List AB) (K:AV→List AB→Prop):Prop :=
 match x with
 | .arr j=>toDK (.arr j) L fun d L'=>K (.d d) L'
 | x=>K x L
noncomputable def argsK (xs:List AV):List AB→(List AV→List AB→Prop)→Prop :=
 List.rec (motive:=fun _=>List AB→(List AV→List AB→Prop)→Prop) (fun L K=>K [] L) (fun x _ ih L K=>argK x L fun y L1=>ih L1 fun l L2=>K (y :: l) L2) xs
theorem argK_ok {c:Ctx} (hc:c.wf) {E:Nat→Option Nat} {L:List AB} {w:World} (hs:SimH c E L w) {x:AV} {K:AV→List AB→Prop} (h:argK x L K) {v:Value} (hv:VR (rcOf c.M0 E L w) x v) :
  ∃ y L',K y L'∧SimH c E L' w∧(rcOf c.M0 E L w).le (rcOf c.M0 E L' w)∧VR (rcOf c.M0 E L' w) y v:=by
 cases x<;>first|exact ⟨_,L,h,hs,.refl _,hv⟩|skip
 case arr j =>
  have h':toDK (.arr j) L (fun d L'=>K (.d d) L'):=h
  obtain ⟨d,L',h1,_,h2,h3,h4⟩:=toDK_ok hc hs h' hv
  exact ⟨_,L',h1,h2,h3,by simp only [VR];exact h4⟩
theorem argsK_ok {c:Ctx} (hc:c.wf) {E:Nat→Option Nat} {w:World}:∀ {xs:List AV} {L:List AB} {K:List AV→List AB→Prop} {us:List Value},SimH c E L w→argsK xs L K→VRt (rcOf c.M0 E L w) xs us →
  ∃ ys L',K ys L'∧SimH c E L' w∧(rcOf c.M0 E L w).le (rcOf c.M0 E L' w)∧VRt (rcOf c.M0 E L' w) ys us
 | [],L,K,us,hs,h,hv=>⟨[],L,h,hs,.refl _,by simpa [VRt] using hv⟩
 | x :: xs,L,K,us,hs,h,hv=>by
   simp only [VRt] at hv
   obtain ⟨u,us',rfl,h1,h2⟩:=hv
   obtain ⟨y,L1,k1,k2,k3,k4⟩:=argK_ok hc hs (show argK x L fun y L1=>argsK xs L1 fun l L2=>K (y :: l) L2 from h) h1
   obtain ⟨ys,L2,m1,m2,m3,m4⟩:=argsK_ok hc (xs:=xs) k2 k1 (VRt.mono k3 _ _ h2)
   exact ⟨y :: ys,L2,m1,m2,k3.trans m3,by simp only [VRt];exact ⟨u,us',rfl,VR.mono m3 _ _ k4,m4⟩⟩
def unN (ix:List Nat) (base j:Nat):Option Nat :=
 match ix[j]? with
 | some i=>some i
 | none=>some (base+(j - ix.length))
def renL (rho:Nat→Option Nat):List AB→Option (List AB)
 | []=>some []
 | ab :: r=>match renAB rho ab with
   | some ab'=>match renL rho r with
     | some l=>some (ab' :: l)
     | none=>none
   | none=>none
def sets:List Nat→List AB→List AB→List AB
 | i :: ix,ab :: r,L=>sets ix r (L.set i ab)
 | _,_,L=>L
def mergeA (ix:List Nat) (Lo L:List AB):Option (List AB):=bif Nat.ble ix.length Lo.length then some (sets ix Lo L++Lo.drop ix.length) else none
theorem renL_ok {rho:Nat→Option Nat}:∀ {l l':List AB},renL rho l=some l'→l'.length=l.length∧∀ (j:Nat) (ab':AB),l'[j]? = some ab'→∃ ab,l[j]? = some ab∧renAB rho ab=some ab'
 | [],l',h=>by simp only [renL,Option.some.injEq] at h;subst h;exact ⟨rfl,by simp⟩
 | ab :: r,l',h=>by
   simp only [renL] at h
   split at h
   ·rename_i ab' hab
    split at h
    ·rename_i l2 hl2
     cases h
     obtain ⟨h1,h2⟩:=renL_ok hl2
     refine ⟨by simp [h1],fun j ab'' hj => ?_⟩
     cases j with
     | zero=>simp at hj;subst hj;exact ⟨ab,by simp,hab⟩
     | succ j=>simp only [List.getElem?_cons_succ] at hj ⊢;exact h2 j ab'' hj
    ·cases h
   ·cases h
theorem sets_length:∀ (ix:List Nat) (Lo L:List AB),(sets ix Lo L).length=L.length
 | [],_,L=>by simp [sets]
 | i :: ix,[],L=>by simp [sets]
 | i :: ix,ab :: r,L=>by simp only [sets];rw [sets_length];simp
theorem sets_other:∀ (ix:List Nat) (Lo L:List AB) (k:Nat),k∉ix→(sets ix Lo L)[k]? = L[k]?
 | [],_,L,k,_=>by simp [sets]
 | i :: ix,[],L,k,_=>by simp [sets]
 | i :: ix,ab :: r,L,k,h=>by
   simp only [List.mem_cons,not_or] at h
   simp only [sets]
   rw [sets_other ix r _ k h.2,getElem?_set_other h.1]
theorem sets_at:∀ (ix:List Nat) (Lo L:List AB),ix.Nodup→(∀ i∈ix,i<L.length)→ix.length≤Lo.length→∀ (j i:Nat),ix[j]? = some i→(sets ix Lo L)[i]? = Lo[j]?
 | [],_,L,_,_,_,j,i,h=>by simp at h
 | a :: ix,[],L,_,_,hl,j,i,h=>by simp at hl
 | a :: ix,ab :: r,L,hnd,hlt,hl,j,i,h=>by
   rw [List.nodup_cons] at hnd
   simp only [sets]
   cases j with
   | zero =>
     simp at h;subst h
     rw [sets_other ix r _ a hnd.1]
     have:=hlt a (by simp)
     rw [List.getElem?_set];simp [this]
   | succ j =>
     simp only [List.getElem?_cons_succ] at h ⊢
     exact sets_at ix r _ hnd.2 (fun i hi=>by simpa using hlt i (by simp [hi])) (by simpa using hl) j i h
def callRawK (P:Program) (f:FuncId) (avs1:List AV) (L1:List AB) (K:AV→List AB→Prop):Prop :=
 idsKs avs1 [] fun ix0=>reachK 64 ix0 0 L1 fun ix =>
 bif nodupB ix then
  match renAs (posN ix · 0) avs1,linA (posN ix · 0) L1 ix with
  | some avs2,some Lin=>fAs avs2 fun avs2=>fL Lin fun Lin=>ACalls P f avs2 Lin fun av Lout=>litK L1.length fun base =>
     match renL (unN ix base) Lout,renA (unN ix base) av with
     | some Lo,some av'=>match mergeA ix Lo L1 with
       | some L2=>fL L2 fun L2=>fA av' fun av'=>K av' L2
       | none=>False
     | _,_=>False
  | _,_=>False
 else False
def callK (P:Program) (f:FuncId) (avs:List AV) (L:List AB) (K:AV→List AB→Prop):Prop:=argsK avs L fun avs1 L1=>callRawK P f avs1 L1 K
end
end Go.Ab
