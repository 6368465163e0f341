/- NodeFormsCard: abstract runs. -/
import Derived.Test.YtgkhgapkfnkagaaGreatDoorNodeFormsCardLye12a
set_option linter.unusedVariables false
set_option linter.unusedSimpArgs false
namespace Go.Ab
noncomputable section
open Go.RowKit
inductive Mk where
 | var (t:TypeId)
 | lit (t:TypeId) (v:ByteArray)
def mkOne (t:TypeId) (len:Nat) (parts:List (Nat×Operand)):Option Mk :=
 match parts with
 | [(k,.const (.string v))]=>match Nat.beq len 1&&Nat.beq k 0 with
   | true=>some (.lit t v)
   | false=>none
 | _=>none
theorem mkOne_ok {t:TypeId} {len:Nat} {parts:List (Nat×Operand)} {mk:Mk} (h:mkOne t len parts=some mk):∃ v,mk = .lit t v∧len=1∧parts=[(0,.const (.string v))]:=by
 unfold mkOne at h
 split at h
 ·rename_i k v
  split at h
  ·rename_i hb
   cases h
   rw [Bool.and_eq_true] at hb
   exact ⟨v,rfl,Nat.eq_of_beq_eq_true hb.1,by rw [Nat.eq_of_beq_eq_true hb.2]⟩
  ·cases h
 ·cases h
def isAl (o:Oper):Option (Mk×Nat) :=
 match o.guard with
 | none=>match o.dst with
   | some d=>match o.op with
     | .alloc t=>some (.var t,d)
     | .buildSlice t len parts=>match mkOne t len parts.toList with
       | some mk=>some (mk,d)
       | none=>none
     | _=>none
   | none=>none
 | some _=>none
theorem isAl_ok {o:Oper} {mk:Mk} {d:Nat} (h:isAl o=some (mk,d)):o.guard=none∧o.dst=some d∧((∃ t,mk = .var t∧o.op = .alloc t)∨∃ t v,mk = .lit t v∧o.op = .buildSlice t 1 #[(0,.const (.string v))]):=by
 unfold isAl at h
 split at h
 ·rename_i h1
  split at h
  ·rename_i d' h2
   split at h
   ·rename_i t h3
    cases h
    exact ⟨h1,h2,.inl ⟨t,rfl,h3⟩⟩
   ·rename_i t len parts h3
    split at h
    ·rename_i mk' hm
     cases h
     obtain ⟨v,rfl,rfl,hp⟩:=mkOne_ok hm
     refine ⟨h1,h2,.inr ⟨t,v,rfl,?_⟩⟩
     rw [h3]
     congr 1
     rw [← Array.toArray_toList (xs:=parts),hp]
    ·cases h
   ·cases h
  ·cases h
 ·cases h
def mkAB (tt:TypeId→Option TI) (mk:Mk):Option AB :=
 match mk with
 | .var t=>match tt t with
   | some i=>match oneAV (avOf i.zero)||aggB (avOf i.zero) with
     | true=>some (.cells (cellsOf (avOf i.zero)))
     | false=>none
   | none=>none
 | .lit t v=>match tt t with
   | some i=>match sliceElem i.desc with
     | some e=>match tt e with
       | some ei=>match Nat.beq ei.size 1 with
         | true=>some (.row e 1 [[.str v]] false)
         | false=>none
       | none=>none
     | none=>none
   | none=>none
def mkAV (mk:Mk) (i:Nat):AV :=
 match mk with
 | .var _ => .ptr i 0
 | .lit _ _ => .arr i
def mkVal (mk:Mk) (b:Nat):Value :=
 match mk with
 | .var _ => .pointer (some ⟨b,0,none⟩)
 | .lit _ _ => .slice (some ⟨b,0,none⟩) 1 1
structure Fits (mk:Mk) (ab:AB) (obj:Obj):Prop where
 bx:ab.boxes=[]
 br:∀ (b:Nat) (M:MZ) (E:Nat→Option Nat) (L:List AB) (w:World),w.heap[b]? = some obj→BR (rcOf M E L w) w (some b) ab
 vr:∀ (b:Nat) (M:MZ) (E:Nat→Option Nat) (L:List AB) (w:World) (n:Nat),L[n]? = some ab→E n=some b→w.heap[b]? = some obj→VR (rcOf M E L w) (mkAV mk n) (mkVal mk b)
theorem zero_cells {i:TI} (hb:(oneAV (avOf i.zero)||aggB (avOf i.zero))=true) (M:MZ) (E:Nat→Option Nat) (L:List AB) (w:World):VRs (rcOf M E L w) (cellsOf (avOf i.zero)) i.zero.cells.toList:=by
 refine cellsOf_ok ?_ (VR_avOf _ i.zero)
 generalize avOf i.zero=x at hb
 cases x with
 | agg cs=>exact .inr ⟨_,rfl⟩
 | tup cs=>cases hb
 | d x =>
   cases x with
   | any=>cases hb
   | _=>exact .inl (by simp [cellsOf])
 | _=>exact .inl (by simp [cellsOf])
theorem set_one (f:Nat→Value) (v:Value):((Array.range 1).map f).setIfInBounds 0 v = #[v]:=by
 apply Array.ext (by simp)
 intro i h1 h2
 simp at h1
 subst h1
 simp
theorem mk_run {P:Program} {tt:TypeId→Option TI} (ht:TTok P tt) {o:Oper} {mk:Mk} {d:Nat} (h:isAl o=some (mk,d)) {ab:AB} (hab:mkAB tt mk=some ab) :
  ∃ obj,Fits mk ab obj∧∀ (a:Act) (w:World),(execOp a.eval o).run P w = .ok (.value (mkVal mk w.heap.size)) (w.alloc obj):=by
 obtain ⟨h1,h2,⟨t,rfl,h3⟩|⟨t,v,rfl,h3⟩⟩:=isAl_ok h
 ·unfold mkAB at hab
  simp only at hab
  split at hab
  ·rename_i i hi
   split at hab
   ·rename_i hb
    cases hab
    obtain ⟨hu,info,k1,k2,k3,k4⟩:=ht t i hi
    refine ⟨.cells i.zero.cells t,⟨rfl,fun b M E L w hh=>⟨b,_,t,rfl,hh,zero_cells hb M E L w⟩,fun b M E L w n hl he hh => ?_⟩,fun a w => ?_⟩
    ·simp only [mkAV,mkVal,VR]
     exact ⟨b,⟨_,hl,rfl,he⟩,rfl⟩
    ·have:(Instr.alloc t true (.tuple #[])).run P w = .ok (.pointer (some ⟨w.heap.size,0,none⟩)) (w.alloc (.cells i.zero.cells t)):=by
      simp [Instr.alloc,zeroValue,typeInfo,k1,k2,newVar,newRow]
     simp [execOp,h3,this,mkVal]
   ·cases hab
  ·cases hab
 ·unfold mkAB at hab
  simp only at hab
  split at hab
  ·rename_i i hi
   split at hab
   ·rename_i e he
    split at hab
    ·rename_i ei hei
     split at hab
     ·rename_i hb
      cases hab
      have hs1:=Nat.eq_of_beq_eq_true hb
      have hd:i.desc = .slice e:=by
       revert he
       cases i.desc<;>simp [sliceElem]
      obtain ⟨hut,_⟩:=ht t i hi
      rw [hd] at hut
      obtain ⟨_,info,k1,k2,k3,k4⟩:=ht e ei hei
      refine ⟨.cells #[.string v] e,⟨rfl,fun b M E L w hh=>⟨⟨by omega,(ht.sz e ei hei).trans hs1⟩,by simp,1,#[.string v],hh,rfl,by simp,by simp [maxLen],?_⟩,fun b M E L w n hl he hh => ?_⟩,fun a w => ?_⟩
      ·show VDs _ [.str v] [.string v]
       simp only [VDs,Cs,VD]
       exact ⟨.string v,[],rfl,rfl,rfl,rfl⟩
      ·simp only [mkAV,mkVal,VR]
       refine ⟨_,hl,?_⟩
       simp only [arRel,he]
       exact ⟨1,#[.string v],by simp,hh,rfl⟩
      ·have:(Instr.buildSlice t 1 #[(0,.string v)]).run P w = .ok (.slice (some ⟨w.heap.size,0,none⟩) 1 1) (w.alloc (.cells #[.string v] e)):=by
        simp [Instr.buildSlice,run_underlying hut,run_sizeOf k1,k3,hs1,zeroValue,typeInfo,k1,k2,newRow,Instr.fill,Value.cells]
        rw [set_one]
       simp [execOp,h3,Act.eval,this,mkVal]
     ·cases hab
    ·cases hab
   ·cases hab
  ·cases hab
def fndA (full:List Oper) (es:List Nat) (d:Nat) (anc:List Nat):Option (Nat×Mk) :=
 List.rec (motive:=fun _=>Option (Nat×Mk)) none (fun m _ ih=>match nthO full m with
  | some om=>match isAl om with
    | some (t,d')=>match Nat.beq d' d && !(memB m es) with
      | true=>some (m,t)
      | false=>ih
    | none=>ih
  | none=>ih) anc
theorem fndA_ok {full:List Oper} {es:List Nat} {d:Nat}:∀ {anc:List Nat} {m:Nat} {t:Mk},fndA full es d anc=some (m,t)→m∈anc∧m∉es∧∃ om,full[m]? = some om∧isAl om=some (t,d)
 | [],m,t,h=>by cases (show (none:Option (Nat×Mk))=some (m,t) from h)
 | x :: r,m,t,h=>by
   replace h:(match nthO full x with
    | some om=>match isAl om with
      | some (t,d')=>match Nat.beq d' d && !(memB x es) with
        | true=>some (x,t)
        | false=>fndA full es d r
      | none=>fndA full es d r
    | none=>fndA full es d r)=some (m,t):=h
   have back:fndA full es d r=some (m,t)→m∈x :: r∧m∉es∧∃ om,full[m]? = some om∧isAl om=some (t,d):=fun h=>by
    obtain ⟨h1,h2⟩:=fndA_ok h
    exact ⟨List.mem_cons_of_mem _ h1,h2⟩
   split at h
   ·rename_i om hom
    rw [nthO_get] at hom
    split at h
    ·rename_i t' d' hal
     split at h
     ·rename_i hb
      cases h
      simp only [Bool.and_eq_true,Bool.not_eq_true'] at hb
      refine ⟨List.mem_cons_self,memB_ok hb.2,om,hom,?_⟩
      rw [hal,Nat.eq_of_beq_eq_true hb.1]
     ·exact back h
    ·exact back h
   ·exact back h
def adS (o:Oper):Option Nat :=
 match o.op with
 | .store _ x _=>match x with
   | .tmp d=>some d
   | _=>none
 | .call c=>match c.args.toList with
   | x :: _=>match x with
     | .tmp d=>some d
     | _=>none
   | []=>none
 | _=>none
def adO (full:List Oper) (anc es:List Nat) (o:Oper):Option (Nat×Mk×Nat) :=
 match adS o with
 | some d=>match fndA full es d anc with
   | some (m,t)=>some (m,t,d)
   | none=>none
 | none=>none
theorem adO_ok {full:List Oper} {anc es:List Nat} {o:Oper} {m:Nat} {t:Mk} {d:Nat} (h:adO full anc es o=some (m,t,d)):m∈anc∧m∉es∧∃ om,full[m]? = some om∧isAl om=some (t,d):=by
 unfold adO at h
 split at h
 ·split at h
  ·rename_i hf
   cases h
   exact fndA_ok hf
  ·cases h
 ·cases h
def adD (full:List Oper) (d:Nat) (D:PD):Bool :=
 List.rec (motive:=fun _=>Bool) true (fun p _ ih=>match nthO full p.1 with
  | some o=>match memB d (lookS full o)||eqO o.dst (some d) with
    | true=>false
    | false=>ih
  | none=>false) D
theorem adD_ok {full:List Oper} {d:Nat}:∀ {D:PD},adD full d D=true→∀ p∈D,∀ o,full[p.1]? = some o→d∉lookS full o∧o.dst≠some d
 | [],_,p,hp,_,_=>by cases hp
 | q :: r,h,p,hp,o,ho=>by
   replace h:(match nthO full q.1 with
    | some o=>match memB d (lookS full o)||eqO o.dst (some d) with
      | true=>false
      | false=>adD full d r
    | none=>false)=true:=h
   split at h
   ·rename_i oq hoq
    rw [nthO_get] at hoq
    split at h
    ·cases h
    ·rename_i hb
     rcases List.mem_cons.1 hp with rfl|hp
     ·rw [hoq] at ho
      cases ho
      simp only [Bool.or_eq_false_iff] at hb
      refine ⟨memB_ok hb.1,fun e => ?_⟩
      rw [e] at hb
      simp [eqO] at hb
     ·exact adD_ok h p hp o ho
   ·cases h
section
variable (P:Program) (tt:TypeId→Option TI) (fo:FuncId→Bool) (n:Nat) (X:Oper→AF→List AB→(AV→List AB→Prop)→Prop)
def rOpsG (full:List Oper):List Nat→AF→List AB→PD→(AF→PD→Prop)→Prop
 | [],F,_,D,K=>K F D
 | i :: r,F,L,D,K=>match nthO full i with
   | some o=>bif dstOk n o.dst then (match isAl o with
     | some (mk,_)=>(∃ ab,mkAB tt mk=some ab)∧rOpsG full r (fput F o.dst (.d .any)) L D K
     | none=>guardK full o F (fun F=>∃ v,Det P tt fo o F L v∧rOpsG full r (fput F o.dst v) L ((i,v) :: D) K) (fun F=>rOpsG full r (fput F o.dst (.tup [])) L ((i,.tup []) :: D) K)) else False
   | none=>False
def adK (full:List Oper) (anc es:List Nat) (o:Oper) (F:AF) (L:List AB) (D:PD) (C:AF→List AB→Prop):Prop :=
 match adO full anc es o with
 | none=>C F L
 | some (_,mk,d)=>match fget F d with
   | .d .any=>adD full d D=true∧∃ ab,mkAB tt mk=some ab∧C (fput F (some d) (mkAV mk L.length)) (L++[ab])
   | _=>C F L
def eOpsX (full:List Oper) (A:List (List Nat)) (es:List Nat):List (Nat×List Nat)→AF→List AB→PD→(AF→List AB→Prop)→Prop
 | [],F,L,_,K=>K F L
 | (e,rs) :: rest,F,L,D,K=>match nthO full e with
   | some o=>bif dstOk n o.dst then adK tt full (nthL A e) es o F L D fun F L=>guardK full o F
      (fun F=>X o F L fun v L'=>keepD P tt fo full (nthL A e) (fput F o.dst v) L' D fun D=>rOpsG P tt fo n full rs (fput F o.dst v) L' D fun F D=>eOpsX full A es rest F L' D K)
      (fun F=>keepD P tt fo full (nthL A e) (fput F o.dst (.tup [])) L D fun D=>rOpsG P tt fo n full rs (fput F o.dst (.tup [])) L D fun F D=>eOpsX full A es rest F L D K) else False
   | none=>False
end
section
variable {P:Program} {tt:TypeId→Option TI} {fo:FuncId→Bool} {n:Nat}
theorem wanted_of {full:List Oper} {o:Oper} {c:Ctx} {E:Nat→Option Nat} {F:AF} {L:List AB} {a:Act} {w:World} (hs:Sim c E F L a w) {b:Bool} (hg:GR full o F b):Region.wanted o (yielded full.toArray a.tmps)=b:=by
 unfold GR at hg
 unfold Region.wanted
 split at hg
 ·rename_i hn';rw [hn',hg]
 ·rename_i j want hn'
  obtain ⟨s,h1,⟨t,h2,rfl⟩|⟨h2,rfl⟩⟩:=hg
  rotate_left
  ·rw [hn']
   obtain ⟨og,hog,hogd⟩:=nthDst_ok h1
   have hb:=hs.slots s
   rw [h2] at hb
   simp only [VR,VRt] at hb
   obtain ⟨us,hb1,hb2⟩:=hb
   have hslot:yielded full.toArray a.tmps j=none:=by
    unfold yielded
    have:full.toArray[j]? = some og:=by simpa using hog
    simp only [this,Option.bind_some,hogd]
    by_cases hlt:s<a.tmps.size
    ·have:a.tmps[s]? = some (a.tmps.getD s undef):=by simp [hlt]
     rw [this,hb1]
    ·have:a.tmps[s]? = none:=by simp [Nat.le_of_not_lt hlt]
     rw [this]
   simp only [hslot]
   rfl
  rw [hn']
  obtain ⟨og,hog,hogd⟩:=nthDst_ok h1
  have hb:=hs.slots s
  rw [h2] at hb
  simp only [VR,VD] at hb
  have hslot:yielded full.toArray a.tmps j=some t:=by
   unfold yielded
   have:full.toArray[j]? = some og:=by simpa using hog
   simp only [this,Option.bind_some,hogd]
   by_cases hlt:s<a.tmps.size
   ·have:a.tmps[s]? = some (a.tmps.getD s undef):=by simp [hlt]
    rw [this,hb]
   ·exfalso
    have:a.tmps.getD s undef=undef:=by simp [Nat.le_of_not_lt hlt]
    rw [this] at hb
    cases hb
  simp only [hslot]
  cases t<;>cases want<;>rfl
theorem gstep2 {full:List Oper} {i:Nat} {o:Oper} (hi:full[i]? = some o) {c:Ctx} (hn:∀ x,o.dst=some x→x<c.n) {E:Nat→Option Nat} {F:AF} {L:List AB} {a:Act} {w:World} (hs:Sim c E F L a w) {b:Bool} (hg:GR full o F b)
  {Kop:AV→List AB→Prop} {K':Act→World→Prop} {Q:Exit→Act→World→Prop} (hrun:b=true→OpRes P o c F L a w Kop)
  (hskip:b=false→K' (a.put o.dst undef) w)
  (hK:∀ av L' E' v w',Kop av L'→Sim c E' (fput F o.dst av) L' (a.put o.dst v) w'→K' (a.put o.dst v) w'):wpOp P full.toArray Q i K' a w:=by
 unfold wpOp
 have ho:full.toArray[i]? = some o:=by simpa using hi
 rw [ho]
 simp only
 rw [wanted_of hs hg]
 cases b with
 | false=>exact hskip rfl
 | true =>
   refine .inl ?_
   unfold Oper.wp
   rcases hrun rfl with ⟨v,w',av,hr,E',L',h1,h2,h3⟩|⟨w',av,hr,E',L',h1,h2,h3⟩|⟨f,vs,w',hr,hcall⟩
   ·rw [hr];exact hK av L' E' v w' h1 (h2.put o.dst av v hn h3)
   ·rw [hr];exact hK av L' E' undef w' h1 (h2.put o.dst av undef hn h3)
   ·rw [hr]
    refine hcall.mono ?_
    rintro e w'' ⟨v,av,rfl,E',L',h1,h2,h3⟩
    exact hK av L' E' v w'' h1 (h2.put o.dst av v hn h3)
theorem alstep {full:List Oper} {i:Nat} {o:Oper} (hi:full[i]? = some o) {mk:Mk} {d:Nat} (hal:isAl o=some (mk,d)) {obj:Obj} {a:Act} {w:World} (hr:(execOp a.eval o).run P w = .ok (.value (mkVal mk w.heap.size)) (w.alloc obj)) {K':Act→World→Prop} {Q:Exit→Act→World→Prop}
  (hK:K' (a.put (some d) (mkVal mk w.heap.size)) (w.alloc obj)):wpOp P full.toArray Q i K' a w:=by
 obtain ⟨h1,h2,_⟩:=isAl_ok hal
 unfold wpOp
 have ho:full.toArray[i]? = some o:=by simpa using hi
 rw [ho]
 simp only
 have hw:Region.wanted o (yielded full.toArray a.tmps)=true:=by
  unfold Region.wanted
  rw [h1]
 rw [hw]
 refine .inl ?_
 unfold Oper.wp
 rw [hr]
 show K' (a.put o.dst _) _
 rw [h2]
 exact hK
def PA (tt:TypeId→Option TI) (n:Nat) (full:List Oper) (es:List Nat) (F:AF) (i:Nat):Prop :=
 ∃ o t d ab,full[i]? = some o∧isAl o=some (t,d)∧mkAB tt t=some ab∧d<n∧i∉es∧fget F d = .d .any
def GsOk (tt:TypeId→Option TI) (full:List Oper) (pend pre:List Nat) (gs:List Gh) (a:Act):Prop :=
 ∀ g∈gs,g.i∈pre∧g.i∉pend∧∃ o t d ab,full[g.i]? = some o∧isAl o=some (t,d)∧mkAB tt t=some ab∧Fits t ab g.o∧a.tmps.getD d undef=mkVal t g.b
def GhI (full:List Oper) (es pend pre:List Nat) (F:AF) (gs:List Gh):Prop :=
 ∀ m o t d,full[m]? = some o→isAl o=some (t,d)→m∈pre→m∉es→m∉pend→fget F d = .d .any→∃ g∈gs,g.i=m
structure DInvX (X:Oper→AF→List AB→(AV→List AB→Prop)→Prop) (P:Program) (tt:TypeId→Option TI) (fo:FuncId→Bool) (n:Nat) (c:Ctx) (full:List Oper) (A:List (List Nat)) (es:List Nat) (K:AF→List AB→Prop)
  (ph:List (Nat×List Nat)) (pend pre:List Nat) (F:AF) (L:List AB) (D:PD) (listed:Array Bool) (a:Act) (w:World):Prop where
 size:listed.size=full.length
 un:∀ i,listed.getD i true=false↔(i∈pend∨i∈later ph)
 down:∀ j o,full[j]? = some o→j∉pend→j∉later ph→∀ m∈dirs o,m∉pend∧m∉later ph
 sim:∃ gs c2 E,Link c gs c2∧Sim c2 E (mask (dstsOf full pend) F) L a w∧GsOk tt full pend pre gs a∧GhI full es pend pre F gs
 facts:∀ p∈D,DF P tt fo full A es pre F L p
 pendD:∀ i∈pend,PA tt n full es F i∨∃ v o,(i,v)∈D∧full[i]? = some o∧dstOk n o.dst=true∧isAl o=none
 look:LooksP full A es pre (later ph)
 nd:(pend++later ph).Nodup
 dis:∀ j∈later ph,j∉pre
 cov:∀ j,j<full.length→j∈pre∨j∈later ph
 sub:∀ j∈pend,j∈pre
 ine:∀ q∈ph,q.1∈es
 chain:∃ p,ChainP A es p ph
 tree:eOpsX P tt fo n X full A es ph F L D K
theorem DInvX.pendes {X:Oper→AF→List AB→(AV→List AB→Prop)→Prop} {c:Ctx} {full:List Oper} {A:List (List Nat)} {es:List Nat} {K:AF→List AB→Prop} {ph:List (Nat×List Nat)} {pend pre:List Nat} {F:AF} {L:List AB} {D:PD} {listed:Array Bool} {a:Act} {w:World}
  (h:DInvX X P tt fo n c full A es K ph pend pre F L D listed a w):∀ i∈pend,i∉es:=fun i hi=>by
 rcases h.pendD i hi with ⟨_,_,_,_,_,_,_,_,h5,_⟩|⟨v,o,h1,_⟩
 ·exact h5
 ·obtain ⟨_,_,_,_,_,h5,_⟩:=h.facts _ h1
  exact h5
theorem DF.avoid {full:List Oper} {A:List (List Nat)} {es pre:List Nat} {F:AF} {L:List AB} {p:Nat×AV} (h:DF P tt fo full A es pre F L p) {d:Nat} (hd:∀ o,full[p.1]? = some o→d∉lookS full o∧o.dst≠some d) (v:AV):DF P tt fo full A es pre (fput F (some d) v) L p:=by
 obtain ⟨op,h1,h2,h3,h4,h5,h6⟩:=h
 obtain ⟨d1,d2⟩:=hd op h1
 refine ⟨op,h1,gdet_congr (fun s hs=>(fput_other (fun e=>d1 (by cases e;exact hs)) v).symm) h2,fun d' hd' => ?_,h4,h5,h6⟩
 rw [fput_other (fun e=>d2 (by cases e;exact hd'))]
 exact h3 d' hd'
theorem rOpsG_ok {full:List Oper} {A:List (List Nat)} {es rest:List Nat} (hdst:DstP full) {L:List AB} {K:AF→PD→Prop}:∀ {rs pre:List Nat} {F:AF} {D:PD},rOpsG P tt fo n full rs F L D K →
  LooksP full A es pre (rs++rest)→(rs++rest).Nodup→(∀ j∈rs++rest,j∉pre)→(∀ r∈rs,r∉es)→(∀ p∈D,DF P tt fo full A es pre F L p) →
  ∃ F' D' pre',K F' D'∧LooksP full A es pre' rest∧(∀ j∈rest,j∉pre')∧(∀ p∈D',DF P tt fo full A es pre' F' L p)∧(∀ i∈rs,PA tt n full es F' i∨∃ v o,(i,v)∈D'∧full[i]? = some o∧dstOk n o.dst=true∧isAl o=none)∧(∀ p∈D,p∈D')∧(∀ s,s∉dstsOf full rs→fget F' s=fget F s)∧(∀ j,j∈pre'↔(j∈rs∨j∈pre))
 | [],pre,F,D,h,hlook,_,hdis,_,hD=>⟨F,D,pre,h,hlook,hdis,hD,by simp,fun _ h=>h,fun _ _=>rfl,fun j=>by simp⟩
 | i :: r,pre,F,D,h,hlook,hnd,hdis,hes,hD=>by
   simp only [rOpsG,nthO_get] at h
   split at h
   ·rename_i o ho
    cases hdk:dstOk n o.dst with
    | false=>rw [hdk] at h;exact h.elim
    | true =>
      rw [hdk] at h
      simp only [cond_true] at h
      rw [List.cons_append,List.nodup_cons] at hnd
      have hipre:i∉pre:=hdis i (by simp)
      have hies:i∉es:=hes i (by simp)
      have hl:=hlook.1 o ho
      have hown:∀ s∈lookS full o,o.dst≠some s:=by
       intro s hs hd
       rcases hl s hs i o ho hd with ⟨a,_⟩|⟨a,_⟩
       ·exact hipre a
       ·exact a rfl
      have hdis':∀ j∈r++rest,j∉i :: pre:=fun j hj=>by
       simp only [List.mem_cons,not_or]
       exact ⟨fun e=>hnd.1 (by rw [← e];exact hj),hdis j (List.mem_cons_of_mem _ hj)⟩
      have hes':∀ x∈r,x∉es:=fun x hx=>hes x (List.mem_cons_of_mem _ hx)
      have hpre':∀ {pre':List Nat},(∀ j,j∈pre'↔(j∈r∨j∈i :: pre))→∀ j,j∈pre'↔(j∈i :: r∨j∈pre):=fun h j=>by
       rw [h j,List.mem_cons,List.mem_cons]
       constructor
       ·rintro (h|h|h)
        ·exact .inl (.inr h)
        ·exact .inl (.inl h)
        ·exact .inr h
       ·rintro ((h|h)|h)
        ·exact .inr (.inl h)
        ·exact .inl h
        ·exact .inr (.inr h)
      have hout:∀ s,s∉dstsOf full (i :: r)→s∉dstsOf full r∧o.dst≠some s:=fun s hs =>
       ⟨fun hm=>hs (by
         obtain ⟨x,hx,y⟩:=mem_dstsOf.1 hm
         exact mem_dstsOf.2 ⟨x,List.mem_cons_of_mem _ hx,y⟩),fun hd=>hs (mem_dstsOf.2 ⟨i,by simp,o,ho,hd⟩)⟩
      split at h
      ·rename_i t d hal
       obtain ⟨⟨ab,hab⟩,h⟩:=h
       have a3:=(isAl_ok hal).2.1
       have hD1:∀ p∈D,DF P tt fo full A es (i :: pre) (fput F o.dst (.d .any)) L p:=fun p hp=>(hD p hp).put hdst ho hipre (.inl hies) _ (fun x hx=>List.mem_cons_of_mem _ hx)
       obtain ⟨F',D',pre',k1,k2,k2b,k3,k4,k5,k6,k7⟩:=rOpsG_ok hdst h hlook.2 hnd.2 hdis' hes' hD1
       refine ⟨F',D',pre',k1,k2,k2b,k3,?_,k5,?_,hpre' k7⟩
       ·intro j hj
        rcases List.mem_cons.1 hj with rfl|hj
        ·refine .inl ⟨o,t,d,ab,ho,hal,hab,dstOk_ok hdk d a3,hies,?_⟩
         have:d∉dstsOf full r:=fun hm=>by
          obtain ⟨x,hx,ox,hox,hxd⟩:=mem_dstsOf.1 hm
          have:=hdst x j ox o d hox ho hxd a3
          subst this
          exact hnd.1 (List.mem_append_left _ hx)
         rw [k6 d this,fput_self a3]
        ·exact k4 j hj
       ·intro s hs
        obtain ⟨h1,h2⟩:=hout s hs
        rw [k6 s h1,fput_other h2]
      ·rename_i hal
       obtain ⟨F1,b,hF1,hgr,hrun,hskip⟩:=guardK_ok h
       have hval:∃ v,gdet P tt fo full o F1 L v∧rOpsG P tt fo n full r (fput F1 o.dst v) L ((i,v) :: D) K:=by
        cases b with
        | true=>obtain ⟨v,h1,h2⟩:=hrun rfl;exact ⟨v,gdet_of hgr (fun _=>h1) (by simp),h2⟩
        | false=>exact ⟨_,gdet_of hgr (by simp) (fun _=>rfl),hskip rfl⟩
       obtain ⟨v,hg,hr⟩:=hval
       have hD1:∀ p∈(i,v) :: D,DF P tt fo full A es (i :: pre) (fput F1 o.dst v) L p:=by
        intro p hp
        rcases List.mem_cons.1 hp with rfl|hp
        ·refine ⟨o,ho,gdet_congr (fun s hs=>(fput_other (hown s hs) v).symm) hg,fun d hd=>fput_self hd v,by simp,hies,?_⟩
         intro s hs k ok hk hkd
         rcases hl s hs k ok hk hkd with ⟨a,b⟩|⟨_,a,b⟩
         ·exact .inl ⟨List.mem_cons_of_mem _ a,b⟩
         ·exact .inr ⟨a,b⟩
        ·exact ((hD p hp).frame hF1).put hdst ho hipre (.inl hies) v (fun x hx=>List.mem_cons_of_mem _ hx)
       obtain ⟨F',D',pre',k1,k2,k2b,k3,k4,k5,k6,k7⟩:=rOpsG_ok hdst hr hlook.2 hnd.2 hdis' hes' hD1
       refine ⟨F',D',pre',k1,k2,k2b,k3,?_,fun p hp=>k5 p (List.mem_cons_of_mem _ hp),?_,hpre' k7⟩
       ·intro j hj
        rcases List.mem_cons.1 hj with rfl|hj
        ·exact .inr ⟨v,o,k5 _ (by simp),ho,hdk,hal⟩
        ·exact k4 j hj
       ·intro s hs
        obtain ⟨h1,h2⟩:=hout s hs
        rw [k6 s h1,fput_other h2,hF1]
   ·exact h.elim
theorem put_getD {a:Act} {d:Option Nat} {v:Value} {s:Nat} (h:d≠some s):(a.put d v).tmps.getD s undef=a.tmps.getD s undef:=by
 cases d with
 | none=>rfl
 | some d =>
   have hs:d≠s:=fun e=>h (by rw [e])
   show (a.tmps.setIfInBounds d v).getD s undef=_
   simp [Array.getElem?_setIfInBounds_ne hs]
theorem gs_inj {gs:List Gh} (h:(gs.map (·.b)).Nodup):∀ {g g':Gh},g∈gs→g'∈gs→g.b=g'.b→g=g':=by
 induction gs with
 | nil=>intro g g' hg;cases hg
 | cons x r ih =>
   intro g g' hg hg' e
   simp only [List.map_cons,List.nodup_cons] at h
   rcases List.mem_cons.1 hg with rfl|h1<;>rcases List.mem_cons.1 hg' with rfl|h2
   ·rfl
   ·exact absurd (List.mem_map.2 ⟨g',h2,e.symm⟩) h.1
   ·exact absurd (List.mem_map.2 ⟨g,h1,e⟩) h.1
   ·exact ih h.2 h1 h2 e
theorem draw_anyX {X:Oper→AF→List AB→(AV→List AB→Prop)→Prop} (hX:∀ {full:List Oper} {o:Oper} {F F':AF} {L:List AB} {K:AV→List AB→Prop} {c:Ctx} {E:Nat→Option Nat} {a:Act} {w:World},c.wf→(∀ s∈lookS full o,fget F s=fget F' s)→X o F L K→Sim c E F' L a w→OpRes P o c F' L a w K) (ht:TTok P tt) (hz:ZOok tt) (hfo:FOok P fo) {full:List Oper} {A:List (List Nat)} {es:List Nat} (hp:PlanP full A es) {c:Ctx} (hc:c.wf) (hcn:c.n=n) {K:AF→List AB→Prop} {Q:Exit→Act→World→Prop}
  (hq:∀ E F L a w,K F L→Sim c E F L a w→Q .normal a w):∀ (fuel:Nat) (ph:List (Nat×List Nat)) (pend pre:List Nat) (F:AF) (L:List AB) (D:PD) (listed:Array Bool) (a:Act) (w:World),
  DInvX X P tt fo n c full A es K ph pend pre F L D listed a w→fuel=pend.length+(later ph).length→wpAny P .any full.toArray Q fuel listed a w:=by
 intro fuel
 induction fuel with
 | zero =>
   intro ph pend pre F L D listed a w h hf
   have h1:pend=[]:=List.length_eq_zero_iff.1 (by omega)
   have h2:later ph=[]:=List.length_eq_zero_iff.1 (by omega)
   have h3:ph=[]:=by
    cases ph with
    | nil=>rfl
    | cons x r=>obtain ⟨e,rs⟩:=x;simp [later] at h2
   subst h1 h3
   refine ⟨?_,?_⟩
   ·rw [List.eq_nil_iff_forall_not_mem]
    intro j hj
    have:=(h.un j).1 (mem_ready.1 hj).1
    simp [later] at this
   ·obtain ⟨gs,c2,E,hk,hs,_,_⟩:=h.sim
    have ht:=h.tree
    simp only [eOpsX] at ht
    exact hq E F L a w ht (hk.out hs)
 | succ fuel ih =>
   intro ph pend pre F L D listed a w h hf
   -- what is not done
   have hlt:∀ j,(j∈pend∨j∈later ph)→∃ o,full[j]? = some o:=by
    intro j hj
    have h1:=(h.un j).2 hj
    rcases Nat.lt_or_ge j listed.size with h2|h2
    ·rw [h.size] at h2;exact ⟨full[j],by simp [h2]⟩
    ·simp [Nat.not_lt.2 h2] at h1
   have hedge:∀ (o:Oper),(∀ e∈o.after,Region.binds .any e=true→listed.getD e.on false=true)↔(∀ m∈dirs o,m<full.length∧m∉pend∧m∉later ph):=by
    intro o
    have one:∀ m,listed.getD m false=true↔(m<full.length∧m∉pend∧m∉later ph):=by
     intro m
     have hu:=h.un m
     rw [← h.size]
     rcases Nat.lt_or_ge m listed.size with h2|h2
     ·simp only [Array.getD_eq_getD_getElem?,Array.getElem?_eq_getElem h2,Option.getD_some] at hu ⊢
      cases hb:listed[m] with
      | true=>rw [hb] at hu;simp at hu;simp [h2,hu]
      | false=>rw [hb] at hu;simp at hu;simp;intro _ hn;exact hu.resolve_left hn
     ·simp [Array.getD_eq_getD_getElem?,Array.getElem?_eq_none h2,Nat.not_lt.2 h2]
    constructor
    ·intro h1 m hm
     obtain ⟨e,he,hb,rfl⟩:=dirs_mem.1 hm
     exact (one _).1 (h1 e he hb)
    ·intro h1 e he hb
     exact (one _).2 (h1 _ (dirs_mem.2 ⟨e,he,hb,rfl⟩))
   have hready:∀ j,j∈Region.ready .any full.toArray listed↔(j∈pend∨j∈later ph)∧∃ o,full[j]? = some o∧∀ m∈dirs o,m<full.length∧m∉pend∧m∉later ph:=by
    intro j
    rw [mem_ready,h.un]
    constructor
    ·rintro ⟨h1,o,h2,h3⟩
     exact ⟨h1,o,by simpa using h2,(hedge o).1 h3⟩
    ·rintro ⟨h1,o,h2,h3⟩
     exact ⟨h1,o,by simpa using h2,(hedge o).2 h3⟩
   refine ⟨?_,?_⟩
   · -- something may go
     intro h0
     exfalso
     have none:∀ j,¬(j∈pend∨j∈later ph):=by
      intro j
      induction j using Nat.strongRecOn with
      | _ j ihj =>
        intro hj
        obtain ⟨o,ho⟩:=hlt j hj
        have:j∈Region.ready .any full.toArray listed:=(hready j).2 ⟨hj,o,ho,fun m hm=>by
         have hmj:=hp.low j o ho m hm
         have hjl:j<full.length:=(List.getElem?_eq_some_iff.1 ho).1
         have:=ihj m hmj
         simp only [not_or] at this
         exact ⟨by omega,this⟩⟩
        rw [h0] at this
        cases this
     have:pend++later ph=[]:=List.eq_nil_iff_forall_not_mem.2 fun j hj=>none j (List.mem_append.1 hj)
     have:=congrArg List.length this
     rw [List.length_append,List.length_nil] at this
     omega
   ·intro i hi
    obtain ⟨hun,o,ho,hdirs⟩:=(hready i).1 hi
    have hdown:∀ (j:Nat) o,full[j]? = some o→¬(j∈pend∨j∈later ph)→∀ m∈dirs o,¬(m∈pend∨m∈later ph):=by
     intro j o ho hj m hm
     simp only [not_or] at hj ⊢
     exact h.down j o ho hj.1 hj.2 m hm
    have hanc:=anc_listed hp hdown i o ho (fun m hm=>by have:=hdirs m hm;simp only [not_or];exact this.2)
    obtain ⟨gs,c2,E,hk,hs,hgs,hgi⟩:=h.sim
    have hc2:=hk.wf
    have hcn2:c2.n=n:=hk.n.trans hcn
    have hisz:i<listed.size:=by rw [h.size];exact (List.getElem?_eq_some_iff.1 ho).1
    have hset:∀ j,(listed.setIfInBounds i true).getD j true=false↔j≠i∧(j∈pend∨j∈later ph):=by
     intro j
     by_cases hji:i=j
     ·subst hji
      simp [hisz]
     ·rw [getD_set_ne true hji,h.un]
      simp [Ne.symm hji]
    by_cases hpend:i∈pend
    ·have hnd:=h.nd
     rw [List.nodup_append] at hnd
     have hmem:∀ j,j∈pend.erase i↔j≠i∧j∈pend:=fun j=>hnd.1.mem_erase_iff
     have hil:i∉later ph:=fun hl=>hnd.2.2 i hpend i hl rfl
     have hun':∀ j,(listed.setIfInBounds i true).getD j true=false↔(j∈pend.erase i∨j∈later ph):=by
      intro j
      rw [hset,hmem]
      constructor
      ·rintro ⟨h1,h2|h2⟩
       ·exact .inl ⟨h1,h2⟩
       ·exact .inr h2
      ·rintro (⟨h1,h2⟩|h2)
       ·exact ⟨h1,.inl h2⟩
       ·exact ⟨fun e=>hil (e▸h2),.inr h2⟩
     have hdown':∀ j oj,full[j]? = some oj→j∉pend.erase i→j∉later ph→∀ m∈dirs oj,m∉pend.erase i∧m∉later ph:=by
      intro j oj hoj hj1 hj2 m hm
      rw [hmem] at hj1 ⊢
      by_cases hji:j=i
      ·subst hji
       rw [ho] at hoj
       cases hoj
       have:=hdirs m hm
       exact ⟨fun hh=>this.2.1 hh.2,this.2.2⟩
      ·have:=h.down j oj hoj (fun hh=>hj1 ⟨hji,hh⟩) hj2 m hm
       exact ⟨fun hh=>this.1 hh.2,this.2⟩
     have hnd':(pend.erase i++later ph).Nodup:=by
      rw [List.nodup_append]
      exact ⟨hnd.1.erase i,hnd.2.1,fun x hx y hy=>hnd.2.2 x ((hmem x).1 hx).2 y hy⟩
     have hfuel':fuel=(pend.erase i).length+(later ph).length:=by
      rw [List.length_erase_of_mem hpend]
      have:=List.length_pos_of_mem hpend
      omega
     have hgsp:∀ v,GsOk tt full (pend.erase i) pre gs (a.put o.dst v):=by
      intro v g hg
      obtain ⟨g1,g2,og,t,d,ti,g3,g4,g5,g6,g7⟩:=hgs g hg
      refine ⟨g1,fun hh=>g2 ((hmem _).1 hh).2,og,t,d,ti,g3,g4,g5,g6,?_⟩
      rw [put_getD fun e=>g2 (by rw [← hp.dst i g.i o og d ho g3 e (isAl_ok g4).2.1];exact hpend)]
      exact g7
     rcases h.pendD i hpend with hPA|⟨v,o',hvD,ho',hdk,hna⟩
     · -- a variable that is made
       obtain ⟨o',t,d,ab,ho',hal,hab,hdn,hnes,hF⟩:=hPA
       rw [ho] at ho'
       cases ho'
       have a3:=(isAl_ok hal).2.1
       obtain ⟨obj,hfit,hrun⟩:=mk_run ht hal hab
       refine alstep ho hal (hrun a w) ?_
       obtain ⟨c3,hk3,hs3⟩:=hk.ghost hs i obj
       have hs4:=hs3.put (some d) (.d .any) (mkVal t w.heap.size) (fun x hx=>by cases hx;rw [hk3.n,hcn];exact hdn) (by simp [VR,VD])
       refine ih ph (pend.erase i) pre F L D _ _ _ ⟨by simpa using h.size,hun',hdown',⟨_,c3,E,hk3,hs4.weak fun s => ?_,?_,?_⟩,h.facts,fun j hj=>h.pendD j ((hmem j).1 hj).2,h.look,hnd',h.dis,h.cov,fun j hj=>h.sub j ((hmem j).1 hj).2,h.ine,h.chain,h.tree⟩ hfuel'
       ·by_cases hin:s∈dstsOf full (pend.erase i)
        ·right;exact fget_mask_in hin
        ·left
         rw [fget_mask_out hin]
         by_cases hd:(some d:Option Nat)=some s
         ·rw [fput_self hd];cases hd;exact hF
         ·rw [fput_other hd,fget_mask_out]
          intro hm
          obtain ⟨k,hk,ok,hok,hkd⟩:=mem_dstsOf.1 hm
          by_cases hki:k=i
          ·subst hki;rw [ho] at hok;cases hok;rw [a3] at hkd;exact hd hkd
          ·exact hin (mem_dstsOf.2 ⟨k,(hmem k).2 ⟨hki,hk⟩,ok,hok,hkd⟩)
       ·intro g hg
        rcases List.mem_cons.1 hg with rfl|hg
        ·refine ⟨h.sub i hpend,fun hh=>((hmem _).1 hh).1 rfl,o,t,d,ab,ho,hal,hab,hfit,?_⟩
         have:d<a.tmps.size:=by rw [hs.nt,hcn2];exact hdn
         show (a.tmps.setIfInBounds d _).getD d undef=_
         simp [this]
        ·have:=hgsp (mkVal t w.heap.size) g hg
         rw [a3] at this
         exact this
       ·intro m om tm dm hom hal' hm1 hm2 hm3 hm4
        by_cases hmi:m=i
        ·exact ⟨_,List.mem_cons_self,hmi.symm⟩
        ·obtain ⟨g,hg,e⟩:=hgi m om tm dm hom hal' hm1 hm2 (fun hh=>hm3 ((hmem m).2 ⟨hmi,hh⟩)) hm4
         exact ⟨g,List.mem_cons_of_mem _ hg,e⟩
     · -- one that was reckoned
       rw [ho] at ho'
       cases ho'
       obtain ⟨o',ho',hg,hdv,hpre,hnes,hlk⟩:=h.facts _ hvD
       simp only at ho' hg hdv hpre hnes hlk
       rw [ho] at ho'
       cases ho'
       have hsame:∀ s∈lookS full o,fget F s=fget (mask (dstsOf full pend) F) s:=by
        intro s hsl
        rw [fget_mask_out]
        intro hm
        obtain ⟨k,hk,ok,hok,hkd⟩:=mem_dstsOf.1 hm
        rcases hlk s hsl k ok hok hkd with ⟨_,b⟩|⟨b,_⟩
        ·exact hanc k b (.inl hk)
        ·exact h.pendes k hk b
       obtain ⟨b,g1,g2,g3⟩:=gdet_out (gdet_congr hsame hg)
       have hdn:∀ x,o.dst=some x→x<c2.n:=by rw [hcn2];exact dstOk_ok hdk
       have next:∀ E' v' w',Sim c2 E' (fput (mask (dstsOf full pend) F) o.dst v) L (a.put o.dst v') w'→wpAny P .any full.toArray Q fuel (listed.setIfInBounds i true) (a.put o.dst v') w':=by
        intro E' v' w' hs'
        refine ih ph (pend.erase i) pre F L D _ _ w' ⟨by simpa using h.size,hun',hdown',⟨gs,c2,E',hk,hs'.weak fun s => ?_,hgsp v',?_⟩,h.facts,fun j hj=>h.pendD j ((hmem j).1 hj).2,h.look,hnd',h.dis,h.cov,fun j hj=>h.sub j ((hmem j).1 hj).2,h.ine,h.chain,h.tree⟩ hfuel'
        ·by_cases hin:s∈dstsOf full (pend.erase i)
         ·right;exact fget_mask_in hin
         ·left
          rw [fget_mask_out hin]
          by_cases hd:o.dst=some s
          ·rw [fput_self hd];exact hdv s hd
          ·rw [fput_other hd,fget_mask_out]
           intro hm
           obtain ⟨k,hk,ok,hok,hkd⟩:=mem_dstsOf.1 hm
           by_cases hki:k=i
           ·subst hki;rw [ho] at hok;cases hok;exact hd hkd
           ·exact hin (mem_dstsOf.2 ⟨k,(hmem k).2 ⟨hki,hk⟩,ok,hok,hkd⟩)
        ·intro m om tm dm hom hal' hm1 hm2 hm3 hm4
         refine hgi m om tm dm hom hal' hm1 hm2 (fun hh=>hm3 ((hmem m).2 ⟨fun e => ?_,hh⟩)) hm4
         subst e
         rw [ho] at hom
         cases hom
         rw [hna] at hal'
         cases hal'
       refine gstep2 (Kop:=fun v' L'=>v'=v∧L'=L) ho hdn hs g1 (fun hb=>dopK_ok ht hz hfo hc2 (g2 hb _ ⟨rfl,rfl⟩) hs) (fun hb => ?_) ?_
       ·have hv:=g3 hb
        subst hv
        exact next E _ w (hs.put o.dst (.tup []) undef hdn (by simp [VR,VRt,undef]))
       ·rintro av L' E' v' w' ⟨rfl,rfl⟩ hs'
        exact next E' v' w' hs'
    · -- the next effect
      have hil:i∈later ph:=hun.resolve_left hpend
      obtain ⟨p0,hch⟩:=h.chain
      have hhead:∃ rs rest,ph=(i,rs) :: rest:=by
       rcases later_anc hch i hil with ⟨e,rs,rest,hph,rfl⟩|⟨m,hm1,hm2⟩
       ·exact ⟨rs,rest,hph⟩
       ·exact absurd (.inr hm1) (hanc m hm2)
      obtain ⟨rs,rest,hph⟩:=hhead
      subst hph
      have htree:=h.tree
      simp only [eOpsX,nthO_get,ho] at htree
      cases hdk:dstOk n o.dst with
      | false=>rw [hdk] at htree;exact htree.elim
      | true =>
        rw [hdk] at htree
        simp only [cond_true] at htree
        have hipre:i∉pre:=h.dis i hil
        have hnd:=h.nd
        simp only [later] at hnd
        rw [List.nodup_append,List.nodup_cons] at hnd
        -- a variable that is first written here
        have key:∃ F0 L0 E0 c3 gs3,Link c gs3 c3∧Sim c3 E0 (mask (dstsOf full pend) F0) L0 a w∧GsOk tt full pend pre gs3 a∧GhI full es pend pre F0 gs3∧(∀ p∈D,DF P tt fo full A es pre F0 L p)∧(∀ j∈pend,PA tt n full es F j→PA tt n full es F0 j) ∧
          guardK full o F0 (fun F=>X o F L0 fun v L'=>keepD P tt fo full (nthL A i) (fput F o.dst v) L' D fun D=>rOpsG P tt fo n full rs (fput F o.dst v) L' D fun F D=>eOpsX P tt fo n X full A es rest F L' D K)
           (fun F=>keepD P tt fo full (nthL A i) (fput F o.dst (.tup [])) L0 D fun D=>rOpsG P tt fo n full rs (fput F o.dst (.tup [])) L0 D fun F D=>eOpsX P tt fo n X full A es rest F L0 D K):=by
         unfold adK at htree
         split at htree
         ·exact ⟨F,L,E,c2,gs,hk,hs,hgs,hgi,h.facts,fun j _ hj=>hj,htree⟩
         ·rename_i m t d hado
          split at htree
          ·rename_i hFd
           obtain ⟨had,ab,hab,hbox⟩:=htree
           ·obtain ⟨hma,hmes,om,hom,hal⟩:=adO_ok hado
            have hmU:=hanc m hma
            simp only [not_or] at hmU
            have hmpre:m∈pre:=(h.cov m (List.getElem?_eq_some_iff.1 hom).1).resolve_right hmU.2
            obtain ⟨g,hg,rfl⟩:=hgi m om t d hom hal hmpre hmes hmU.1 hFd
            obtain ⟨_,_,o2,t2,d2,ab2,ho2,hal2,hab2,hfit,hslot⟩:=hgs g hg
            rw [hom] at ho2
            cases ho2
            rw [hal] at hal2
            cases hal2
            rw [hab] at hab2
            cases hab2
            have hdst:=(isAl_ok hal).2.1
            obtain ⟨c3,E3,hk3,hs3⟩:=hk.adopt hc hs hg hfit.bx (hfit.br g.b) (d:=d) (v:=mkAV t L.length) (fun M E L' w h1 h2 h3=>by rw [hslot];exact hfit.vr g.b M E L' w _ h1 h2 h3)
            refine ⟨_,_,E3,c3,_,hk3,hs3.weak fun s => ?_,fun g' hg'=>hgs g' (List.mem_filter.1 hg').1,?_,fun p hp=>(h.facts p hp).avoid (adD_ok had p hp) _,?_,hbox⟩
            ·by_cases hin:s∈dstsOf full pend
             ·right;exact fget_mask_in hin
             ·left
              rw [fget_mask_out hin]
              show fget ((d,_) :: F) s=fget ((d,_) :: mask _ F) s
              rw [fget_cons,fget_cons,fget_mask_out hin]
            ·intro m' om' t' d' hom' hal' h1 h2 h3 h4
             have hne:(some d:Option Nat)≠some d':=by
              intro e
              rw [fput_self e] at h4
              cases t<;>cases h4
             rw [fput_other hne] at h4
             obtain ⟨g',hg',e'⟩:=hgi m' om' t' d' hom' hal' h1 h2 h3 h4
             refine ⟨g',List.mem_filter.2 ⟨hg',?_⟩,e'⟩
             cases hbe:Nat.beq g'.b g.b with
             | false=>rfl
             | true =>
               have:=gs_inj hk.nd hg' hg (Nat.eq_of_beq_eq_true hbe)
               subst this
               subst e'
               rw [hom] at hom'
               cases hom'
               rw [hal] at hal'
               cases hal'
               exact absurd rfl hne
            ·rintro j hj ⟨oj,tj,dj,tij,q1,q2,q3,q4,q5,q6⟩
             refine ⟨oj,tj,dj,tij,q1,q2,q3,q4,q5,?_⟩
             rw [fput_other]
             ·exact q6
             ·intro e
              have:=hp.dst j g.i oj om dj q1 hom (isAl_ok q2).2.1 (by rw [hdst];exact e)
              subst this
              exact hmU.1 hj
          ·exact ⟨F,L,E,c2,gs,hk,hs,hgs,hgi,h.facts,fun j _ hj=>hj,htree⟩
        clear htree
        obtain ⟨F0,L0,E0,c3,gs3,hk3,hs3,hgs3,hgi3,hfacts,hPA0,hguard⟩:=key
        obtain ⟨F1,b,hF1,hgr,hrun,hskip⟩:=guardK_ok hguard
        have hdn:∀ x,o.dst=some x→x<c3.n:=by rw [hk3.n,hcn];exact dstOk_ok hdk
        have hlook:=h.look
        simp only [later] at hlook
        have hl:=hlook.1 o ho
        have hsame:∀ s∈lookS full o,fget F1 s=fget (mask (dstsOf full pend) F1) s:=by
         intro s hsl
         rw [fget_mask_out]
         intro hm
         obtain ⟨k,hk,ok,hok,hkd⟩:=mem_dstsOf.1 hm
         rcases hl s hsl k ok hok hkd with ⟨_,b⟩|⟨_,b,_⟩
         ·exact hanc k b (.inl hk)
         ·exact h.pendes k hk b
        have hs1:Sim c3 E0 (mask (dstsOf full pend) F1) L0 a w:=hs3.weak fun s=>by
         by_cases hin:s∈dstsOf full pend
         ·right;exact fget_mask_in hin
         ·left;rw [fget_mask_out hin,fget_mask_out hin,hF1]
        have next:∀ av L' E' v' w',(keepD P tt fo full (nthL A i) (fput F1 o.dst av) L' D fun D=>rOpsG P tt fo n full rs (fput F1 o.dst av) L' D fun F D=>eOpsX P tt fo n X full A es rest F L' D K) →
          Sim c3 E' (fput (mask (dstsOf full pend) F1) o.dst av) L' (a.put o.dst v') w'→wpAny P .any full.toArray Q fuel (listed.setIfInBounds i true) (a.put o.dst v') w':=by
         intro av L' E' v' w' hk' hs'
         obtain ⟨D1,hr,hk1,hk2⟩:=keepD_ok hk'
         have hD1:∀ p∈D1,DF P tt fo full A es (i :: pre) (fput F1 o.dst av) L' p:=by
          intro p hp'
          obtain ⟨q1,q2,op,q3,q4⟩:=hk2 p hp'
          have hdf:=(((hfacts p q1).frame hF1).put hp.dst ho hipre (.inr q2) av (pre':=i :: pre) (fun x hx=>List.mem_cons_of_mem _ hx))
          obtain ⟨op',r1,r2,r3,r4,r5,r6⟩:=hdf
          rw [q3] at r1
          cases r1
          refine ⟨op,q3,?_,r3,r4,r5,r6⟩
          rcases q4 with q4|q4
          ·exact gdet_L q4 r2 L'
          ·exact q4
         obtain ⟨F3,D3,pre3,m1,m2,m2b,m3,m4,m5,m6,m7⟩:=rOpsG_ok (rest:=later rest) hp.dst hr hlook.2 hnd.2.1.2 (fun j hj=>by
          simp only [List.mem_cons,not_or]
          exact ⟨fun e=>hnd.2.1.1 (e▸hj),h.dis j (by rw [mem_later_cons];right;exact List.mem_append.1 hj)⟩) (fun x hx=>(hch.2.1 x hx).2) hD1
         -- a slot of something that was ahead
         have hstay:∀ m om d,full[m]? = some om→om.dst=some d→m∈pre→fget F3 d=fget F0 d:=by
          intro m om d hom hd hm
          have h1:d∉dstsOf full rs:=fun hh=>by
           obtain ⟨x,hx,ox,hox,hxd⟩:=mem_dstsOf.1 hh
           have:=hp.dst x m ox om d hox hom hxd hd
           subst this
           exact h.dis x (by rw [mem_later_cons];exact .inr (.inl hx)) hm
          have h2:o.dst≠some d:=fun e=>by
           have:=hp.dst i m o om d ho hom e hd
           subst this
           exact hipre hm
          rw [m6 d h1,fput_other h2,hF1]
         refine ih rest (rs++pend) pre3 F3 L' D3 _ _ w' ⟨by simpa using h.size,?_,?_,⟨gs3,c3,E',hk3,?_,?_,?_⟩,m3,?_,m2,?_,m2b,?_,?_,fun q hq=>h.ine q (List.mem_cons_of_mem _ hq),⟨_,hch.2.2⟩,m1⟩ ?_
         ·intro j
          rw [hset,mem_later_cons,List.mem_append]
          constructor
          ·rintro ⟨h1,h2|h2|h2|h2⟩
           ·exact .inl (.inr h2)
           ·exact absurd h2 h1
           ·exact .inl (.inl h2)
           ·exact .inr h2
          ·have hne:∀ x,x∈rs++later rest→x≠i:=fun x hx e=>hnd.2.1.1 (e▸hx)
           rintro ((h1|h1)|h1)
           ·exact ⟨hne j (List.mem_append_left _ h1),.inr (.inr (.inl h1))⟩
           ·exact ⟨fun e=>hpend (e▸h1),.inl h1⟩
           ·exact ⟨hne j (List.mem_append_right _ h1),.inr (.inr (.inr h1))⟩
         ·intro j oj hoj hj1 hj2 m hm
          simp only [List.mem_append,not_or] at hj1 ⊢
          have key:m∉pend∧m∉later ((i,rs) :: rest):=by
           by_cases hji:j=i
           ·subst hji
            rw [ho] at hoj
            cases hoj
            exact (hdirs m hm).2
           ·exact h.down j oj hoj hj1.2 (by rw [mem_later_cons];simp only [not_or];exact ⟨hji,hj1.1,hj2⟩) m hm
          rw [mem_later_cons] at key
          simp only [not_or] at key
          exact ⟨⟨key.2.2.1,key.1⟩,key.2.2.2⟩
         ·refine hs'.weak fun s => ?_
          by_cases hin:s∈dstsOf full (rs++pend)
          ·right;exact fget_mask_in hin
          ·left
           rw [fget_mask_out hin]
           have hin1:s∉dstsOf full rs:=fun hm=>hin (by
            obtain ⟨k,hk,y⟩:=mem_dstsOf.1 hm
            exact mem_dstsOf.2 ⟨k,List.mem_append_left _ hk,y⟩)
           have hin2:s∉dstsOf full pend:=fun hm=>hin (by
            obtain ⟨k,hk,y⟩:=mem_dstsOf.1 hm
            exact mem_dstsOf.2 ⟨k,List.mem_append_right _ hk,y⟩)
           rw [m6 s hin1]
           by_cases hd:o.dst=some s
           ·rw [fput_self hd,fput_self hd]
           ·rw [fput_other hd,fput_other hd,fget_mask_out hin2]
         ·intro g hg
          obtain ⟨g1,g2,og,t,d,ti,g3,g4,g5,g6,g7⟩:=hgs3 g hg
          refine ⟨(m7 g.i).2 (.inr (List.mem_cons_of_mem _ g1)),fun hh => ?_,og,t,d,ti,g3,g4,g5,g6,?_⟩
          ·rcases List.mem_append.1 hh with hh|hh
           ·exact h.dis g.i (by rw [mem_later_cons];exact .inr (.inl hh)) g1
           ·exact g2 hh
          ·rw [put_getD fun e=>hipre (by rw [hp.dst i g.i o og d ho g3 e (isAl_ok g4).2.1];exact g1)]
           exact g7
         ·intro m om t d hom hal h1 h2 h3 h4
          have hmrs:m∉rs∧m∉pend:=by
           rw [List.mem_append,not_or] at h3;exact h3
          have hmpre:m∈pre:=by
           rcases (m7 m).1 h1 with hh|hh
           ·exact absurd hh hmrs.1
           ·rcases List.mem_cons.1 hh with rfl|hh
            ·exact absurd (h.ine _ List.mem_cons_self) h2
            ·exact hh
          rw [hstay m om d hom (isAl_ok hal).2.1 hmpre] at h4
          exact hgi3 m om t d hom hal hmpre h2 hmrs.2 h4
         ·intro j hj
          rcases List.mem_append.1 hj with hj|hj
          ·exact m4 j hj
          ·rcases h.pendD j hj with hq|⟨v,oj,q1,q2,q3,q4⟩
           ·obtain ⟨oj,tj,dj,tij,r1,r2,r3,r4,r5,r6⟩:=hPA0 j hj hq
            refine .inl ⟨oj,tj,dj,tij,r1,r2,r3,r4,r5,?_⟩
            rw [hstay j oj dj r1 (isAl_ok r2).2.1 (h.sub j hj)]
            exact r6
           ·exact .inr ⟨v,oj,m5 _ (hk1 _ q1 (fun hh=>hanc j hh (.inl hj))),q2,q3,q4⟩
         ·rw [List.append_assoc,List.nodup_append]
          have hnd2:=hnd.2.1.2
          rw [List.nodup_append] at hnd2
          refine ⟨hnd2.1,?_,?_⟩
          ·rw [List.nodup_append]
           exact ⟨hnd.1,hnd2.2.1,fun x hx y hy=>hnd.2.2 x hx y (List.mem_cons_of_mem _ (List.mem_append_right _ hy))⟩
          ·intro x hx y hy
           rcases List.mem_append.1 hy with hy|hy
           ·exact fun e=>hnd.2.2 y hy x (List.mem_cons_of_mem _ (List.mem_append_left _ hx)) e.symm
           ·exact hnd2.2.2 x hx y hy
         ·intro j hj
          rcases h.cov j hj with hh|hh
          ·exact .inl ((m7 j).2 (.inr (List.mem_cons_of_mem _ hh)))
          ·rw [mem_later_cons] at hh
           rcases hh with rfl|hh|hh
           ·exact .inl ((m7 j).2 (.inr List.mem_cons_self))
           ·exact .inl ((m7 j).2 (.inl hh))
           ·exact .inr hh
         ·intro j hj
          rcases List.mem_append.1 hj with hj|hj
          ·exact (m7 j).2 (.inl hj)
          ·exact (m7 j).2 (.inr (List.mem_cons_of_mem _ (h.sub j hj)))
         ·simp only [later,List.length_cons,List.length_append] at hf ⊢
          omega
        refine gstep2 ho hdn hs1 (GR_congr hsame hgr) (fun hb=>hX hk3.wf hsame (hrun hb) hs1) (fun hb => ?_) ?_
        ·exact next (.tup []) L0 E0 _ w (hskip hb) (hs1.put o.dst (.tup []) undef hdn (by simp [VR,VRt,undef]))
        ·intro av L' E' v' w' hk' hs'
         exact next av L' E' v' w' hk' hs'
theorem adraw_ofX {X:Oper→AF→List AB→(AV→List AB→Prop)→Prop} (hX:∀ {full:List Oper} {o:Oper} {F F':AF} {L:List AB} {K:AV→List AB→Prop} {c:Ctx} {E:Nat→Option Nat} {a:Act} {w:World},c.wf→(∀ s∈lookS full o,fget F s=fget F' s)→X o F L K→Sim c E F' L a w→OpRes P o c F' L a w K) (ht:TTok P tt) (hz:ZOok tt) (hfo:FOok P fo) (hm:P.follows .mixedOrders=true) {id k0:Nat} {ops:Array Oper} (pl:Plan) (hpl:planB ops.toList pl=true) {K:AF→List AB→Prop} {F:AF} {L:List AB}
  (h:rOpsG P tt fo n ops.toList pl.r0 F L [] fun F D=>eOpsX P tt fo n X ops.toList pl.anc (pl.ph.map (·.1)) pl.ph F L D K):ADraw P n k0 id ops K F L:=by
 intro c E a w hc hcn hk hs
 unfold planB at hpl
 simp only [Bool.and_eq_true,List.all_eq_true,Bool.not_eq_true'] at hpl
 obtain ⟨⟨⟨⟨⟨⟨⟨⟨p1,p2⟩,p3⟩,p4⟩,p5⟩,p6⟩,p7⟩,p8⟩,p9⟩:=hpl
 have hnd:=nodupB_ok p1
 have hlen:=Nat.eq_of_beq_eq_true p2.1
 have hall:∀ i,i<ops.toList.length→i∈pl.r0++later pl.ph:=fun i hi=>by
  have:=allI_ok p3 i ops.toList[i] (by rw [List.getElem?_eq_getElem hi])
  rw [Nat.zero_add] at this
  exact memB_true this
 have hpp:PlanP ops.toList pl.anc (pl.ph.map (·.1)):=⟨dstsB_ok p8,ancB_ok p5,fun j o ho m hm=>by
  have:=allI_ok p9 j o ho
  simp only [List.all_eq_true,Nat.zero_add] at this
  exact Nat.lt_of_lt_of_le (Nat.lt_succ_self _) (Nat.le_of_ble_eq_true (this m hm))⟩
 -- all the numbers are in range
 have hrange:∀ i∈pl.r0++later pl.ph,i<ops.toList.length:=by
  intro i hi
  exact Nat.lt_of_lt_of_le (Nat.lt_succ_self _) (Nat.le_of_ble_eq_true (p2.2 i hi))
 have hs0:Sim c E F L a { w with drawn:=w.drawn+1 }:=hs.keeps hc (Keeps.drew w)
 obtain ⟨F',D',pre',k1,k2,k2b,k3,k4,k5,k6,k7⟩:=rOpsG_ok (A:=pl.anc) (es:=pl.ph.map (·.1)) (rest:=later pl.ph) hpp.dst h (looksB_ok p4) hnd (by simp) (fun r hr=>memB_ok (p7 r hr)) (by simp)
 refine wp_region_any hm ?_
 have e:ops=ops.toList.toArray:=by simp
 rw [e]
 refine draw_anyX (fun {_ _ _ _ _ _ _ _ _ _}=>hX) ht hz hfo hpp hc hcn (K:=K) ?_ _ pl.ph pl.r0 pre' F' L D' _ a _ ⟨by simp,?_,?_,?_,k3,k4,k2,hnd,k2b,?_,fun j hj=>(k7 j).2 (.inl hj),fun q hq=>List.mem_map.2 ⟨q,hq,rfl⟩,⟨none,chainB_ok p6⟩,k1⟩ ?_
 ·intro E F L a w hK hs
  exact ⟨E,F,L,hs,rfl,hK⟩
 ·intro i
  rw [← List.mem_append]
  constructor
  ·intro hi
   by_cases hlt:i<ops.toList.length
   ·exact hall i hlt
   ·simp at hlt
    simp [Nat.not_lt.2 hlt] at hi
  ·intro hi
   have:=hrange i hi
   simp at this
   simp [this]
 ·intro j o ho hj1 hj2
  exact absurd (hall j (List.getElem?_eq_some_iff.1 ho).1) (by simp [hj1,hj2])
 ·refine ⟨[],c,E,Link.refl hc,hs0.weak fun s => ?_,fun g hg=>(by cases hg),?_⟩
  ·by_cases hin:s∈dstsOf ops.toList pl.r0
   ·right;exact fget_mask_in hin
   ·left;rw [fget_mask_out hin,k6 s hin]
  ·intro m om t d hom hal h1 h2 h3
   rcases (k7 m).1 h1 with hh|hh
   ·exact absurd hh h3
   ·cases hh
 ·intro j hj
  rcases List.mem_append.1 (hall j hj) with hh|hh
  ·exact .inl ((k7 j).2 (.inl hh))
  ·exact .inr hh
 ·have:ops.toList.toArray.size=(pl.r0++later pl.ph).length:=by rw [hlen];simp
  rw [this]
  simp
end
end
end Go.Ab
