/- NodeFormsCard: abstract runs. -/
import Derived.Test.YtgkhgapkfnkagaaGreatDoorNodeFormsCardLy18
set_option linter.unusedVariables false
set_option linter.unusedSimpArgs false
namespace Go.Ab
noncomputable section
open Go.RowKit
section
variable {P:Program} {tt:TypeId→Option TI} {fo:FuncId→Bool} {n:Nat}
theorem nthO_get:∀ (l:List Oper) (i:Nat),nthO l i=l[i]?
 | [],i=>by simp [nthO_nil,nthO_z,nthO_s]
 | o :: r,0=>by simp [nthO_nil,nthO_z,nthO_s]
 | o :: r,i+1=>by simp only [nthO_nil,nthO_z,nthO_s,List.getElem?_cons_succ];exact nthO_get r i
theorem memB_true {i:Nat}:∀ {l:List Nat},memB i l=true→i∈l
 | [],h=>by cases h
 | j :: r,h=>by
   simp only [memB_nil,memB_cons,Bool.or_eq_true] at h
   rcases h with h|h
   ·rw [Nat.eq_of_beq_eq_true h];simp
   ·exact List.mem_cons_of_mem _ (memB_true h)
theorem lookS_op {full:List Oper} {o:Oper} {s:Nat} (h:Operand.tmp s∈o.op.operands):s∈lookS full o:=by
 unfold lookS
 refine List.mem_append_left _ (List.mem_filterMap.2 ⟨.tmp s,by simpa using h,rfl⟩)
theorem lookS_guard {full:List Oper} {o:Oper} {j s:Nat} {want:Bool} (hg:o.guard=some (j,want)) (hs:nthDst full j=some s):s∈lookS full o:=by
 unfold lookS
 refine List.mem_append_right _ ?_
 rw [hg]
 simp only
 rw [hs]
 simp
theorem ev_congr {F F':AF} {x:Operand} (h:∀ s,x = .tmp s→fget F s=fget F' s):ev F x=ev F' x:=by
 cases x with
 | tmp s=>exact h s rfl
 | _=>rfl
theorem aopK_look {full:List Oper} {o:Oper} {F F':AF} {L:List AB} {K:AV→List AB→Prop} (h:∀ s∈lookS full o,fget F s=fget F' s) (hk:aopK P tt fo o F L K):aopK P tt fo o F' L K :=
 aopK_congr (fun x hx=>ev_congr fun s hs=>h s (lookS_op (by rw [← hs];exact hx))) hk
theorem dopK_look {full:List Oper} {o:Oper} {F F':AF} {L:List AB} {K:AV→List AB→Prop} (h:∀ s∈lookS full o,fget F s=fget F' s) (hk:dopK P tt fo o F L K):dopK P tt fo o F' L K :=
 dopK_congr (fun x hx=>ev_congr fun s hs=>h s (lookS_op (by rw [← hs];exact hx))) hk
theorem Det_L {o:Oper} (hl:lfree o=true) {F:AF} {L:List AB} {v:AV} (h:Det P tt fo o F L v) (L':List AB):Det P tt fo o F L' v:=by
 intro K hK
 have:=h (fun v' _=>K v' L') hK
 unfold dopK aopK at this ⊢
 unfold lfree at hl
 cases ho:o.op<;>rw [ho] at this hl<;>first|exact this|cases hl|skip
 case binOp op t x y yt =>
  simp only [Bool.not_eq_true'] at hl
  simp only [hl,cond_false] at this ⊢
  exact this
def GR (full:List Oper) (o:Oper) (F:AF) (b:Bool):Prop :=
 match o.guard with
 | none=>b=true
 | some (j,want)=>∃ s,nthDst full j=some s∧((∃ t,fget F s = .d (.bool t)∧b=(t == want))∨(fget F s = .tup []∧b=false))
theorem gdet_of {full:List Oper} {o:Oper} {F:AF} {L:List AB} {v:AV} {b:Bool} (h:GR full o F b) (h1:b=true→Det P tt fo o F L v) (h2:b=false→v = .tup []):gdet P tt fo full o F L v:=by
 unfold GR at h
 unfold gdet
 split
 ·rename_i hg;rw [hg] at h;exact h1 h
 ·rename_i j want hg
  rw [hg] at h
  obtain ⟨s,e1,⟨t,e2,e3⟩|⟨e2,e3⟩⟩:=h
  ·simp only [e1,e2]
   cases t<;>cases want<;>first|exact h1 e3|exact h2 e3
  ·simp only [e1,e2]
   exact h2 e3
theorem gdet_out {full:List Oper} {o:Oper} {F:AF} {L:List AB} {v:AV} (h:gdet P tt fo full o F L v):∃ b,GR full o F b∧(b=true→Det P tt fo o F L v)∧(b=false→v = .tup []):=by
 unfold gdet at h
 unfold GR
 split at h
 ·rename_i hg;exact ⟨true,by rw [hg],fun _=>h,by simp⟩
 ·rename_i j want hg
  split at h
  ·rename_i s hs
   split at h
   ·rename_i t ht
    refine ⟨t == want,by rw [hg];exact ⟨s,hs,.inl ⟨t,ht,rfl⟩⟩,?_,?_⟩<;>cases t<;>cases want<;>intro he<;>first|exact h|cases he
   ·rename_i cs ht
    cases cs with
    | cons x r=>exact h.elim
    | nil=>exact ⟨false,by rw [hg];exact ⟨s,hs,.inr ⟨ht,rfl⟩⟩,by simp,fun _=>h⟩
   ·exact h.elim
  ·exact h.elim
theorem GR_congr {full:List Oper} {o:Oper} {F F':AF} {b:Bool} (h:∀ s∈lookS full o,fget F s=fget F' s) (hg:GR full o F b):GR full o F' b:=by
 unfold GR at hg ⊢
 split
 ·rename_i hn;rw [hn] at hg;exact hg
 ·rename_i j want hn
  rw [hn] at hg
  obtain ⟨s,e1,⟨t,e2,e3⟩|⟨e2,e3⟩⟩:=hg
  ·exact ⟨s,e1,.inl ⟨t,by rw [← h s (lookS_guard hn e1)];exact e2,e3⟩⟩
  ·exact ⟨s,e1,.inr ⟨by rw [← h s (lookS_guard hn e1)];exact e2,e3⟩⟩
theorem gdet_congr {full:List Oper} {o:Oper} {F F':AF} {L:List AB} {v:AV} (h:∀ s∈lookS full o,fget F s=fget F' s) (hd:gdet P tt fo full o F L v):gdet P tt fo full o F' L v:=by
 obtain ⟨b,h1,h2,h3⟩:=gdet_out hd
 exact gdet_of (GR_congr h h1) (fun hb K hK=>dopK_look h (h2 hb K hK)) h3
theorem gdet_L {full:List Oper} {o:Oper} (hl:lfree o=true) {F:AF} {L:List AB} {v:AV} (h:gdet P tt fo full o F L v) (L':List AB):gdet P tt fo full o F L' v:=by
 obtain ⟨b,h1,h2,h3⟩:=gdet_out h
 exact gdet_of h1 (fun hb=>Det_L hl (h2 hb) L') h3
theorem guardK_ok {full:List Oper} {o:Oper} {F:AF} {run skip:AF→Prop} (h:guardK full o F run skip) :
  ∃ F1 b,(∀ s,fget F1 s=fget F s)∧GR full o F1 b∧(b=true→run F1)∧(b=false→skip F1):=by
 unfold guardK at h
 split at h
 ·rename_i hg;exact ⟨F,true,fun _=>rfl,by unfold GR;rw [hg],fun _=>h,by simp⟩
 ·rename_i j want hg
  split at h
  ·rename_i s hs
   split at h
   ·rename_i t ht
    have hsame:∀ b,t=b→∀ s',fget ((s,.d (.bool b)) :: F) s'=fget F s':=by
     intro b hb s'
     simp only [fget_nil,fget_cons]
     cases hq:Nat.beq s s' with
     | true=>rw [← Nat.eq_of_beq_eq_true hq,ht,hb];rfl
     | false=>rfl
    have hself:∀ b,fget ((s,.d (.bool b)) :: F) s = .d (.bool b):=by intro b;simp [fget_nil,fget_cons]
    have hgr:∀ b,GR full o ((s,.d (.bool b)) :: F) (b == want):=by
     intro b;unfold GR;rw [hg];exact ⟨s,hs,.inl ⟨b,hself b,rfl⟩⟩
    cases t<;>cases want<;>simp only [splitB] at h
    ·exact ⟨_,_,hsame false rfl,hgr false,fun _=>h,(fun hh=>by cases hh)⟩
    ·exact ⟨_,_,hsame false rfl,hgr false,(fun hh=>by cases hh),fun _=>h⟩
    ·exact ⟨_,_,hsame true rfl,hgr true,(fun hh=>by cases hh),fun _=>h⟩
    ·exact ⟨_,_,hsame true rfl,hgr true,fun _=>h,(fun hh=>by cases hh)⟩
   ·rename_i cs ht
    cases cs with
    | cons x r=>exact h.elim
    | nil=>exact ⟨F,false,fun _=>rfl,by unfold GR;rw [hg];exact ⟨s,hs,.inr ⟨ht,rfl⟩⟩,by simp,fun _=>h⟩
   ·exact h.elim
  ·exact h.elim
def LooksP (full:List Oper) (A:List (List Nat)) (es:List Nat):List Nat→List Nat→Prop
 | _,[]=>True
 | pre,j :: r=>(∀ o,full[j]? = some o→∀ s∈lookS full o,∀ k ok,full[k]? = some ok→ok.dst=some s→(k∈pre∧k∈nthL A j)∨(k≠j∧k∈es∧j∈nthL A k))∧LooksP full A es (j :: pre) r
def ChainP (A:List (List Nat)) (es:List Nat):Option Nat→List (Nat×List Nat)→Prop
 | _,[]=>True
 | p,(e,rs) :: r=>(∀ q,p=some q→q∈nthL A e)∧(∀ x∈rs,e∈nthL A x∧x∉es)∧ChainP A es (some e) r
theorem looksB_ok {full:List Oper} {A:List (List Nat)} {es:List Nat}:∀ {l pre:List Nat},looksB full A es pre l=true→LooksP full A es pre l
 | [],_,_=>trivial
 | j :: r,pre,h=>by
   simp only [looksB,Bool.and_eq_true] at h
   refine ⟨?_,looksB_ok h.2⟩
   intro o ho s hs k ok hk hd
   have h1:=h.1
   unfold lookB at h1
   rw [nthO_get,ho] at h1
   simp only [List.all_eq_true] at h1
   have h2:=allI_ok (h1 s hs) k ok hk
   simp only [Nat.zero_add,hd,eqO,Nat.beq_refl,Bool.not_true,Bool.false_or,Bool.or_eq_true,Bool.and_eq_true,Bool.not_eq_true'] at h2
   rcases h2 with ⟨a,b⟩|⟨⟨⟨a,b⟩,c⟩,d⟩
   ·exact .inl ⟨memB_true a,memB_true b⟩
   ·exact .inr ⟨(fun e=>by subst e;rw [Nat.beq_refl] at b;cases b),memB_true c,memB_true d⟩
theorem chainB_ok {A:List (List Nat)} {es:List Nat}:∀ {ph:List (Nat×List Nat)} {p:Option Nat},chainB A es p ph=true→ChainP A es p ph
 | [],_,_=>trivial
 | (e,rs) :: r,p,h=>by
   simp only [chainB,Bool.and_eq_true,List.all_eq_true,Bool.not_eq_true'] at h
   refine ⟨?_,fun x hx=>⟨memB_true (h.1.2 x hx).1,memB_ok (h.1.2 x hx).2⟩,chainB_ok h.2⟩
   intro q hq
   subst hq
   exact memB_true h.1.1
theorem later_anc {A:List (List Nat)} {es:List Nat}:∀ {ph:List (Nat×List Nat)} {p:Option Nat},ChainP A es p ph→∀ j∈later ph,
  (∃ e rs r,ph=(e,rs) :: r∧j=e)∨∃ m∈later ph,m∈nthL A j
 | [],_,_,j,hj=>by simp [later] at hj
 | (e,rs) :: r,p,h,j,hj=>by
   simp only [later,List.mem_cons,List.mem_append] at hj
   rcases hj with rfl|hj|hj
   ·exact .inl ⟨_,_,_,rfl,rfl⟩
   ·exact .inr ⟨e,by simp [later],(h.2.1 j hj).1⟩
   ·rcases later_anc h.2.2 j hj with ⟨e',rs',r',hr,rfl⟩|⟨m,h1,h2⟩
    ·refine .inr ⟨e,by simp [later],?_⟩
     subst hr
     exact h.2.2.1 e rfl
    ·exact .inr ⟨m,by simp [later,h1],h2⟩
end
end
end Go.Ab
