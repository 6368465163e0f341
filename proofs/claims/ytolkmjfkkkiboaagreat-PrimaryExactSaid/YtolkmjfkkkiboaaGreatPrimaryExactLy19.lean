/- PrimaryExact: abstract runs. -/
import Derived.Test.YtolkmjfkkkiboaaGreatPrimaryExactLy18
set_option linter.all false
namespace Go.Ab
noncomputable section
open Go.RowKit
section
variable {P:Program} {tt:TypeId->Option TI} {fo:FuncId->Bool} {n:Nat}
theorem lh:∀ (l:List Oper) (i:Nat),tq l i=l[i]?
 | [],i=>by simp [Bd,LC,LD]
 | o :: r,0=>by simp [Bd,LC,LD]
 | o :: r,i+1=>by simp only [Bd,LC,LD,ue];exact lh r i
theorem dP {i:Nat}:∀ {l:List Nat},iy i l=true->i∈l
 | [],h=>by cases h
 | j :: r,h=>by
   simp only [AL,xy,zeQ] at h;rcases h with h|h
   ·rw [ie h];simp
   ·exact xg _ (dP h)
theorem Im {full:List Oper} {o:Oper} {s:Nat} (h:Operand.tmp s∈o.op.operands):s∈lg full o:=by
 unfold lg;refine R_ _ (List.mem_filterMap.2 ⟨.tmp s,by simpa using h,rfl⟩)
theorem yP {full:List Oper} {o:Oper} {j s:Nat} {want:Bool} (hg:o.guard=some (j,want)) (hs:rF full j=some s):s∈lg full o:=by
 unfold lg;refine RE _ ?_;rw [hg];simp only;rw [hs];simp
theorem Io {F F':AF} {x:Operand} (h:∀ s,x = .tmp s->bt F s=bt F' s):ev F x=ev F' x:=by
 cases x with
 | tmp s=>exact h s rfl
 | _=>rfl
theorem DS {full:List Oper} {o:Oper} {F F':AF} {L:List AB} {K:AV->List AB->Prop} (h:∀ s∈lg full o,bt F s=bt F' s) (hk:mP P tt fo o F L K):mP P tt fo o F' L K :=
 Bc (λx hx=>Io λs hs=>h s (Im (by rw [<-hs];exact hx))) hk
theorem PU {full:List Oper} {o:Oper} {F F':AF} {L:List AB} {K:AV->List AB->Prop} (h:∀ s∈lg full o,bt F s=bt F' s) (hk:FU P tt fo o F L K):FU P tt fo o F' L K :=
 LB (λx hx=>Io λs hs=>h s (Im (by rw [<-hs];exact hx))) hk
theorem afl {o:Oper} (hl:qA o=true) {F:AF} {L:List AB} {v:AV} (h:KK P tt fo o F L v) (L':List AB):KK P tt fo o F L' v:=by
 intro K hK;have:=h (λv' _=>K v' L') hK;unfold FU mP at this ⊢;unfold qA at hl
 cases ho:o.op<;>rw [ho] at this hl<;>first|exact this|cases hl|skip
 case binOp op t x y yt =>
  simp only [G6] at hl;simp only [hl,py] at this ⊢;exact this
def GR (full:List Oper) (o:Oper) (F:AF) (b:Bool):Prop :=
 match o.guard with
 | none=>b=true
 | some (j,want)=>∃ s,rF full j=some s/\((∃ t,bt F s = .d (.bool t)/\b=(t == want))∨(bt F s = .tup []/\b=false))
theorem sI {full:List Oper} {o:Oper} {F:AF} {L:List AB} {v:AV} {b:Bool} (h:GR full o F b) (h1:b=true->KK P tt fo o F L v) (h2:b=false->v = .tup []):mT P tt fo full o F L v:=by
 unfold GR at h;unfold mT;split
 ·rename_i hg;rw [hg] at h;exact h1 h
 ·rename_i j want hg;rw [hg] at h;obtain ⟨s,e1,⟨t,e2,e3⟩|⟨e2,e3⟩⟩:=h
  ·simp only [e1,e2]
   cases t<;>cases want<;>first|exact h1 e3|exact h2 e3
  ·simp only [e1,e2];exact h2 e3
theorem vG {full:List Oper} {o:Oper} {F:AF} {L:List AB} {v:AV} (h:mT P tt fo full o F L v):∃ b,GR full o F b/\(b=true->KK P tt fo o F L v)/\(b=false->v = .tup []):=by
 unfold mT at h;unfold GR;split at h
 ·rename_i hg;exact ⟨true,by rw [hg],λ_=>h,by simp⟩
 ·rename_i j want hg;split at h
  ·rename_i s hs;split at h
   ·rename_i t ht;refine ⟨t == want,by rw [hg];exact ⟨s,hs,.inl ⟨t,ht,rfl⟩⟩,?_,?_⟩<;>cases t<;>cases want<;>intro he<;>first|exact h|cases he
   ·rename_i cs ht
    cases cs with
    | cons x r=>exact h.elim
    | nil=>exact ⟨false,by rw [hg];exact ⟨s,hs,.inr ⟨ht,rfl⟩⟩,by simp,λ_=>h⟩
   ·exact h.elim
  ·exact h.elim
theorem Bf {full:List Oper} {o:Oper} {F F':AF} {b:Bool} (h:∀ s∈lg full o,bt F s=bt F' s) (hg:GR full o F b):GR full o F' b:=by
 unfold GR at hg ⊢;split
 ·rename_i hn;rw [hn] at hg;exact hg
 ·rename_i j want hn;rw [hn] at hg;obtain ⟨s,e1,⟨t,e2,e3⟩|⟨e2,e3⟩⟩:=hg
  ·exact ⟨s,e1,.inl ⟨t,by rw [<-h s (yP hn e1)];exact e2,e3⟩⟩
  ·exact ⟨s,e1,.inr ⟨by rw [<-h s (yP hn e1)];exact e2,e3⟩⟩
theorem ky {full:List Oper} {o:Oper} {F F':AF} {L:List AB} {v:AV} (h:∀ s∈lg full o,bt F s=bt F' s) (hd:mT P tt fo full o F L v):mT P tt fo full o F' L v:=by
 obtain ⟨b,h1,h2,h3⟩:=vG hd;exact sI (Bf h h1) (λhb K hK=>PU h (h2 hb K hK)) h3
theorem Tz {full:List Oper} {o:Oper} (hl:qA o=true) {F:AF} {L:List AB} {v:AV} (h:mT P tt fo full o F L v) (L':List AB):mT P tt fo full o F L' v:=by
 obtain ⟨b,h1,h2,h3⟩:=vG h;exact sI h1 (λhb=>afl hl (h2 hb) L') h3
theorem sJ {full:List Oper} {o:Oper} {F:AF} {run skip:AF->Prop} (h:rH full o F run skip) :
  ∃ F1 b,(∀ s,bt F1 s=bt F s)/\GR full o F1 b/\(b=true->run F1)/\(b=false->skip F1):=by
 unfold rH at h;split at h
 ·rename_i hg;exact ⟨F,true,λ_=>rfl,by unfold GR;rw [hg],λ_=>h,by simp⟩
 ·rename_i j want hg;split at h
  ·rename_i s hs;split at h
   ·rename_i t ht;have jP:∀ b,t=b->∀ s',bt ((s,.d (.bool b)) :: F) s'=bt F s':=by
     intro b hb s';simp only [du,b_]
     cases hq:Nat.beq s s' with
     | true=>rw [<-ie hq,ht,hb];rfl
     | false=>rfl
    have HZ:∀ b,bt ((s,.d (.bool b)) :: F) s = .d (.bool b):=by intro b;simp [du,b_]
    have oO:∀ b,GR full o ((s,.d (.bool b)) :: F) (b == want):=by
     intro b;unfold GR;rw [hg];exact ⟨s,hs,.inl ⟨b,HZ b,rfl⟩⟩
    cases t<;>cases want<;>simp only [c_] at h
    ·exact ⟨_,_,jP false rfl,oO false,λ_=>h,(λhh=>by cases hh)⟩
    ·exact ⟨_,_,jP false rfl,oO false,(λhh=>by cases hh),λ_=>h⟩
    ·exact ⟨_,_,jP true rfl,oO true,(λhh=>by cases hh),λ_=>h⟩
    ·exact ⟨_,_,jP true rfl,oO true,λ_=>h,(λhh=>by cases hh)⟩
   ·rename_i cs ht
    cases cs with
    | cons x r=>exact h.elim
    | nil=>exact ⟨F,false,λ_=>rfl,by unfold GR;rw [hg];exact ⟨s,hs,.inr ⟨ht,rfl⟩⟩,by simp,λ_=>h⟩
   ·exact h.elim
  ·exact h.elim
def lH (full:List Oper) (A:List (List Nat)) (es:List Nat):List Nat->List Nat->Prop
 | _,[]=>True
 | pre,j :: r=>(∀ o,full[j]? = some o->∀ s∈lg full o,∀ k ok,full[k]? = some ok->ok.dst=some s->(k∈pre/\k∈gk A j)∨(k≠j/\k∈es/\j∈gk A k))/\lH full A es (j :: pre) r
def uA (A:List (List Nat)) (es:List Nat):Option Nat->List (Nat×List Nat)->Prop
 | _,[]=>True
 | p,(e,rs) :: r=>(∀ q,p=some q->q∈gk A e)/\(∀ x∈rs,e∈gk A x/\x∉es)/\uA A es (some e) r
theorem oP {full:List Oper} {A:List (List Nat)} {es:List Nat}:∀ {l pre:List Nat},xN full A es pre l=true->lH full A es pre l
 | [],_,_=>trivial
 | j :: r,pre,h=>by
   simp only [xN,oB] at h;refine ⟨?_,oP h.2⟩;intro o ho s hs k ok hk hd;have h1:=h.1;unfold Z2 at h1;rw [lh,ho] at h1;simp only [Fe] at h1;have h2:=mf (h1 s hs) k ok hk;simp only [gP,hd,eqO,Sc,Bool.not_true,Bool.false_or,zeQ,oB,G6] at h2;rcases h2 with ⟨a,b⟩|⟨⟨⟨a,b⟩,c⟩,d⟩
   ·exact .inl ⟨dP a,dP b⟩
   ·exact .inr ⟨(λe=>by subst e;rw [Sc] at b;cases b),dP c,dP d⟩
theorem oQ {A:List (List Nat)} {es:List Nat}:∀ {ph:List (Nat×List Nat)} {p:Option Nat},xO A es p ph=true->uA A es p ph
 | [],_,_=>trivial
 | (e,rs) :: r,p,h=>by
   simp only [xO,oB,Fe,G6] at h;refine ⟨?_,λx hx=>⟨dP (h.1.2 x hx).1,lZ (h.1.2 x hx).2⟩,oQ h.2⟩;intro q hq;subst hq;exact dP h.1.1
theorem xP {A:List (List Nat)} {es:List Nat}:∀ {ph:List (Nat×List Nat)} {p:Option Nat},uA A es p ph->∀ j∈later ph,
  (∃ e rs r,ph=(e,rs) :: r/\j=e)∨∃ m∈later ph,m∈gk A j
 | [],_,_,j,hj=>by simp [later] at hj
 | (e,rs) :: r,p,h,j,hj=>by
   simp only [later,jy,gA] at hj;rcases hj with rfl|hj|hj
   ·exact .inl ⟨_,_,_,rfl,rfl⟩
   ·exact .inr ⟨e,by simp [later],(h.2.1 j hj).1⟩
   ·rcases xP h.2.2 j hj with ⟨e',rs',r',hr,rfl⟩|⟨m,h1,h2⟩
    ·refine .inr ⟨e,by simp [later],?_⟩;subst hr;exact h.2.2.1 e rfl
    ·exact .inr ⟨m,by simp [later,h1],h2⟩
end
end
end Go.Ab
