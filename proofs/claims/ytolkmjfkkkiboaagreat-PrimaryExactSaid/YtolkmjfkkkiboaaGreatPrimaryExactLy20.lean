/- PrimaryExact: abstract runs. -/
import Derived.Test.YtolkmjfkkkiboaaGreatPrimaryExactLy19
set_option linter.all false
namespace Go.Ab
noncomputable section
open Go.RowKit
section
variable {P:Program} {tt:TypeId->Option TI} {fo:FuncId->Bool} {n:Nat}
def mask (D:List Nat) (F:AF):AF:=(D.map λs=>(s,AV.d .any))++F
theorem dU {F:AF}:∀ {D:List Nat} {s:Nat},s∈D->bt (mask D F) s = .d .any
 | d :: D,s,h=>by
   simp only [mask,Dv,KX,du,b_]
   cases hb:Nat.beq d s with
   | true=>rfl
   | false =>
     simp only [py];rcases jy.1 h with h|h
     ·subst h;rw [Sc] at hb;cases hb
     ·exact dU (D:=D) h
theorem bk {F:AF}:∀ {D:List Nat} {s:Nat},s∉D->bt (mask D F) s=bt F s
 | [],s,_=>rfl
 | d :: D,s,h=>by
   simp only [jy,CO] at h;simp only [mask,Dv,KX,du,b_]
   cases hb:Nat.beq d s with
   | true=>exact absurd (ie hb).symm h.1
   | false=>exact bk (D:=D) h.2
def dstsOf (full:List Oper) (l:List Nat):List Nat:=l.filterMap λi=>match full[i]? with|some o=>o.dst|none=>none
theorem bV {full:List Oper} {l:List Nat} {s:Nat}:s∈dstsOf full l↔∃ i∈l,∃ o,full[i]? = some o/\o.dst=some s:=by
 unfold dstsOf;rw [List.mem_filterMap];constructor
 ·rintro ⟨i,h1,h2⟩
  cases ho:full[i]? with
  | none=>rw [ho] at h2;cases h2
  | some o=>rw [ho] at h2;exact ⟨i,h1,o,ho,h2⟩
 ·rintro ⟨i,h1,o,h2,h3⟩;exact ⟨i,h1,by rw [h2];exact h3⟩
theorem jk {F:AF} {d:Nat} {o:Option Nat} (h:o=some d) (v:AV):bt (cu F o v) d=v:=by subst h;simp [cu,du,b_]
theorem ep {F:AF} {d:Nat} {o:Option Nat} (h:o≠some d) (v:AV):bt (cu F o v) d=bt F d:=by
 cases o with
 | none=>rfl
 | some e =>
   simp only [cu,du,b_]
   cases hb:Nat.beq e d with
   | true=>exact absurd (by rw [ie hb]) h
   | false=>rfl
def DF (P:Program) (tt:TypeId->Option TI) (fo:FuncId->Bool) (full:List Oper) (A:List (List Nat)) (es pre:List Nat) (F:AF) (L:List AB) (p:Nat×AV):Prop :=
 ∃ o,full[p.1]? = some o/\mT P tt fo full o F L p.2/\(∀ d,o.dst=some d->bt F d=p.2)/\p.1∈pre/\p.1∉es /\
   (∀ s∈lg full o,∀ k ok,full[k]? = some ok->ok.dst=some s->(k∈pre/\k∈gk A p.1)∨(k∈es/\p.1∈gk A k))
def TA (full:List Oper):Prop:=∀ (i j:Nat) (o o':Oper) (d:Nat),full[i]? = some o->full[j]? = some o'->o.dst=some d->o'.dst=some d->i=j
theorem DF.put {full:List Oper} {A:List (List Nat)} {es pre:List Nat} {F:AF} {L:List AB} {p:Nat×AV} (h:DF P tt fo full A es pre F L p) (hd:TA full) {i:Nat} {o:Oper} (ho:full[i]? = some o)
  (hi:i∉pre) (ef:i∉es∨p.1∉gk A i) (v:AV) {pre':List Nat} (C2:∀ x∈pre,x∈pre'):DF P tt fo full A es pre' (cu F o.dst v) L p:=by
 obtain ⟨op,h1,h2,h3,h4,h5,h6⟩:=h;refine ⟨op,h1,ky ?_ h2,?_,C2 _ h4,h5,?_⟩
 ·intro s hs;by_cases KI:o.dst=some s
  ·exfalso;rcases h6 s hs i o ho KI with ⟨a,_⟩|⟨a,b⟩
   ·exact hi a
   ·rcases ef with h|h
    ·exact h a
    ·exact h b
  ·rw [ep KI]
 ·intro d Z3;by_cases KI:o.dst=some d
  ·exact absurd (by rw [hd p.1 i op o d h1 ho Z3 KI] at h4;exact h4) hi
  ·rw [ep KI];exact h3 d Z3
 ·intro s hs k ok hk qO;rcases h6 s hs k ok hk qO with ⟨a,b⟩|h
  ·exact .inl ⟨C2 _ a,b⟩
  ·exact .inr h
theorem DF.frame {full:List Oper} {A:List (List Nat)} {es pre:List Nat} {F F':AF} {L:List AB} {p:Nat×AV} (h:DF P tt fo full A es pre F L p) (hF:∀ s,bt F' s=bt F s):DF P tt fo full A es pre F' L p:=by
 obtain ⟨op,h1,h2,h3,h4,h5,h6⟩:=h;exact ⟨op,h1,ky (λs _=>(hF s).symm) h2,λd hd=>by rw [hF];exact h3 d hd,h4,h5,h6⟩
theorem vH {full:List Oper} {A:List (List Nat)} {es rest:List Nat} (TB:TA full) {L:List AB} {K:AF->PD->Prop}:∀ {rs pre:List Nat} {F:AF} {D:PD},rI P tt fo n full rs F L D K ->
  lH full A es pre (rs++rest)->(rs++rest).Nodup->(∀ j∈rs++rest,j∉pre)->(∀ r∈rs,r∉es)->(∀ p∈D,DF P tt fo full A es pre F L p) ->
  ∃ F' D' pre',K F' D'/\lH full A es pre' rest/\(∀ j∈rest,j∉pre')/\(∀ p∈D',DF P tt fo full A es pre' F' L p)/\(∀ i∈rs,∃ v o,(i,v)∈D'/\full[i]? = some o/\jM n o.dst=true)/\(∀ p∈D,p∈D')/\(∀ s,s∉dstsOf full rs->bt F' s=bt F s)
 | [],pre,F,D,h,eO,_,FV,_,hD=>⟨F,D,pre,h,eO,FV,hD,by simp,λ_ h=>h,λ_ _=>rfl⟩
 | i :: r,pre,F,D,h,eO,fh,FV,hes,hD=>by
   simp only [rI,lh] at h;split at h
   ·rename_i o ho
    cases FW:jM n o.dst with
    | false=>rw [FW] at h;exact h.elim
    | true =>
      rw [FW] at h;simp only [jB] at h;obtain ⟨F1,b,TC,oO,gi,vI⟩:=sJ h;have Ip:∃ v,mT P tt fo full o F1 L v/\rI P tt fo n full r (cu F1 o.dst v) L ((i,v) :: D) K:=by
       cases b with
       | true=>obtain ⟨v,h1,h2⟩:=gi rfl;exact ⟨v,sI oO (λ_=>h1) (by simp),h2⟩
       | false=>exact ⟨_,sI oO (by simp) (λ_=>rfl),vI rfl⟩
      obtain ⟨v,hg,hr⟩:=Ip;rw [KX,Pw] at fh;have vJ:i∉pre:=FV i (by simp);have TD:i∉es:=hes i (by simp);have hl:=eO.1 o ho;have rL:∀ s∈lg full o,o.dst≠some s:=by
       intro s hs hd;rcases hl s hs i o ho hd with ⟨a,_⟩|⟨a,_⟩
       ·exact vJ a
       ·exact a rfl
      have hD1:∀ p∈(i,v) :: D,DF P tt fo full A es (i :: pre) (cu F1 o.dst v) L p:=by
       intro p hp;rcases jy.1 hp with rfl|hp
       ·refine ⟨o,ho,ky (λs hs=>(ep (rL s hs) v).symm) hg,λd hd=>jk hd v,by simp,TD,?_⟩;intro s hs k ok hk qO;rcases hl s hs k ok hk qO with ⟨a,b⟩|⟨_,a,b⟩
        ·exact .inl ⟨xg _ a,b⟩
        ·exact .inr ⟨a,b⟩
       ·exact ((hD p hp).frame TC).put TB ho vJ (.inl TD) v (λx hx=>xg _ hx)
      obtain ⟨F',D',pre',k1,k2,XC,k3,k4,k5,k6⟩:=vH TB hr eO.2 fh.2 (λj hj=>by
       simp only [jy,CO];exact ⟨λe=>fh.1 (by rw [<-e];exact hj),FV j (xg _ hj)⟩) (λx hx=>hes x (xg _ hx)) hD1
      refine ⟨F',D',pre',k1,k2,XC,k3,?_,λp hp=>k5 p (xg _ hp),?_⟩
      ·intro j hj;rcases jy.1 hj with rfl|hj
       ·exact ⟨v,o,k5 _ (by simp),ho,FW⟩
       ·exact k4 j hj
      ·intro s hs;have h1:s∉dstsOf full r:=λhm=>hs (by
        obtain ⟨x,hx,y⟩:=bV.1 hm;exact bV.2 ⟨x,xg _ hx,y⟩)
       have h2:o.dst≠some s:=λhd=>hs (bV.2 ⟨i,by simp,o,ho,hd⟩);rw [k6 s h1,ep h2,TC]
   ·exact h.elim
theorem rM {full:List Oper} {lf:List Nat} {F:AF} {L:List AB}:∀ {D:PD} {K:PD->Prop},rJ P tt fo full lf F L D K ->
  ∃ D',K D'/\(∀ p∈D,p.1∉lf->p∈D')/\(∀ p∈D',p∈D/\p.1∉lf/\∃ o,full[p.1]? = some o/\(qA o=true∨mT P tt fo full o F L p.2))
 | [],K,h=>⟨[],h,by simp,by simp⟩
 | (i,v) :: r,K,h=>by
   simp only [rJ] at h
   cases hm:iy i lf with
   | true =>
     rw [hm] at h;obtain ⟨D',h1,h2,h3⟩:=rM (D:=r) h;refine ⟨D',h1,?_,λp hp=>by obtain ⟨a,b⟩:=h3 p hp;exact ⟨xg _ a,b⟩⟩;intro p hp RW;rcases jy.1 hp with rfl|hp
     ·exact absurd (dP hm) RW
     ·exact h2 p hp RW
   | false =>
     rw [hm] at h;simp only [py,lh] at h;split at h
     ·rename_i o ho;have key:∃ D',K ((i,v) :: D')/\(qA o=true∨mT P tt fo full o F L v)/\(∀ p∈r,p.1∉lf->p∈D')/\(∀ p∈D',p∈r/\p.1∉lf/\∃ o,full[p.1]? = some o/\(qA o=true∨mT P tt fo full o F L p.2)):=by
       cases hl:qA o with
       | true =>
         rw [hl] at h;obtain ⟨D',h1,h2,h3⟩:=rM (D:=r) h;exact ⟨D',h1,.inl rfl,h2,h3⟩
       | false =>
         rw [hl] at h;obtain ⟨D',h1,h2,h3⟩:=rM (D:=r) h.2;exact ⟨D',h1,.inr h.1,h2,h3⟩
      obtain ⟨D',h1,h2,h3,h4⟩:=key;refine ⟨_,h1,?_,?_⟩
      ·intro p hp RW;rcases jy.1 hp with rfl|hp
       ·simp
       ·exact xg _ (h3 p hp RW)
      ·intro p hp;rcases jy.1 hp with rfl|hp
       ·exact ⟨by simp,lZ hm,o,ho,h2⟩
       ·obtain ⟨a,b⟩:=h4 p hp;exact ⟨xg _ a,b⟩
     ·exact h.elim
theorem N8 {full:List Oper} {i:Nat} {o:Oper} (hi:full[i]? = some o) {c:Ctx} (hn:∀ x,o.dst=some x->x<c.n) {E:Nat->Option Nat} {F:AF} {L:List AB} {a:Act} {w:World} (hs:eE c E F L a w) {b:Bool} (hg:GR full o F b)
  {Kop:AV->List AB->Prop} {K':Act->World->Prop} {Q:Exit->Act->World->Prop} (gi:b=true->DP P o c F L a w Kop)
  (vI:b=false->K' (a.put o.dst undef) w)
  (hK:∀ av L' E' a' w',Kop av L'->eE c E' (cu F o.dst av) L' a' w'->K' a' w'):wpOp P full.toArray Q i K' a w:=by
 unfold wpOp;have ho:full.toArray[i]? = some o:=by simpa using hi
 rw [ho];simp only;have hw:Region.wanted o (yielded full.toArray a.tmps)=b:=by
  unfold GR at hg;unfold Region.wanted;split at hg
  ·rename_i PV;rw [PV,hg]
  ·rename_i j want PV;obtain ⟨s,h1,⟨t,h2,rfl⟩|⟨h2,rfl⟩⟩:=hg
   rotate_left
   ·rw [PV];obtain ⟨og,hog,PO⟩:=sH h1;have hb:=hs.dL s;rw [h2] at hb;simp only [VR,cD] at hb;obtain ⟨us,eS,iR⟩:=hb;have A4:yielded full.toArray a.tmps j=none:=by
     unfold yielded;have:full.toArray[j]? = some og:=by simpa using hog
     simp only [this,WU,PO];by_cases bB:s<a.tmps.size
     ·have:a.tmps[s]? = some (a.tmps.getD s undef):=by simp [bB]
      rw [this,eS]
     ·have:a.tmps[s]? = none:=by simp [ze5 bB]
      rw [this]
    simp only [A4];rfl
   rw [PV];obtain ⟨og,hog,PO⟩:=sH h1;have hb:=hs.dL s;rw [h2] at hb;simp only [VR,VD] at hb;have A4:yielded full.toArray a.tmps j=some t:=by
    unfold yielded;have:full.toArray[j]? = some og:=by simpa using hog
    simp only [this,WU,PO];by_cases bB:s<a.tmps.size
    ·have:a.tmps[s]? = some (a.tmps.getD s undef):=by simp [bB]
     rw [this,hb]
    ·exfalso;have:a.tmps.getD s undef=undef:=by simp [ze5 bB]
     rw [this] at hb
     cases hb
   simp only [A4]
   cases t<;>cases want<;>rfl
 rw [hw]
 cases b with
 | true=>exact .inl (vD hn (gi rfl) hK)
 | false=>exact vI rfl
end
end
end Go.Ab
