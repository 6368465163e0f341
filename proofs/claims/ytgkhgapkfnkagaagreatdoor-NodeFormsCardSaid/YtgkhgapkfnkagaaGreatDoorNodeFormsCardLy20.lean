/- NodeFormsCard: abstract runs. -/
import Derived.Test.YtgkhgapkfnkagaaGreatDoorNodeFormsCardLy19
set_option linter.unusedVariables false
set_option linter.unusedSimpArgs false
namespace Go.Ab
noncomputable section
open Go.RowKit
section
variable {P:Program} {tt:TypeId→Option TI} {fo:FuncId→Bool} {n:Nat}
def mask (D:List Nat) (F:AF):AF:=(D.map fun s=>(s,AV.d .any))++F
theorem fget_mask_in {F:AF}:∀ {D:List Nat} {s:Nat},s∈D→fget (mask D F) s = .d .any
 | d :: D,s,h=>by
   simp only [mask,List.map_cons,List.cons_append,fget_nil,fget_cons]
   cases hb:Nat.beq d s with
   | true=>rfl
   | false =>
     simp only [cond_false]
     rcases List.mem_cons.1 h with h|h
     ·subst h;rw [Nat.beq_refl] at hb;cases hb
     ·exact fget_mask_in (D:=D) h
theorem fget_mask_out {F:AF}:∀ {D:List Nat} {s:Nat},s∉D→fget (mask D F) s=fget F s
 | [],s,_=>rfl
 | d :: D,s,h=>by
   simp only [List.mem_cons,not_or] at h
   simp only [mask,List.map_cons,List.cons_append,fget_nil,fget_cons]
   cases hb:Nat.beq d s with
   | true=>exact absurd (Nat.eq_of_beq_eq_true hb).symm h.1
   | false=>exact fget_mask_out (D:=D) h.2
def dstsOf (full:List Oper) (l:List Nat):List Nat:=l.filterMap fun i=>match full[i]? with|some o=>o.dst|none=>none
theorem mem_dstsOf {full:List Oper} {l:List Nat} {s:Nat}:s∈dstsOf full l↔∃ i∈l,∃ o,full[i]? = some o∧o.dst=some s:=by
 unfold dstsOf
 rw [List.mem_filterMap]
 constructor
 ·rintro ⟨i,h1,h2⟩
  cases ho:full[i]? with
  | none=>rw [ho] at h2;cases h2
  | some o=>rw [ho] at h2;exact ⟨i,h1,o,ho,h2⟩
 ·rintro ⟨i,h1,o,h2,h3⟩
  exact ⟨i,h1,by rw [h2];exact h3⟩
theorem fput_self {F:AF} {d:Nat} {o:Option Nat} (h:o=some d) (v:AV):fget (fput F o v) d=v:=by subst h;simp [fput,fget_nil,fget_cons]
theorem fput_other {F:AF} {d:Nat} {o:Option Nat} (h:o≠some d) (v:AV):fget (fput F o v) d=fget F d:=by
 cases o with
 | none=>rfl
 | some e =>
   simp only [fput,fget_nil,fget_cons]
   cases hb:Nat.beq e d with
   | true=>exact absurd (by rw [Nat.eq_of_beq_eq_true hb]) h
   | false=>rfl
def DF (P:Program) (tt:TypeId→Option TI) (fo:FuncId→Bool) (full:List Oper) (A:List (List Nat)) (es pre:List Nat) (F:AF) (L:List AB) (p:Nat×AV):Prop :=
 ∃ o,full[p.1]? = some o∧gdet P tt fo full o F L p.2∧(∀ d,o.dst=some d→fget F d=p.2)∧p.1∈pre∧p.1∉es ∧
   (∀ s∈lookS full o,∀ k ok,full[k]? = some ok→ok.dst=some s→(k∈pre∧k∈nthL A p.1)∨(k∈es∧p.1∈nthL A k))
def DstP (full:List Oper):Prop:=∀ (i j:Nat) (o o':Oper) (d:Nat),full[i]? = some o→full[j]? = some o'→o.dst=some d→o'.dst=some d→i=j
theorem DF.put {full:List Oper} {A:List (List Nat)} {es pre:List Nat} {F:AF} {L:List AB} {p:Nat×AV} (h:DF P tt fo full A es pre F L p) (hd:DstP full) {i:Nat} {o:Oper} (ho:full[i]? = some o)
  (hi:i∉pre) (hne:i∉es∨p.1∉nthL A i) (v:AV) {pre':List Nat} (hpre:∀ x∈pre,x∈pre'):DF P tt fo full A es pre' (fput F o.dst v) L p:=by
 obtain ⟨op,h1,h2,h3,h4,h5,h6⟩:=h
 refine ⟨op,h1,gdet_congr ?_ h2,?_,hpre _ h4,h5,?_⟩
 ·intro s hs
  by_cases hds:o.dst=some s
  ·exfalso
   rcases h6 s hs i o ho hds with ⟨a,_⟩|⟨a,b⟩
   ·exact hi a
   ·rcases hne with h|h
    ·exact h a
    ·exact h b
  ·rw [fput_other hds]
 ·intro d hd'
  by_cases hds:o.dst=some d
  ·exact absurd (by rw [hd p.1 i op o d h1 ho hd' hds] at h4;exact h4) hi
  ·rw [fput_other hds];exact h3 d hd'
 ·intro s hs k ok hk hkd
  rcases h6 s hs k ok hk hkd with ⟨a,b⟩|h
  ·exact .inl ⟨hpre _ a,b⟩
  ·exact .inr h
theorem DF.frame {full:List Oper} {A:List (List Nat)} {es pre:List Nat} {F F':AF} {L:List AB} {p:Nat×AV} (h:DF P tt fo full A es pre F L p) (hF:∀ s,fget F' s=fget F s):DF P tt fo full A es pre F' L p:=by
 obtain ⟨op,h1,h2,h3,h4,h5,h6⟩:=h
 exact ⟨op,h1,gdet_congr (fun s _=>(hF s).symm) h2,fun d hd=>by rw [hF];exact h3 d hd,h4,h5,h6⟩
theorem rOps_ok {full:List Oper} {A:List (List Nat)} {es rest:List Nat} (hdst:DstP full) {L:List AB} {K:AF→PD→Prop}:∀ {rs pre:List Nat} {F:AF} {D:PD},rOps P tt fo n full rs F L D K →
  LooksP full A es pre (rs++rest)→(rs++rest).Nodup→(∀ j∈rs++rest,j∉pre)→(∀ r∈rs,r∉es)→(∀ p∈D,DF P tt fo full A es pre F L p) →
  ∃ F' D' pre',K F' D'∧LooksP full A es pre' rest∧(∀ j∈rest,j∉pre')∧(∀ p∈D',DF P tt fo full A es pre' F' L p)∧(∀ i∈rs,∃ v o,(i,v)∈D'∧full[i]? = some o∧dstOk n o.dst=true)∧(∀ p∈D,p∈D')∧(∀ s,s∉dstsOf full rs→fget F' s=fget F s)
 | [],pre,F,D,h,hlook,_,hdis,_,hD=>⟨F,D,pre,h,hlook,hdis,hD,by simp,fun _ h=>h,fun _ _=>rfl⟩
 | i :: r,pre,F,D,h,hlook,hnd,hdis,hes,hD=>by
   simp only [rOps,nthO_get] at h
   split at h
   ·rename_i o ho
    cases hdk:dstOk n o.dst with
    | false=>rw [hdk] at h;exact h.elim
    | true =>
      rw [hdk] at h
      simp only [cond_true] at h
      obtain ⟨F1,b,hF1,hgr,hrun,hskip⟩:=guardK_ok h
      have hval:∃ v,gdet P tt fo full o F1 L v∧rOps P tt fo n full r (fput F1 o.dst v) L ((i,v) :: D) K:=by
       cases b with
       | true=>obtain ⟨v,h1,h2⟩:=hrun rfl;exact ⟨v,gdet_of hgr (fun _=>h1) (by simp),h2⟩
       | false=>exact ⟨_,gdet_of hgr (by simp) (fun _=>rfl),hskip rfl⟩
      obtain ⟨v,hg,hr⟩:=hval
      rw [List.cons_append,List.nodup_cons] at hnd
      have hipre:i∉pre:=hdis i (by simp)
      have hies:i∉es:=hes i (by simp)
      have hl:=hlook.1 o ho
      have hown:∀ s∈lookS full o,o.dst≠some s:=by
       intro s hs hd
       rcases hl s hs i o ho hd with ⟨a,_⟩|⟨a,_⟩
       ·exact hipre a
       ·exact a rfl
      have hD1:∀ p∈(i,v) :: D,DF P tt fo full A es (i :: pre) (fput F1 o.dst v) L p:=by
       intro p hp
       rcases List.mem_cons.1 hp with rfl|hp
       ·refine ⟨o,ho,gdet_congr (fun s hs=>(fput_other (hown s hs) v).symm) hg,fun d hd=>fput_self hd v,by simp,hies,?_⟩
        intro s hs k ok hk hkd
        rcases hl s hs k ok hk hkd with ⟨a,b⟩|⟨_,a,b⟩
        ·exact .inl ⟨List.mem_cons_of_mem _ a,b⟩
        ·exact .inr ⟨a,b⟩
       ·exact ((hD p hp).frame hF1).put hdst ho hipre (.inl hies) v (fun x hx=>List.mem_cons_of_mem _ hx)
      obtain ⟨F',D',pre',k1,k2,k2b,k3,k4,k5,k6⟩:=rOps_ok hdst hr hlook.2 hnd.2 (fun j hj=>by
       simp only [List.mem_cons,not_or]
       exact ⟨fun e=>hnd.1 (by rw [← e];exact hj),hdis j (List.mem_cons_of_mem _ hj)⟩) (fun x hx=>hes x (List.mem_cons_of_mem _ hx)) hD1
      refine ⟨F',D',pre',k1,k2,k2b,k3,?_,fun p hp=>k5 p (List.mem_cons_of_mem _ hp),?_⟩
      ·intro j hj
       rcases List.mem_cons.1 hj with rfl|hj
       ·exact ⟨v,o,k5 _ (by simp),ho,hdk⟩
       ·exact k4 j hj
      ·intro s hs
       have h1:s∉dstsOf full r:=fun hm=>hs (by
        obtain ⟨x,hx,y⟩:=mem_dstsOf.1 hm
        exact mem_dstsOf.2 ⟨x,List.mem_cons_of_mem _ hx,y⟩)
       have h2:o.dst≠some s:=fun hd=>hs (mem_dstsOf.2 ⟨i,by simp,o,ho,hd⟩)
       rw [k6 s h1,fput_other h2,hF1]
   ·exact h.elim
theorem keepD_ok {full:List Oper} {anc:List Nat} {F:AF} {L:List AB}:∀ {D:PD} {K:PD→Prop},keepD P tt fo full anc F L D K →
  ∃ D',K D'∧(∀ p∈D,p.1∉anc→p∈D')∧(∀ p∈D',p∈D∧p.1∉anc∧∃ o,full[p.1]? = some o∧(lfree o=true∨gdet P tt fo full o F L p.2))
 | [],K,h=>⟨[],h,by simp,by simp⟩
 | (i,v) :: r,K,h=>by
   simp only [keepD] at h
   cases hm:memB i anc with
   | true =>
     rw [hm] at h
     obtain ⟨D',h1,h2,h3⟩:=keepD_ok (D:=r) h
     refine ⟨D',h1,?_,fun p hp=>by obtain ⟨a,b⟩:=h3 p hp;exact ⟨List.mem_cons_of_mem _ a,b⟩⟩
     intro p hp hpa
     rcases List.mem_cons.1 hp with rfl|hp
     ·exact absurd (memB_true hm) hpa
     ·exact h2 p hp hpa
   | false =>
     rw [hm] at h
     simp only [cond_false,nthO_get] at h
     split at h
     ·rename_i o ho
      have key:∃ D',K ((i,v) :: D')∧(lfree o=true∨gdet P tt fo full o F L v)∧(∀ p∈r,p.1∉anc→p∈D')∧(∀ p∈D',p∈r∧p.1∉anc∧∃ o,full[p.1]? = some o∧(lfree o=true∨gdet P tt fo full o F L p.2)):=by
       cases hl:lfree o with
       | true =>
         rw [hl] at h
         obtain ⟨D',h1,h2,h3⟩:=keepD_ok (D:=r) h
         exact ⟨D',h1,.inl rfl,h2,h3⟩
       | false =>
         rw [hl] at h
         obtain ⟨D',h1,h2,h3⟩:=keepD_ok (D:=r) h.2
         exact ⟨D',h1,.inr h.1,h2,h3⟩
      obtain ⟨D',h1,h2,h3,h4⟩:=key
      refine ⟨_,h1,?_,?_⟩
      ·intro p hp hpa
       rcases List.mem_cons.1 hp with rfl|hp
       ·simp
       ·exact List.mem_cons_of_mem _ (h3 p hp hpa)
      ·intro p hp
       rcases List.mem_cons.1 hp with rfl|hp
       ·exact ⟨by simp,memB_ok hm,o,ho,h2⟩
       ·obtain ⟨a,b⟩:=h4 p hp;exact ⟨List.mem_cons_of_mem _ a,b⟩
     ·exact h.elim
theorem gstep {full:List Oper} {i:Nat} {o:Oper} (hi:full[i]? = some o) {c:Ctx} (hn:∀ x,o.dst=some x→x<c.n) {E:Nat→Option Nat} {F:AF} {L:List AB} {a:Act} {w:World} (hs:Sim c E F L a w) {b:Bool} (hg:GR full o F b)
  {Kop:AV→List AB→Prop} {K':Act→World→Prop} {Q:Exit→Act→World→Prop} (hrun:b=true→OpRes P o c F L a w Kop)
  (hskip:b=false→K' (a.put o.dst undef) w)
  (hK:∀ av L' E' a' w',Kop av L'→Sim c E' (fput F o.dst av) L' a' w'→K' a' w'):wpOp P full.toArray Q i K' a w:=by
 unfold wpOp
 have ho:full.toArray[i]? = some o:=by simpa using hi
 rw [ho]
 simp only
 have hw:Region.wanted o (yielded full.toArray a.tmps)=b:=by
  unfold GR at hg
  unfold Region.wanted
  split at hg
  ·rename_i hn';rw [hn',hg]
  ·rename_i j want hn'
   obtain ⟨s,h1,⟨t,h2,rfl⟩|⟨h2,rfl⟩⟩:=hg
   rotate_left
   ·rw [hn']
    obtain ⟨og,hog,hogd⟩:=nthDst_ok h1
    have hb:=hs.slots s
    rw [h2] at hb
    simp only [VR,VRt] at hb
    obtain ⟨us,hb1,hb2⟩:=hb
    have hslot:yielded full.toArray a.tmps j=none:=by
     unfold yielded
     have:full.toArray[j]? = some og:=by simpa using hog
     simp only [this,Option.bind_some,hogd]
     by_cases hlt:s<a.tmps.size
     ·have:a.tmps[s]? = some (a.tmps.getD s undef):=by simp [hlt]
      rw [this,hb1]
     ·have:a.tmps[s]? = none:=by simp [Nat.le_of_not_lt hlt]
      rw [this]
    simp only [hslot]
    rfl
   rw [hn']
   obtain ⟨og,hog,hogd⟩:=nthDst_ok h1
   have hb:=hs.slots s
   rw [h2] at hb
   simp only [VR,VD] at hb
   have hslot:yielded full.toArray a.tmps j=some t:=by
    unfold yielded
    have:full.toArray[j]? = some og:=by simpa using hog
    simp only [this,Option.bind_some,hogd]
    by_cases hlt:s<a.tmps.size
    ·have:a.tmps[s]? = some (a.tmps.getD s undef):=by simp [hlt]
     rw [this,hb]
    ·exfalso
     have:a.tmps.getD s undef=undef:=by simp [Nat.le_of_not_lt hlt]
     rw [this] at hb
     cases hb
   simp only [hslot]
   cases t<;>cases want<;>rfl
 rw [hw]
 cases b with
 | true=>exact .inl (opRes_wp hn (hrun rfl) hK)
 | false=>exact hskip rfl
end
end
end Go.Ab
