/- NodeFormsCard: abstract runs. -/
import Derived.Test.YtgkhgapkfnkagaaGreatDoorNodeFormsCardLy20
set_option linter.unusedVariables false
set_option linter.unusedSimpArgs false
namespace Go.Ab
noncomputable section
open Go.RowKit
section
variable {P:Program} {tt:TypeId→Option TI} {fo:FuncId→Bool} {n:Nat}
theorem dirs_mem {o:Oper} {m:Nat}:m∈dirs o↔∃ e∈o.after,Region.binds .any e=true∧e.on=m:=by
 unfold dirs
 simp only [List.mem_map,List.mem_filter]
 constructor
 ·rintro ⟨e,⟨h1,h2⟩,h3⟩;exact ⟨e,by simpa using h1,h2,h3⟩
 ·rintro ⟨e,h1,h2,h3⟩;exact ⟨e,⟨by simpa using h1,h2⟩,h3⟩
structure PlanP (full:List Oper) (A:List (List Nat)) (es:List Nat):Prop where
 dst:DstP full
 anc:∀ j i,i∈nthL A j→∃ o,full[j]? = some o∧(i∈dirs o∨∃ m∈dirs o,i∈nthL A m)
 low:∀ (j:Nat) o,full[j]? = some o→∀ m∈dirs o,m<j
structure DInv (P:Program) (tt:TypeId→Option TI) (fo:FuncId→Bool) (n:Nat) (c:Ctx) (full:List Oper) (A:List (List Nat)) (es:List Nat) (K:AF→List AB→Prop)
  (ph:List (Nat×List Nat)) (pend pre:List Nat) (F:AF) (L:List AB) (D:PD) (listed:Array Bool) (a:Act) (w:World):Prop where
 size:listed.size=full.length
 un:∀ i,listed.getD i true=false↔(i∈pend∨i∈later ph)
 down:∀ j o,full[j]? = some o→j∉pend→j∉later ph→∀ m∈dirs o,m∉pend∧m∉later ph
 sim:∃ E,Sim c E (mask (dstsOf full pend) F) L a w
 facts:∀ p∈D,DF P tt fo full A es pre F L p
 pendD:∀ i∈pend,∃ v o,(i,v)∈D∧full[i]? = some o∧dstOk n o.dst=true
 look:LooksP full A es pre (later ph)
 nd:(pend++later ph).Nodup
 dis:∀ j∈later ph,j∉pre
 chain:∃ p,ChainP A es p ph
 tree:eOps P tt fo n full A ph F L D K
theorem DInv.pendes {c:Ctx} {full:List Oper} {A:List (List Nat)} {es:List Nat} {K:AF→List AB→Prop} {ph:List (Nat×List Nat)} {pend pre:List Nat} {F:AF} {L:List AB} {D:PD} {listed:Array Bool} {a:Act} {w:World}
  (h:DInv P tt fo n c full A es K ph pend pre F L D listed a w):∀ i∈pend,i∉es:=fun i hi=>by
 obtain ⟨v,o,h1,_⟩:=h.pendD i hi
 obtain ⟨_,_,_,_,_,h5,_⟩:=h.facts _ h1
 exact h5
theorem anc_listed {full:List Oper} {A:List (List Nat)} {es:List Nat} (hp:PlanP full A es) {U:Nat→Prop} (down:∀ (j:Nat) o,full[j]? = some o→¬U j→∀ m∈dirs o,¬U m) :
  ∀ (j:Nat) o,full[j]? = some o→(∀ m∈dirs o,¬U m)→∀ i∈nthL A j,¬U i:=by
 intro j
 induction j using Nat.strongRecOn with
 | _ j ih =>
   intro o ho hd i hi
   obtain ⟨o',ho',h⟩:=hp.anc j i hi
   rw [ho] at ho'
   cases ho'
   rcases h with h|⟨m,hm,him⟩
   ·exact hd i h
   ·obtain ⟨om,hom,_⟩:=hp.anc m i him
    exact ih m (hp.low j o ho m hm) om hom (down m om hom (hd m hm)) i him
theorem mem_later_cons {e:Nat} {rs:List Nat} {r:List (Nat×List Nat)} {j:Nat}:j∈later ((e,rs) :: r)↔j=e∨j∈rs∨j∈later r:=by simp [later]
theorem draw_any (ht:TTok P tt) (hz:ZOok tt) (hfo:FOok P fo) {full:List Oper} {A:List (List Nat)} {es:List Nat} (hp:PlanP full A es) {c:Ctx} (hc:c.wf) (hcn:c.n=n) {K:AF→List AB→Prop} {Q:Exit→Act→World→Prop}
  (hq:∀ E F L a w,K F L→Sim c E F L a w→Q .normal a w):∀ (fuel:Nat) (ph:List (Nat×List Nat)) (pend pre:List Nat) (F:AF) (L:List AB) (D:PD) (listed:Array Bool) (a:Act) (w:World),
  DInv P tt fo n c full A es K ph pend pre F L D listed a w→fuel=pend.length+(later ph).length→wpAny P .any full.toArray Q fuel listed a w:=by
 intro fuel
 induction fuel with
 | zero =>
   intro ph pend pre F L D listed a w h hf
   have h1:pend=[]:=List.length_eq_zero_iff.1 (by omega)
   have h2:later ph=[]:=List.length_eq_zero_iff.1 (by omega)
   have h3:ph=[]:=by
    cases ph with
    | nil=>rfl
    | cons x r=>obtain ⟨e,rs⟩:=x;simp [later] at h2
   subst h1 h3
   refine ⟨?_,?_⟩
   ·rw [List.eq_nil_iff_forall_not_mem]
    intro j hj
    have:=(h.un j).1 (mem_ready.1 hj).1
    simp [later] at this
   ·obtain ⟨E,hs⟩:=h.sim
    have ht:=h.tree
    simp only [eOps] at ht
    exact hq E F L a w ht hs
 | succ fuel ih =>
   intro ph pend pre F L D listed a w h hf
   -- what is not done
   have hlt:∀ j,(j∈pend∨j∈later ph)→∃ o,full[j]? = some o:=by
    intro j hj
    have h1:=(h.un j).2 hj
    rcases Nat.lt_or_ge j listed.size with h2|h2
    ·rw [h.size] at h2;exact ⟨full[j],by simp [h2]⟩
    ·simp [Nat.not_lt.2 h2] at h1
   have hedge:∀ (o:Oper),(∀ e∈o.after,Region.binds .any e=true→listed.getD e.on false=true)↔(∀ m∈dirs o,m<full.length∧m∉pend∧m∉later ph):=by
    intro o
    have one:∀ m,listed.getD m false=true↔(m<full.length∧m∉pend∧m∉later ph):=by
     intro m
     have hu:=h.un m
     rw [← h.size]
     rcases Nat.lt_or_ge m listed.size with h2|h2
     ·simp only [Array.getD_eq_getD_getElem?,Array.getElem?_eq_getElem h2,Option.getD_some] at hu ⊢
      cases hb:listed[m] with
      | true=>rw [hb] at hu;simp at hu;simp [h2,hu]
      | false=>rw [hb] at hu;simp at hu;simp;intro _ hn;exact hu.resolve_left hn
     ·simp [Array.getD_eq_getD_getElem?,Array.getElem?_eq_none h2,Nat.not_lt.2 h2]
    constructor
    ·intro h1 m hm
     obtain ⟨e,he,hb,rfl⟩:=dirs_mem.1 hm
     exact (one _).1 (h1 e he hb)
    ·intro h1 e he hb
     exact (one _).2 (h1 _ (dirs_mem.2 ⟨e,he,hb,rfl⟩))
   have hready:∀ j,j∈Region.ready .any full.toArray listed↔(j∈pend∨j∈later ph)∧∃ o,full[j]? = some o∧∀ m∈dirs o,m<full.length∧m∉pend∧m∉later ph:=by
    intro j
    rw [mem_ready,h.un]
    constructor
    ·rintro ⟨h1,o,h2,h3⟩
     exact ⟨h1,o,by simpa using h2,(hedge o).1 h3⟩
    ·rintro ⟨h1,o,h2,h3⟩
     exact ⟨h1,o,by simpa using h2,(hedge o).2 h3⟩
   refine ⟨?_,?_⟩
   · -- something may go
     intro h0
     exfalso
     have none:∀ j,¬(j∈pend∨j∈later ph):=by
      intro j
      induction j using Nat.strongRecOn with
      | _ j ihj =>
        intro hj
        obtain ⟨o,ho⟩:=hlt j hj
        have:j∈Region.ready .any full.toArray listed:=(hready j).2 ⟨hj,o,ho,fun m hm=>by
         have hmj:=hp.low j o ho m hm
         have hjl:j<full.length:=(List.getElem?_eq_some_iff.1 ho).1
         have:=ihj m hmj
         simp only [not_or] at this
         exact ⟨by omega,this⟩⟩
        rw [h0] at this
        cases this
     have:pend++later ph=[]:=List.eq_nil_iff_forall_not_mem.2 fun j hj=>none j (List.mem_append.1 hj)
     have:=congrArg List.length this
     rw [List.length_append,List.length_nil] at this
     omega
   ·intro i hi
    obtain ⟨hun,o,ho,hdirs⟩:=(hready i).1 hi
    have hdown:∀ (j:Nat) o,full[j]? = some o→¬(j∈pend∨j∈later ph)→∀ m∈dirs o,¬(m∈pend∨m∈later ph):=by
     intro j o ho hj m hm
     simp only [not_or] at hj ⊢
     exact h.down j o ho hj.1 hj.2 m hm
    have hanc:=anc_listed hp hdown i o ho (fun m hm=>by have:=hdirs m hm;simp only [not_or];exact this.2)
    obtain ⟨E,hs⟩:=h.sim
    have hisz:i<listed.size:=by rw [h.size];exact (List.getElem?_eq_some_iff.1 ho).1
    have hset:∀ j,(listed.setIfInBounds i true).getD j true=false↔j≠i∧(j∈pend∨j∈later ph):=by
     intro j
     by_cases hji:i=j
     ·subst hji
      simp [hisz]
     ·rw [getD_set_ne true hji,h.un]
      simp [Ne.symm hji]
    by_cases hpend:i∈pend
    · -- one that was reckoned
      obtain ⟨v,o',hvD,ho',hdk⟩:=h.pendD i hpend
      rw [ho] at ho'
      cases ho'
      obtain ⟨o',ho',hg,hdv,hpre,hnes,hlk⟩:=h.facts _ hvD
      simp only at ho' hg hdv hpre hnes hlk
      rw [ho] at ho'
      cases ho'
      have hsame:∀ s∈lookS full o,fget F s=fget (mask (dstsOf full pend) F) s:=by
       intro s hsl
       rw [fget_mask_out]
       intro hm
       obtain ⟨k,hk,ok,hok,hkd⟩:=mem_dstsOf.1 hm
       rcases hlk s hsl k ok hok hkd with ⟨_,b⟩|⟨b,_⟩
       ·exact hanc k b (.inl hk)
       ·exact h.pendes k hk b
      obtain ⟨b,g1,g2,g3⟩:=gdet_out (gdet_congr hsame hg)
      have hdn:∀ x,o.dst=some x→x<c.n:=by rw [hcn];exact dstOk_ok hdk
      have next:∀ E' a' w',Sim c E' (fput (mask (dstsOf full pend) F) o.dst v) L a' w'→wpAny P .any full.toArray Q fuel (listed.setIfInBounds i true) a' w':=by
       intro E' a' w' hs'
       have hnd:=h.nd
       rw [List.nodup_append] at hnd
       have hmem:∀ j,j∈pend.erase i↔j≠i∧j∈pend:=fun j=>hnd.1.mem_erase_iff
       have hil:i∉later ph:=fun hl=>hnd.2.2 i hpend i hl rfl
       refine ih ph (pend.erase i) pre F L D _ a' w' ⟨by simpa using h.size,?_,?_,?_,h.facts,fun j hj=>h.pendD j ((hmem j).1 hj).2,h.look,?_,h.dis,h.chain,h.tree⟩ ?_
       ·intro j
        rw [hset,hmem]
        constructor
        ·rintro ⟨h1,h2|h2⟩
         ·exact .inl ⟨h1,h2⟩
         ·exact .inr h2
        ·rintro (⟨h1,h2⟩|h2)
         ·exact ⟨h1,.inl h2⟩
         ·exact ⟨fun e=>hil (e▸h2),.inr h2⟩
       ·intro j oj hoj hj1 hj2 m hm
        rw [hmem] at hj1 ⊢
        by_cases hji:j=i
        ·subst hji
         rw [ho] at hoj
         cases hoj
         have:=hdirs m hm
         exact ⟨fun hh=>this.2.1 hh.2,this.2.2⟩
        ·have:=h.down j oj hoj (fun hh=>hj1 ⟨hji,hh⟩) hj2 m hm
         exact ⟨fun hh=>this.1 hh.2,this.2⟩
       ·refine ⟨E',hs'.weak fun s => ?_⟩
        by_cases hin:s∈dstsOf full (pend.erase i)
        ·right;exact fget_mask_in hin
        ·left
         rw [fget_mask_out hin]
         by_cases hd:o.dst=some s
         ·rw [fput_self hd];exact hdv s hd
         ·rw [fput_other hd,fget_mask_out]
          intro hm
          obtain ⟨k,hk,ok,hok,hkd⟩:=mem_dstsOf.1 hm
          by_cases hki:k=i
          ·subst hki;rw [ho] at hok;cases hok;exact hd hkd
          ·exact hin (mem_dstsOf.2 ⟨k,(hmem k).2 ⟨hki,hk⟩,ok,hok,hkd⟩)
       ·rw [List.nodup_append]
        exact ⟨hnd.1.erase i,hnd.2.1,fun x hx y hy=>hnd.2.2 x ((hmem x).1 hx).2 y hy⟩
       ·rw [List.length_erase_of_mem hpend]
        have:=List.length_pos_of_mem hpend
        omega
      refine gstep (Kop:=fun v' L'=>v'=v∧L'=L) ho hdn hs g1 (fun hb=>dopK_ok ht hz hfo hc (g2 hb _ ⟨rfl,rfl⟩) hs) (fun hb => ?_) ?_
      ·have hv:=g3 hb
       subst hv
       exact next E _ w (hs.put o.dst (.tup []) undef hdn (by simp [VR,VRt,undef]))
      ·rintro av L' E' a' w' ⟨rfl,rfl⟩ hs'
       exact next E' a' w' hs'
    · -- the next effect
      have hil:i∈later ph:=hun.resolve_left hpend
      obtain ⟨p0,hch⟩:=h.chain
      have hhead:∃ rs rest,ph=(i,rs) :: rest:=by
       rcases later_anc hch i hil with ⟨e,rs,rest,hph,rfl⟩|⟨m,hm1,hm2⟩
       ·exact ⟨rs,rest,hph⟩
       ·exact absurd (.inr hm1) (hanc m hm2)
      obtain ⟨rs,rest,hph⟩:=hhead
      subst hph
      have htree:=h.tree
      simp only [eOps,nthO_get,ho] at htree
      cases hdk:dstOk n o.dst with
      | false=>rw [hdk] at htree;exact htree.elim
      | true =>
        rw [hdk] at htree
        simp only [cond_true] at htree
        obtain ⟨F1,b,hF1,hgr,hrun,hskip⟩:=guardK_ok htree
        have hdn:∀ x,o.dst=some x→x<c.n:=by rw [hcn];exact dstOk_ok hdk
        have hlook:=h.look
        simp only [later] at hlook
        have hl:=hlook.1 o ho
        have hipre:i∉pre:=h.dis i hil
        have hsame:∀ s∈lookS full o,fget F1 s=fget (mask (dstsOf full pend) F1) s:=by
         intro s hsl
         rw [fget_mask_out]
         intro hm
         obtain ⟨k,hk,ok,hok,hkd⟩:=mem_dstsOf.1 hm
         rcases hl s hsl k ok hok hkd with ⟨_,b⟩|⟨_,b,_⟩
         ·exact hanc k b (.inl hk)
         ·exact h.pendes k hk b
        have hs1:Sim c E (mask (dstsOf full pend) F1) L a w:=hs.weak fun s=>by
         by_cases hin:s∈dstsOf full pend
         ·right;exact fget_mask_in hin
         ·left;rw [fget_mask_out hin,fget_mask_out hin,hF1]
        have hnd:=h.nd
        simp only [later] at hnd
        rw [List.nodup_append,List.nodup_cons] at hnd
        have next:∀ av L' E' a' w',(keepD P tt fo full (nthL A i) (fput F1 o.dst av) L' D fun D=>rOps P tt fo n full rs (fput F1 o.dst av) L' D fun F D=>eOps P tt fo n full A rest F L' D K) →
          Sim c E' (fput (mask (dstsOf full pend) F1) o.dst av) L' a' w'→(∀ p∈D,p.1∉nthL A i→∀ o',full[p.1]? = some o'→lfree o'=true→True)→wpAny P .any full.toArray Q fuel (listed.setIfInBounds i true) a' w':=by
         intro av L' E' a' w' hk hs' _
         obtain ⟨D1,hr,hk1,hk2⟩:=keepD_ok hk
         have hD1:∀ p∈D1,DF P tt fo full A es (i :: pre) (fput F1 o.dst av) L' p:=by
          intro p hp'
          obtain ⟨q1,q2,op,q3,q4⟩:=hk2 p hp'
          have hdf:=(((h.facts p q1).frame hF1).put hp.dst ho hipre (.inr q2) av (pre':=i :: pre) (fun x hx=>List.mem_cons_of_mem _ hx))
          obtain ⟨op',r1,r2,r3,r4,r5,r6⟩:=hdf
          rw [q3] at r1
          cases r1
          refine ⟨op,q3,?_,r3,r4,r5,r6⟩
          rcases q4 with q4|q4
          ·exact gdet_L q4 r2 L'
          ·exact q4
         obtain ⟨F3,D3,pre3,m1,m2,m2b,m3,m4,m5,m6⟩:=rOps_ok (rest:=later rest) hp.dst hr hlook.2 hnd.2.1.2 (fun j hj=>by
          simp only [List.mem_cons,not_or]
          exact ⟨fun e=>hnd.2.1.1 (e▸hj),h.dis j (by rw [mem_later_cons];right;exact List.mem_append.1 hj)⟩) (fun x hx=>(hch.2.1 x hx).2) hD1
         refine ih rest (rs++pend) pre3 F3 L' D3 _ a' w' ⟨by simpa using h.size,?_,?_,?_,m3,?_,m2,?_,m2b,⟨_,hch.2.2⟩,m1⟩ ?_
         ·intro j
          rw [hset,mem_later_cons,List.mem_append]
          constructor
          ·rintro ⟨h1,h2|h2|h2|h2⟩
           ·exact .inl (.inr h2)
           ·exact absurd h2 h1
           ·exact .inl (.inl h2)
           ·exact .inr h2
          ·have hne:∀ x,x∈rs++later rest→x≠i:=fun x hx e=>hnd.2.1.1 (e▸hx)
           rintro ((h1|h1)|h1)
           ·exact ⟨hne j (List.mem_append_left _ h1),.inr (.inr (.inl h1))⟩
           ·exact ⟨fun e=>hpend (e▸h1),.inl h1⟩
           ·exact ⟨hne j (List.mem_append_right _ h1),.inr (.inr (.inr h1))⟩
         ·intro j oj hoj hj1 hj2 m hm
          simp only [List.mem_append,not_or] at hj1 ⊢
          have key:m∉pend∧m∉later ((i,rs) :: rest):=by
           by_cases hji:j=i
           ·subst hji
            rw [ho] at hoj
            cases hoj
            exact (hdirs m hm).2
           ·exact h.down j oj hoj hj1.2 (by rw [mem_later_cons];simp only [not_or];exact ⟨hji,hj1.1,hj2⟩) m hm
          rw [mem_later_cons] at key
          simp only [not_or] at key
          exact ⟨⟨key.2.2.1,key.1⟩,key.2.2.2⟩
         ·refine ⟨E',hs'.weak fun s => ?_⟩
          by_cases hin:s∈dstsOf full (rs++pend)
          ·right;exact fget_mask_in hin
          ·left
           rw [fget_mask_out hin]
           have hin1:s∉dstsOf full rs:=fun hm=>hin (by
            obtain ⟨k,hk,y⟩:=mem_dstsOf.1 hm
            exact mem_dstsOf.2 ⟨k,List.mem_append_left _ hk,y⟩)
           have hin2:s∉dstsOf full pend:=fun hm=>hin (by
            obtain ⟨k,hk,y⟩:=mem_dstsOf.1 hm
            exact mem_dstsOf.2 ⟨k,List.mem_append_right _ hk,y⟩)
           rw [m6 s hin1]
           by_cases hd:o.dst=some s
           ·rw [fput_self hd,fput_self hd]
           ·rw [fput_other hd,fput_other hd,fget_mask_out hin2]
         ·intro j hj
          rcases List.mem_append.1 hj with hj|hj
          ·exact m4 j hj
          ·obtain ⟨v,oj,q1,q2,q3⟩:=h.pendD j hj
           exact ⟨v,oj,m5 _ (hk1 _ q1 (fun hh=>hanc j hh (.inl hj))),q2,q3⟩
         ·rw [List.append_assoc,List.nodup_append]
          have hnd2:=hnd.2.1.2
          rw [List.nodup_append] at hnd2
          refine ⟨hnd2.1,?_,?_⟩
          ·rw [List.nodup_append]
           exact ⟨hnd.1,hnd2.2.1,fun x hx y hy=>hnd.2.2 x hx y (List.mem_cons_of_mem _ (List.mem_append_right _ hy))⟩
          ·intro x hx y hy
           rcases List.mem_append.1 hy with hy|hy
           ·exact fun e=>hnd.2.2 y hy x (List.mem_cons_of_mem _ (List.mem_append_left _ hx)) e.symm
           ·exact hnd2.2.2 x hx y hy
         ·simp only [later,List.length_cons,List.length_append] at hf ⊢
          omega
        refine gstep ho hdn hs1 (GR_congr hsame hgr) (fun hb=>aopK_ok ht hz hfo hc (aopK_look hsame (hrun hb)) hs1) (fun hb => ?_) ?_
        ·exact next (.tup []) L E _ w (hskip hb) (hs1.put o.dst (.tup []) undef hdn (by simp [VR,VRt,undef])) (fun _ _ _ _ _ _=>trivial)
        ·intro av L' E' a' w' hk hs'
         exact next av L' E' a' w' hk hs' (fun _ _ _ _ _ _=>trivial)
theorem dstsB_ok:∀ {full:List Oper},dstsB full=true→DstP full
 | [],_=>fun i j o o' d h=>by simp at h
 | o1 :: r,h=>by
   simp only [dstsB,Bool.and_eq_true,List.all_eq_true,Bool.not_eq_true'] at h
   intro i j o o' d hi hj hd hd'
   have hne:∀ o2∈r,∀ x,o1.dst=some x→o2.dst=some x→False:=by
    intro o2 h2 x e1 e2
    have:=h.1 o2 h2
    rw [e1,e2] at this
    simp only [eqO] at this
    rw [Nat.beq_refl] at this
    cases this
   cases i with
   | zero =>
     simp at hi;subst hi
     cases j with
     | zero=>rfl
     | succ j =>
       simp only [List.getElem?_cons_succ] at hj
       exact (hne o' (List.mem_of_getElem? hj) d hd hd').elim
   | succ i =>
     simp only [List.getElem?_cons_succ] at hi
     cases j with
     | zero=>simp at hj;subst hj;exact (hne o (List.mem_of_getElem? hi) d hd' hd).elim
     | succ j =>
       simp only [List.getElem?_cons_succ] at hj
       rw [dstsB_ok h.2 i j o o' d hi hj hd hd']
theorem nthL_get:∀ (A:List (List Nat)) (i:Nat),nthL A i=(A[i]?).getD []
 | [],i=>by simp [nthL_nil,nthL_z,nthL_s]
 | o :: r,0=>by simp [nthL_nil,nthL_z,nthL_s]
 | o :: r,i+1=>by simp only [nthL_nil,nthL_z,nthL_s,List.getElem?_cons_succ];exact nthL_get r i
theorem ancB_ok {full:List Oper} {A:List (List Nat)} (h:ancB full A=true) (j i:Nat) (hi:i∈nthL A j):∃ o,full[j]? = some o∧(i∈dirs o∨∃ m∈dirs o,i∈nthL A m):=by
 rw [nthL_get] at hi
 cases hA:A[j]? with
 | none=>rw [hA] at hi;simp at hi
 | some l =>
   rw [hA] at hi
   simp only [Option.getD_some] at hi
   unfold ancB at h
   have:=allI_ok h j l hA
   simp only [Nat.zero_add,nthO_get] at this
   split at this
   ·rename_i o ho
    rw [List.all_eq_true] at this
    have h1:=this i hi
    simp only [Bool.or_eq_true,List.any_eq_true] at h1
    rcases h1 with h1|⟨m,h1,h2⟩
    ·exact ⟨o,ho,.inl (memB_true h1)⟩
    ·exact ⟨o,ho,.inr ⟨m,h1,memB_true h2⟩⟩
   ·cases l with
    | nil=>simp at hi
    | cons x l=>cases this
theorem adraw_of (ht:TTok P tt) (hz:ZOok tt) (hfo:FOok P fo) (hm:P.follows .mixedOrders=true) {id k0:Nat} {ops:Array Oper} (pl:Plan) (hpl:planB ops.toList pl=true) {K:AF→List AB→Prop} {F:AF} {L:List AB}
  (h:rOps P tt fo n ops.toList pl.r0 F L [] fun F D=>eOps P tt fo n ops.toList pl.anc pl.ph F L D K):ADraw P n k0 id ops K F L:=by
 intro c E a w hc hcn hk hs
 unfold planB at hpl
 simp only [Bool.and_eq_true,List.all_eq_true,Bool.not_eq_true'] at hpl
 obtain ⟨⟨⟨⟨⟨⟨⟨⟨p1,p2⟩,p3⟩,p4⟩,p5⟩,p6⟩,p7⟩,p8⟩,p9⟩:=hpl
 have hnd:=nodupB_ok p1
 have hlen:=Nat.eq_of_beq_eq_true p2.1
 have hall:∀ i,i<ops.toList.length→i∈pl.r0++later pl.ph:=fun i hi=>by
  have:=allI_ok p3 i ops.toList[i] (by rw [List.getElem?_eq_getElem hi])
  rw [Nat.zero_add] at this
  exact memB_true this
 have hpp:PlanP ops.toList pl.anc (pl.ph.map (·.1)):=⟨dstsB_ok p8,ancB_ok p5,fun j o ho m hm=>by
  have:=allI_ok p9 j o ho
  simp only [List.all_eq_true,Nat.zero_add] at this
  exact Nat.lt_of_lt_of_le (Nat.lt_succ_self _) (Nat.le_of_ble_eq_true (this m hm))⟩
 -- all the numbers are in range
 have hrange:∀ i∈pl.r0++later pl.ph,i<ops.toList.length:=by
  intro i hi
  exact Nat.lt_of_lt_of_le (Nat.lt_succ_self _) (Nat.le_of_ble_eq_true (p2.2 i hi))
 have hs0:Sim c E F L a { w with drawn:=w.drawn+1 }:=hs.keeps hc (Keeps.drew w)
 obtain ⟨F',D',pre',k1,k2,k2b,k3,k4,k5,k6⟩:=rOps_ok (A:=pl.anc) (es:=pl.ph.map (·.1)) (rest:=later pl.ph) hpp.dst h (looksB_ok p4) hnd (by simp) (fun r hr=>memB_ok (p7 r hr)) (by simp)
 refine wp_region_any hm ?_
 have e:ops=ops.toList.toArray:=by simp
 rw [e]
 refine draw_any ht hz hfo hpp hc hcn (K:=K) ?_ _ pl.ph pl.r0 pre' F' L D' _ a _ ⟨by simp,?_,?_,?_,k3,k4,k2,hnd,k2b,⟨none,chainB_ok p6⟩,k1⟩ ?_
 ·intro E F L a w hK hs
  exact ⟨E,F,L,hs,rfl,hK⟩
 ·intro i
  rw [← List.mem_append]
  constructor
  ·intro hi
   by_cases hlt:i<ops.toList.length
   ·exact hall i hlt
   ·simp at hlt
    simp [Nat.not_lt.2 hlt] at hi
  ·intro hi
   have:=hrange i hi
   simp at this
   simp [this]
 ·intro j o ho hj1 hj2
  exact absurd (hall j (List.getElem?_eq_some_iff.1 ho).1) (by simp [hj1,hj2])
 ·refine ⟨E,hs0.weak fun s => ?_⟩
  by_cases hin:s∈dstsOf ops.toList pl.r0
  ·right;exact fget_mask_in hin
  ·left;rw [fget_mask_out hin,k6 s hin]
 ·have:ops.toList.toArray.size=(pl.r0++later pl.ph).length:=by rw [hlen];simp
  rw [this]
  simp
end
end
end Go.Ab
set_option linter.unusedVariables false
set_option linter.unusedSimpArgs false
namespace Go.Ab
open Go.RowKit
end Go.Ab
namespace Go.Ab
end Go.Ab
namespace Go.Ab
theorem wrapI {n:Int} (h : -9223372036854775808≤n∧n<9223372036854775808):IntKind.i64.wrap n=n:=by
 simp [IntKind.wrap,IntKind.bits,IntKind.signed]
 omega
end Go.Ab
set_option linter.unusedVariables false
set_option linter.unusedSimpArgs false
namespace Go.Ab
noncomputable section
open Go.RowKit
end
end Go.Ab
