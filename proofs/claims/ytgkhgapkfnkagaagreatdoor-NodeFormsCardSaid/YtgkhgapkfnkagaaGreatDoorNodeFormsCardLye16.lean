/- NodeFormsCard: abstract runs. -/
import Derived.LoopN
import Derived.Test.YtgkhgapkfnkagaaGreatDoorNodeFormsCardLye15
set_option linter.unusedVariables false
set_option linter.unusedSimpArgs false
namespace Go.Ab
noncomputable section
open Go.RowKit
def inD (ρ:Nat→Nat) (D:PD):PD:=D.map fun p=>(p.1,inA ρ p.2)
section
variable (cal:Cal) (P:Program) (tt:TypeId→Option TI) (fo:FuncId→Bool) (n:Nat)
def roE (full:List Oper) (l:List Nat):Fr→Hp→PD→Option (Fr×PD) :=
 List.rec (motive:=fun _=>Fr→Hp→PD→Option (Fr×PD)) (fun T _ D=>some (T,D)) (fun i _ ih T L D=>match nthO full i with
  | some o=>match dstOk n o.dst with
    | true=>match isAl o with
      | some (mk,_)=>match mkAB tt mk with
        | some _=>ih (tP T o.dst (.d .any)) L D
        | none=>none
      | none=>match gdE full o T with
        | some true=>match opD P tt o T L with
          | some v=>fcA v fun v=>ih (tP T o.dst v) L ((i,v) :: D)
          | none=>none
        | some false=>ih (tP T o.dst (.tup [])) L ((i,.tup []) :: D)
        | none=>none
    | false=>none
  | none=>none) l
def gtE (full:List Oper) (o:Oper) (T:Fr) (L:Hp) (v:AV):Bool :=
 match gdE full o T with
 | some true=>match opD P tt o T L with
   | some v'=>eqA v' v
   | none=>false
 | some false=>eqA (.tup []) v
 | none=>false
def kpE (full:List Oper) (anc:List Nat) (T:Fr) (L:Hp) (D:PD):Option PD :=
 List.rec (motive:=fun _=>Option PD) (some []) (fun p _ ih=>match memB p.1 anc with
  | true=>ih
  | false=>match nthO full p.1 with
    | some o=>match (match lfree o with|true=>true|false=>gtE P tt full o T L p.2) with
      | true=>match ih with
        | some r=>some (p :: r)
        | none=>none
      | false=>none
    | none=>none) D
def idD (nx:Nat) (D:PD):Bool:=List.rec (motive:=fun _=>Bool) true (fun p _ ih=>Bool.rec (motive:=fun _=>Bool) false ih (idA nx p.2)) D
def stayD (nx nx':Nat) (D:PD):Bool:=Bool.rec (motive:=fun _=>Bool) (idD nx D) true (Nat.beq nx' nx)
def adE (full:List Oper) (anc es:List Nat) (o:Oper) (T:Fr) (L:Hp) (D:PD):Option (Fr×Hp) :=
 match adO full anc es o with
 | none=>some (T,L)
 | some (_,mk,d)=>match tG T d with
   | .d .any=>match adD full d D with
     | true=>match mkAB tt mk with
       | some ab=>some (tP T (some d) (mkAV mk (hN L)),psh L ab)
       | none=>none
     | false=>none
   | _=>some (T,L)
def epE' (full:List Oper) (A:List (List Nat)) (es:List Nat) (l:List (Nat×List Nat)):Fr→Hp→PD→Nat→Option (Fr×Hp×Nat) :=
 List.rec (motive:=fun _=>Fr→Hp→PD→Nat→Option (Fr×Hp×Nat)) (fun T L _ nx=>some (T,L,nx)) (fun p _ ih T L D nx=>match nthO full p.1 with
  | some o=>match dstOk n o.dst with
    | true=>match adE tt full (nthL A p.1) es o T L D with
      | some (T,L)=>match gdE full o T with
        | some true=>match stpE cal P tt fo o T L nx with
          | some (v,L',nx')=>fcA v fun v=>match stayD nx nx' D with
            | true=>match kpE P tt full (nthL A p.1) (tP T o.dst v) L' D with
              | some D1=>match roE P tt n full p.2 (tP T o.dst v) L' D1 with
                | some (T2,D2)=>ih T2 L' D2 nx'
                | none=>none
              | none=>none
            | false=>none
          | none=>none
        | some false=>match kpE P tt full (nthL A p.1) (tP T o.dst (.tup [])) L D with
          | some D1=>match roE P tt n full p.2 (tP T o.dst (.tup [])) L D1 with
            | some (T2,D2)=>ih T2 L D2 nx
            | none=>none
          | none=>none
        | none=>none
      | none=>none
    | false=>none
  | none=>none) l
def drE (full:List Oper) (pl:Plan) (T:Fr) (L:Hp) (nx:Nat):Option (Fr×Hp×Nat) :=
 match roE P tt n full pl.r0 T L [] with
 | some (T1,D1)=>epE' cal P tt fo n full pl.anc (pl.ph.map (·.1)) pl.ph T1 L D1 nx
 | none=>none
end
section
variable {cal:Cal} {P:Program} {tt:TypeId→Option TI} {fo:FuncId→Bool} {n:Nat}
theorem Ag.know {ρ:Nat→Nat} {T:Fr} {F:AF} (h:Ag ρ T F) {s:Nat} {x:AV} (hx:fget F s=x):Ag ρ T ((s,x) :: F):=by
 intro s'
 rw [fget_cons]
 cases hb:Nat.beq s s' with
 | true =>
   rw [← Nat.eq_of_beq_eq_true hb,← hx]
   exact h s
 | false=>exact h s'
theorem guardK_in {ρ:Nat→Nat} {full:List Oper} {o:Oper} {T:Fr} {F:AF} (hF:Ag ρ T F) {b:Bool} (h:gdE full o T=some b) {run skip:AF→Prop} (hr:b=true→∀ F1,Ag ρ T F1→run F1) (hs:b=false→∀ F1,Ag ρ T F1→skip F1):guardK full o F run skip:=by
 unfold gdE at h
 unfold guardK
 split at h
 ·rename_i hg
  rw [hg]
  cases h
  exact hr rfl F hF
 ·rename_i j want hg
  rw [hg]
  simp only
  split at h
  ·rename_i s hsl
   rw [hsl]
   simp only
   split at h
   ·rename_i t ht
    have hft:fget F s = .d (.bool t):=by rw [hF s,ht];rfl
    rw [hft]
    cases h
    cases t<;>cases want
    ·exact hr rfl _ (hF.know hft)
    ·exact hs rfl _ (hF.know hft)
    ·exact hs rfl _ (hF.know hft)
    ·exact hr rfl _ (hF.know hft)
   ·rename_i ht
    have hft:fget F s = .tup []:=by rw [hF s,ht];rfl
    rw [hft]
    cases h
    exact hs rfl F hF
   ·cases h
  ·cases h
theorem roE_ok {ρ:Nat→Nat} {full:List Oper}:∀ {l:List Nat} {T T':Fr} {L:Hp} {D D':PD},roE P tt n full l T L D=some (T',D')→∀ {F:AF} {K:AF→PD→Prop},Ag ρ T F→(∀ F',Ag ρ T' F'→K F' (inD ρ D'))→rOpsG P tt fo n full l F (inH ρ L) (inD ρ D) K
 | [],T,T',L,D,D',h,F,K,hF,hk=>by
   have:some (T,D)=some (T',D'):=h
   cases this
   exact hk F hF
 | i :: r,T,T',L,D,D',h,F,K,hF,hk=>by
   replace h:(match nthO full i with
   | some o=>match dstOk n o.dst with
     | true=>match isAl o with
       | some (mk,_)=>match mkAB tt mk with
         | some _=>roE P tt n full r (tP T o.dst (.d .any)) L D
         | none=>none
       | none=>match gdE full o T with
         | some true=>match opD P tt o T L with
           | some v=>fcA v fun v=>roE P tt n full r (tP T o.dst v) L ((i,v) :: D)
           | none=>none
         | some false=>roE P tt n full r (tP T o.dst (.tup [])) L ((i,.tup []) :: D)
         | none=>none
     | false=>none
   | none=>none)=some (T',D'):=h
   unfold rOpsG
   split at h
   ·rename_i o ho
    rw [ho]
    split at h
    ·rename_i hd
     show (bif dstOk n o.dst then _ else _)
     rw [hd,cond_true]
     split at h
     ·rename_i t d hal
      rw [hal]
      simp only
      split at h
      ·rename_i ab hab
       exact ⟨⟨ab,hab⟩,roE_ok h (hF.put o.dst (.d .any)) hk⟩
      ·cases h
     ·rename_i hal
      rw [hal]
      simp only
      split at h
      ·rename_i hg
       split at h
       ·rename_i v hv
        rw [fcA_eq] at h
        refine guardK_in hF hg (fun _ F1 hF1 => ?_) (fun hh=>by cases hh)
        exact ⟨inA ρ v,opD_ok hF1 hv,roE_ok h (hF1.put o.dst v) hk⟩
       ·cases h
      ·rename_i hg
       refine guardK_in hF hg (fun hh=>by cases hh) (fun _ F1 hF1 => ?_)
       exact roE_ok h (hF1.put o.dst (.tup [])) hk
      ·cases h
    ·cases h
   ·cases h
theorem gtE_ok {ρ:Nat→Nat} {full:List Oper} {o:Oper} {T:Fr} {F:AF} {L:Hp} {v:AV} (hF:Ag ρ T F) (h:gtE P tt full o T L v=true):gdet P tt fo full o F (inH ρ L) (inA ρ v):=by
 unfold gtE at h
 split at h
 ·rename_i hg
  split at h
  ·rename_i v' hv
   rw [← eqA_ok _ _ h]
   exact gdet_of (gdE_ok hF hg) (fun _=>opD_ok hF hv) (fun hh=>by cases hh)
  ·cases h
 ·rename_i hg
  rw [← eqA_ok _ _ h]
  exact gdet_of (gdE_ok hF hg) (fun hh=>by cases hh) (fun _=>rfl)
 ·cases h
theorem kpE_ok {ρ:Nat→Nat} {full:List Oper} {anc:List Nat} {T:Fr} {F:AF} {L:Hp} (hF:Ag ρ T F):∀ {D D':PD},kpE P tt full anc T L D=some D'→∀ {K:PD→Prop},K (inD ρ D')→keepD P tt fo full anc F (inH ρ L) (inD ρ D) K
 | [],D',h,K,hk=>by
   have:some []=some D':=h
   cases this;exact hk
 | p :: r,D',h,K,hk=>by
   obtain ⟨i,v⟩:=p
   replace h:(match memB i anc with
   | true=>kpE P tt full anc T L r
   | false=>match nthO full i with
     | some o=>match (match lfree o with|true=>true|false=>gtE P tt full o T L v) with
       | true=>match kpE P tt full anc T L r with
         | some r=>some ((i,v) :: r)
         | none=>none
       | false=>none
     | none=>none)=some D':=h
   show keepD P tt fo full anc F (inH ρ L) ((i,inA ρ v) :: inD ρ r) K
   unfold keepD
   split at h
   ·rename_i hm
    rw [hm,cond_true]
    exact kpE_ok hF h hk
   ·rename_i hm
    rw [hm,cond_false]
    split at h
    ·rename_i o ho
     rw [ho]
     simp only
     split at h
     ·rename_i hl
      split at h
      ·rename_i r' hr'
       cases h
       have ih:=kpE_ok hF hr' (K:=fun D=>K ((i,inA ρ v) :: D)) hk
       split at hl
       ·rename_i h1
        rw [h1,cond_true]
        exact ih
       ·rename_i h1
        rw [h1,cond_false]
        exact ⟨gtE_ok hF hl,ih⟩
      ·cases h
     ·cases h
    ·cases h
theorem idD_ok {nx:Nat} {ρ ρ':Nat→Nat} (h:Bl nx ρ ρ'):∀ D:PD,idD nx D=true→inD ρ' D=inD ρ D
 | [],_=>rfl
 | (i,v) :: r,k=>by
   replace k:(Bool.rec (motive:=fun _=>Bool) false (idD nx r) (idA nx v):Bool)=true:=k
   cases hx:idA nx v with
   | false=>rw [hx] at k;cases k
   | true =>
     rw [hx] at k
     show (i,inA ρ' v) :: inD ρ' r=(i,inA ρ v) :: inD ρ r
     rw [idA_ok h v hx,idD_ok h r k]
theorem stayD_ok {nx nx':Nat} {ρ ρ':Nat→Nat} {D:PD} (h:stayD nx nx' D=true) (k:Ext nx nx' ρ ρ'):inD ρ' D=inD ρ D:=by
 unfold stayD at h
 cases hb:Nat.beq nx' nx with
 | true=>rw [k.2.2 (Nat.eq_of_beq_eq_true hb)]
 | false =>
   rw [hb] at h
   exact idD_ok k.2.1 D h
theorem adD_in (ρ:Nat→Nat) (full:List Oper) (d:Nat):∀ D:PD,adD full d (inD ρ D)=adD full d D
 | []=>rfl
 | p :: r=>by
   show (match nthO full p.1 with
    | some o=>match memB d (lookS full o)||eqO o.dst (some d) with
      | true=>false
      | false=>adD full d (inD ρ r)
    | none=>false)=(match nthO full p.1 with
    | some o=>match memB d (lookS full o)||eqO o.dst (some d) with
      | true=>false
      | false=>adD full d r
    | none=>false)
   rw [adD_in ρ full d r]
theorem adE_ok {ρ:Nat→Nat} {full:List Oper} {anc es:List Nat} {o:Oper} {T T1:Fr} {F:AF} {L L1:Hp} {D:PD} (hF:Ag ρ T F) (h:adE tt full anc es o T L D=some (T1,L1)) {C:AF→List AB→Prop} (hk:∀ F1,Ag ρ T1 F1→C F1 (inH ρ L1)):adK tt full anc es o F (inH ρ L) (inD ρ D) C:=by
 unfold adE at h
 unfold adK
 split at h
 ·rename_i hado
  rw [hado]
  simp only
  cases h
  exact hk F hF
 ·rename_i m t d hado
  rw [hado]
  simp only
  split at h
  ·rename_i hT
   have hFd:fget F d = .d .any:=by rw [hF d,hT];rfl
   rw [hFd]
   simp only
   split at h
   ·rename_i had
    split at h
    ·rename_i ab hab
     cases h
     refine ⟨by rw [adD_in];exact had,ab,hab,?_⟩
     have:=hk _ (hF.put (some d) (mkAV t (hN L)))
     rw [inH_psh] at this
     have e1:inB ρ ab=ab:=by
      unfold mkAB at hab
      split at hab
      ·split at hab
       ·split at hab
        ·cases hab
         show AB.cells (inAs ρ _)=_
         rw [cellsZ]
        ·cases hab
       ·cases hab
      ·split at hab
       ·split at hab
        ·split at hab
         ·split at hab
          ·cases hab;rfl
          ·cases hab
         ·cases hab
        ·cases hab
       ·cases hab
     have e2:inA ρ (mkAV t (hN L))=mkAV t (inH ρ L).length:=by
      rw [inH_len]
      cases t<;>rfl
     rw [e1,e2] at this
     exact this
    ·cases h
   ·cases h
  ·rename_i hne
   cases h
   split
   ·rename_i e
    rw [hF d] at e
    exact absurd (inA_d e) hne
   ·exact hk F hF
theorem epE'_ok (hcal:CalOk P cal) {full:List Oper} {A:List (List Nat)} {es:List Nat}:∀ {l:List (Nat×List Nat)} {T T':Fr} {L L':Hp} {D:PD} {nx nx':Nat},epE' cal P tt fo n full A es l T L D nx=some (T',L',nx')→∀ {ρ:Nat→Nat} {F:AF} {K:AF→List AB→Prop},Ag ρ T F →
   (∀ ρ' F',Ext nx nx' ρ ρ'→Ag ρ' T' F'→K F' (inH ρ' L'))→eOpsX P tt fo n (oX P tt fo) full A es l F (inH ρ L) (inD ρ D) K
 | [],T,T',L,L',D,nx,nx',h,ρ,F,K,hF,hk=>by
   have:some (T,L,nx)=some (T',L',nx'):=h
   cases this
   exact hk ρ F (Ext.refl ..) hF
 | (e,rs) :: rest,T,T',L,L',D,nx,nx',h,ρ,F,K,hF,hk=>by
   replace h:(match nthO full e with
   | some o=>match dstOk n o.dst with
     | true=>match adE tt full (nthL A e) es o T L D with
       | some (T,L)=>match gdE full o T with
         | some true=>match stpE cal P tt fo o T L nx with
           | some (v,L',nx')=>fcA v fun v=>match stayD nx nx' D with
             | true=>match kpE P tt full (nthL A e) (tP T o.dst v) L' D with
               | some D1=>match roE P tt n full rs (tP T o.dst v) L' D1 with
                 | some (T2,D2)=>epE' cal P tt fo n full A es rest T2 L' D2 nx'
                 | none=>none
               | none=>none
             | false=>none
           | none=>none
         | some false=>match kpE P tt full (nthL A e) (tP T o.dst (.tup [])) L D with
           | some D1=>match roE P tt n full rs (tP T o.dst (.tup [])) L D1 with
             | some (T2,D2)=>epE' cal P tt fo n full A es rest T2 L D2 nx
             | none=>none
           | none=>none
         | none=>none
       | none=>none
     | false=>none
   | none=>none)=some (T',L',nx'):=h
   unfold eOpsX
   split at h
   ·rename_i o ho
    rw [ho]
    split at h
    ·rename_i hd
     show (bif dstOk n o.dst then _ else _)
     rw [hd,cond_true]
     split at h
     ·rename_i T0 L0 had
      refine adE_ok hF had fun F0 hF0 => ?_
      split at h
      ·rename_i hg
       split at h
       ·rename_i v L1 nx1 hst
        rw [fcA_eq] at h
        split at h
        ·rename_i hsd
         split at h
         ·rename_i D1 hD1
          split at h
          ·rename_i T2 D2 hr
           refine guardK_in hF0 hg (fun _ F1 hF1 => ?_) (fun hh=>by cases hh)
           refine stpE_ok hcal hF1 hst _ fun ρ1 h1 h2 => ?_
           have hF2:=(h2 F1 hF1).put o.dst v
           rw [← stayD_ok hsd h1]
           refine kpE_ok hF2 hD1 ?_
           refine roE_ok hr hF2 fun F3 hF3 => ?_
           exact epE'_ok hcal h hF3 fun ρ' F' k1 k2=>hk ρ' F' (h1.trans k1) k2
          ·cases h
         ·cases h
        ·cases h
       ·cases h
      ·rename_i hg
       split at h
       ·rename_i D1 hD1
        split at h
        ·rename_i T2 D2 hr
         refine guardK_in hF0 hg (fun hh=>by cases hh) (fun _ F1 hF1 => ?_)
         have hF2:=hF1.put o.dst (.tup [])
         refine kpE_ok hF2 hD1 ?_
         refine roE_ok hr hF2 fun F3 hF3 => ?_
         exact epE'_ok hcal h hF3 hk
        ·cases h
       ·cases h
      ·cases h
     ·cases h
    ·cases h
   ·cases h
theorem drE_ok (ht:TTok P tt) (hz:ZOok tt) (hfo:FOok P fo) (hm:P.follows .mixedOrders=true) (hcal:CalOk P cal) {id k0:Nat} {ops:Array Oper} {pl:Plan} (hpl:planB ops.toList pl=true) {T T':Fr} {L L':Hp} {nx nx':Nat} (h:drE cal P tt fo n ops.toList pl T L nx=some (T',L',nx')) {ρ:Nat→Nat} {F:AF} (hF:Ag ρ T F) :
  ADraw P n k0 id ops (fun F' Lo=>∃ ρ',Ext nx nx' ρ ρ'∧Ag ρ' T' F'∧Lo=inH ρ' L') F (inH ρ L):=by
 unfold drE at h
 split at h
 ·rename_i T1 D1 hr
  refine adraw_ofX (X:=oX P tt fo) (fun hc hl hx hs=>oX_ok ht hz hfo hc (oX_look hl hx) hs) ht hz hfo hm pl hpl ?_
  refine roE_ok (D:=[]) hr hF fun F1 hF1 => ?_
  exact epE'_ok hcal h hF1 fun ρ' F' k1 k2=>⟨ρ',k1,k2,rfl⟩
 ·cases h
end
end
end Go.Ab
set_option linter.unusedVariables false
set_option linter.unusedSimpArgs false
namespace Go.Ab
open Go.RowKit
section
variable {P:Program} {tt:TypeId→Option TI} {fo:FuncId→Bool} {n k0:Nat}
variable (ht:TTok P tt) (hz:ZOok tt) (hfo:FOok P fo)
include ht hz hfo
end
end Go.Ab
