/- NodeFormsCard: abstract runs. -/
import Derived.Test.YtgkhgapkfnkagaaGreatDoorNodeFormsCardLye13
set_option linter.unusedVariables false
set_option linter.unusedSimpArgs false
namespace Go.Ab
noncomputable section
open Go.RowKit
abbrev Cal:=FuncId→List AV→Hp→Nat→Option (AV×Hp×Nat)
def CalOk (P:Program) (cal:Cal):Prop:=∀ f avs L nx v L' nx',cal f avs L nx=some (v,L',nx')→∀ ρ,ACalls P f (inAs ρ avs) (inH ρ L) (fun av Lo=>∃ ρ',Ext nx nx' ρ ρ'∧av=inA ρ' v∧Lo=inH ρ' L')
def pbE (x:AV) (T:Fr) (L:Hp) (nx:Nat):Option (AV×Hp×Nat) :=
 match oneAV x||aggB x with
 | true=>match tDsE (cellsOf x) L with
   | some (ds,L1)=>match idT nx T&&idH nx L1 with
     | true=>some (.mp (hN L1) nx 0,bxP nx (hN L1) (psh L1 (.pool nx (List.rec (motive:=fun _=>List DV) [] (fun d _ ih=>nm1 d :: ih) ds))),Nat.succ nx)
     | false=>none
   | none=>none
 | false=>none
def lkE (P:Program) (tt:TypeId→Option TI) (t:TypeId) (ok:Bool) (L:Hp) (x k:AV):Option AV :=
 match k with
 | .agg cs=>match dvE cs with
   | some ds=>match tt t with
     | some i=>match mapDesc i.desc with
       | some (kt,et)=>match tt et with
         | some ei=>match eqOkB P kt (shpL cs) with
           | true=>match x with
             | .map mi=>match hG L mi with
               | some (.map es)=>match mfA ds es 0 with
                 | some r=>some (lrE mi (avOf ei.zero) ok r)
                 | none=>none
               | _=>none
             | _=>none
           | false=>none
         | none=>none
       | none=>none
     | none=>none
   | none=>none
 | _=>none
theorem lkE_ok {ρ:Nat→Nat} {P:Program} {tt:TypeId→Option TI} {t:TypeId} {ok:Bool} {L:Hp} {x k v:AV} (h:lkE P tt t ok L x k=some v) {K:AV→List AB→Prop} (hk:K (inA ρ v) (inH ρ L)):lkK P tt t ok (inH ρ L) (inA ρ x) (inA ρ k) K:=by
 unfold lkE at h
 split at h
 ·rename_i cs
  split at h
  ·rename_i ds hds
   have e:=dvE_map hds
   subst e
   split at h
   ·rename_i i hi
    split at h
    ·rename_i kt et hmd
     split at h
     ·rename_i ei hei
      split at h
      ·rename_i hg
       split at h
       ·rename_i mi
        split at h
        ·rename_i es hj
         split at h
         ·rename_i r hr
          cases h
          refine ⟨i,kt,et,ei,ds,mi,inE ρ es,inR ρ r,hi,hmd,hei,?_,hg,rfl,inH_at hj,?_,?_⟩
          ·show AV.agg (inAs ρ (ds.map AV.d))=_
           rw [inAs_d]
          ·rw [mfA_in,hr];rfl
          ·have:=lrE_ok (ρ:=ρ) (L:=inH ρ L) (i:=mi) (z:=avOf ei.zero) (ok:=ok) (r:=r) (K:=K) hk
           rw [inA_avOf] at this
           exact this
         ·cases h
        ·cases h
       ·cases h
      ·cases h
     ·cases h
    ·cases h
   ·cases h
  ·cases h
 ·cases h
def upE (P:Program) (tt:TypeId→Option TI) (t:TypeId) (L:Hp) (x k v:AV):Option Hp :=
 match k with
 | .agg cs=>match dvE cs with
   | some ds=>match tt t with
     | some i=>match mapDesc i.desc with
       | some (kt,et)=>match eqOkB P kt (shpL cs) with
         | true=>match x with
           | .map mi=>match kvE v L with
             | some (dv,L1)=>match hG L1 mi with
               | some (.map es)=>match mfA ds es 0 with
                 | some r=>some (hS L1 mi (.map (mpE es r (.agg ds) (.v dv))))
                 | none=>none
               | _=>none
             | none=>none
           | _=>none
         | false=>none
       | none=>none
     | none=>none
   | none=>none
 | _=>none
theorem upE_ok {ρ:Nat→Nat} {P:Program} {tt:TypeId→Option TI} {t:TypeId} {L L':Hp} {x k v:AV} (h:upE P tt t L x k v=some L') {K:List AB→Prop} (hk:K (inH ρ L')):upK P tt t (inH ρ L) (inA ρ x) (inA ρ k) (inA ρ v) K:=by
 unfold upE at h
 split at h
 ·rename_i cs
  split at h
  ·rename_i ds hds
   have e:=dvE_map hds
   subst e
   split at h
   ·rename_i i hi
    split at h
    ·rename_i kt et hmd
     split at h
     ·rename_i hg
      split at h
      ·rename_i mi
       split at h
       ·rename_i dv L1 hkv
        split at h
        ·rename_i es hj
         split at h
         ·rename_i r hr
          cases h
          refine ⟨i,kt,et,ds,mi,hi,hmd,?_,hg,rfl,kvE_ok hkv ⟨inE ρ es,inR ρ r,inH_at hj,by rw [mfA_in,hr];rfl,?_⟩⟩
          ·show AV.agg (inAs ρ (ds.map AV.d))=_
           rw [inAs_d]
          ·rw [inH_set] at hk
           have e:inB ρ (.map (mpE es r (.agg ds) (.v dv))) = .map (mputAt (inE ρ es) (inR ρ r) (.agg ds) (.v dv)):=by
            show AB.map (inE ρ (mpE es r (.agg ds) (.v dv)))=_
            rw [mpE_in];rfl
           rw [e] at hk
           exact hk
         ·cases h
        ·cases h
       ·cases h
      ·cases h
     ·cases h
    ·cases h
   ·cases h
  ·cases h
 ·cases h
def aiE (tt:TypeId→Option TI) (t:TypeId) (x ix:AV):Option AV :=
 match x with
 | .ptr j off=>match ix with
   | .d (.int _ z)=>match zN z with
     | some m=>match tt t with
       | some i=>match i.desc with
         | .array n e=>match tt e with
           | some ei=>match Nat.blt m n with
             | true=>some (.ptr j (Nat.add off (Nat.mul m ei.size)))
             | false=>none
           | none=>none
         | _=>none
       | none=>none
     | none=>none
   | _=>none
 | _=>none
theorem aiE_ok {ρ:Nat→Nat} {tt:TypeId→Option TI} {t:TypeId} {x ix:Operand} {v:AV} {o:Oper} {T:Fr} {F:AF} {L:List AB} {K:AV→List AB→Prop} (hF:Ag ρ T F) (ho:o.op = .indexAddr t x ix) (h:aiE tt t (eT T x) (eT T ix)=some v) (hk:K (inA ρ v) L):xX tt o F L K:=by
 unfold aiE at h
 split at h
 ·rename_i j off hx
  split at h
  ·rename_i k z hix
   split at h
   ·rename_i m hm
    obtain rfl:=zN_ok hm
    split at h
    ·rename_i i hi
     split at h
     ·rename_i n e hd
      split at h
      ·rename_i ei hei
       split at h
       ·rename_i hlt
        cases h
        have h1:m<n:=(blt_iff _ _).1 hlt
        refine ⟨t,x,ix,i,n,e,ei,k,m,j,off,ho,hi,hd,hei,by rw [eT_ok hF,hx];rfl,by rw [eT_ok hF,hix];rfl,by omega,by omega,?_⟩
        exact hk
       ·cases h
      ·cases h
     ·cases h
    ·cases h
   ·cases h
  ·cases h
 ·cases h
section
variable (cal:Cal) (P:Program) (tt:TypeId→Option TI) (fo:FuncId→Bool) (n:Nat)
def plainE (o:Oper) (T:Fr) (L:Hp) (nx:Nat):Option (AV×Hp×Nat) :=
 match opE P tt o T L with
 | some (v,m)=>some (v,up m L,nx)
 | none=>none
def poolB (t:TypeId):Bool:=match tt t with|some i=>i.pool|none=>false
def stpE (o:Oper) (T:Fr) (L:Hp) (nx:Nat):Option (AV×Hp×Nat) :=
 match o.op with
 | .call c=>match c.callee with
   | .value f=>match eT T f with
     | .fn g caps=>match fo g with
       | true=>match cal g (aN (sT T c.args.toList) caps) L nx with
         | some (v,L',nx')=>match stay nx nx' T with
           | true=>some (v,L',nx')
           | false=>none
         | none=>none
       | false=>none
     | _=>none
   | _=>plainE P tt o T L nx
 | .box t x=>match poolB tt t with
   | true=>pbE (eT T x) T L nx
   | false=>plainE P tt o T L nx
 | .lookup t m k ok=>match isAggA (eT T k) with
   | true=>match lkE P tt t ok L (eT T m) (eT T k) with
     | some v=>some (v,L,nx)
     | none=>none
   | false=>plainE P tt o T L nx
 | .mapUpdate t m k v=>match isAggA (eT T k) with
   | true=>match upE P tt t L (eT T m) (eT T k) (eT T v) with
     | some L'=>some (.d .any,L',nx)
     | none=>none
   | false=>plainE P tt o T L nx
 | .insert t m k v=>match isAggA (eT T k) with
   | true=>match upE P tt t L (eT T m) (eT T k) (eT T v) with
     | some L'=>some (.d .any,L',nx)
     | none=>none
   | false=>plainE P tt o T L nx
 | .indexAddr t x ix=>match aiE tt t (eT T x) (eT T ix) with
   | some v=>some (v,L,nx)
   | none=>plainE P tt o T L nx
 | _=>plainE P tt o T L nx
end
section
variable {cal:Cal} {P:Program} {tt:TypeId→Option TI} {fo:FuncId→Bool} {n:Nat}
theorem norm1Ks_in:∀ {xs:List DV} {K:List DV→Prop},K (xs.map norm1)→norm1Ks xs K
 | [],K,h=>h
 | x :: r,K,h=>by
   show norm1K x fun y=>norm1Ks r fun l=>K (y :: l)
   have:norm1Ks r fun l=>K (norm1 x :: l):=norm1Ks_in (K:=fun l=>K (norm1 x :: l)) h
   cases x<;>exact this
theorem nm1s_eq:∀ ds:List DV,(List.rec (motive:=fun _=>List DV) [] (fun d _ ih=>nm1 d :: ih) ds:List DV)=ds.map norm1
 | []=>rfl
 | d :: r=>by
   show nm1 d :: (List.rec (motive:=fun _=>List DV) [] (fun d _ ih=>nm1 d :: ih) r:List DV)=_
   rw [nm1s_eq r,nm1_eq];rfl
def Step (ρ:Nat→Nat) (nx:Nat) (T:Fr) (r:AV×Hp×Nat) (X:(AV→List AB→Prop)→Prop):Prop :=
 ∀ K:AV→List AB→Prop,(∀ ρ',Ext nx r.2.2 ρ ρ'→(∀ F,Ag ρ T F→Ag ρ' T F)→K (inA ρ' r.1) (inH ρ' r.2.1))→X K
theorem plainE_ok {ρ:Nat→Nat} {o:Oper} {T:Fr} {F:AF} {L:Hp} {nx:Nat} {r:AV×Hp×Nat} (hF:Ag ρ T F) (h:plainE P tt o T L nx=some r):Step ρ nx T r (oX P tt fo o F (inH ρ L)):=by
 intro K hk
 unfold plainE at h
 split at h
 ·rename_i v m hm
  cases h
  exact .inl (opE_ok hF hm K (hk ρ (Ext.refl ..) fun _ h=>h))
 ·cases h
theorem stpE_ok (hcal:CalOk P cal) {ρ:Nat→Nat} {o:Oper} {T:Fr} {F:AF} {L:Hp} {nx:Nat} {r:AV×Hp×Nat} (hF:Ag ρ T F) (h:stpE cal P tt fo o T L nx=some r):Step ρ nx T r (oX P tt fo o F (inH ρ L)):=by
 unfold stpE at h
 split at h
 ·rename_i c ho
  split at h
  ·rename_i f hf
   split at h
   ·rename_i g caps hg
    split at h
    ·rename_i hfg
     split at h
     ·rename_i v L' nx' hc
      split at h
      ·rename_i hst
       cases h
       intro K hk
       refine .inr (.inl ⟨c,f,g,inAs ρ caps,ho,hf,by rw [eT_ok hF,hg];rfl,hfg,?_⟩)
       have e:evs F c.args.toList++inAs ρ caps=inAs ρ (aN (sT T c.args.toList) caps):=by
        rw [sT_in hF,aN_eq,inAs_map,inAs_map,inAs_map,List.map_append]
       rw [e]
       refine (hcal _ _ _ _ _ _ _ hc ρ).mono ?_
       rintro _ _ ⟨ρ',h1,rfl,rfl⟩
       exact hk ρ' h1 fun F hF=>stay_ok hst h1 hF
      ·cases h
     ·cases h
    ·cases h
   ·cases h
  ·exact plainE_ok hF h
 ·rename_i t x ho
  split at h
  ·rename_i hp
   intro K hk
   refine .inl ?_
   unfold aopK
   rw [ho]
   simp only
   rw [eT_ok hF]
   unfold poolB at hp
   split at hp
   ·rename_i i hi
    unfold boxTK
    rw [hi]
    simp only
    rw [hp,cond_true]
    unfold pbE at h
    split at h
    ·rename_i h1
     split at h
     ·rename_i ds L1 hd
      split at h
      ·rename_i hid
       cases h
       rw [Bool.and_eq_true] at hid
       unfold boxPK
       rw [oneAV_in,aggB_in,h1,cond_true,cellsOf_in]
       refine tDsE_ok hd ?_
       refine norm1Ks_in ?_
       intro b
       let ρ':Nat→Nat:=fun i=>if i=nx then b else ρ i
       have hb:Bl nx ρ ρ':=fun i hi=>by
        show (if i=nx then b else ρ i)=ρ i
        rw [if_neg (by omega)]
       have he:Ext nx (Nat.succ nx) ρ ρ':=⟨Nat.le_succ nx,hb,fun e=>absurd e (by omega)⟩
       have hk':=hk ρ' he fun F hF=>idT_ok hb hid.1 hF
       have hn:ρ' nx=b:=if_pos rfl
       rw [bxP_in] at hk'
       have e1:inL ρ' (toL L1)=inH ρ L1:=idH_ok hb hid.2
       refine lpushK_in ?_
       rw [Nat.zero_add,inH_len]
       have e2:inH ρ' (psh L1 (.pool nx (List.rec (motive:=fun _=>List DV) [] (fun d _ ih=>nm1 d :: ih) ds)))=inH ρ L1++[.pool b (ds.map norm1)]:=by
        rw [inH_psh,nm1s_eq]
        show inH ρ' L1++[.pool (ρ' nx) (ds.map norm1)]=_
        rw [hn]
        show inL ρ' (toL L1)++_=_
        rw [e1]
       rw [e2] at hk'
       have e3:inA ρ' (.mp (hN L1) nx 0) = .mp (hN L1) b 0:=by
        show AV.mp (hN L1) (ρ' nx) 0=_
        rw [hn]
       rw [e3] at hk'
       exact hk'
      ·cases h
     ·cases h
    ·cases h
   ·cases hp
  ·exact plainE_ok hF h
 ·rename_i t m k ok ho
  split at h
  ·split at h
   ·rename_i v hv
    cases h
    intro K hk
    refine .inr (.inr (.inl (.inl ⟨t,m,k,ok,ho,?_⟩)))
    rw [eT_ok hF,eT_ok hF]
    exact lkE_ok hv (hk ρ (Ext.refl ..) fun _ h=>h)
   ·cases h
  ·exact plainE_ok hF h
 ·rename_i t m k v ho
  split at h
  ·split at h
   ·rename_i L' hv
    cases h
    intro K hk
    refine .inr (.inr (.inl (.inr ⟨t,m,k,v,.inl ho,?_⟩)))
    rw [eT_ok hF,eT_ok hF,eT_ok hF]
    exact upE_ok hv (hk ρ (Ext.refl ..) fun _ h=>h)
   ·cases h
  ·exact plainE_ok hF h
 ·rename_i t m k v ho
  split at h
  ·split at h
   ·rename_i L' hv
    cases h
    intro K hk
    refine .inr (.inr (.inl (.inr ⟨t,m,k,v,.inr ho,?_⟩)))
    rw [eT_ok hF,eT_ok hF,eT_ok hF]
    exact upE_ok hv (hk ρ (Ext.refl ..) fun _ h=>h)
   ·cases h
  ·exact plainE_ok hF h
 ·rename_i t x ix ho
  split at h
  ·rename_i v hv
   cases h
   intro K hk
   exact .inr (.inr (.inr (aiE_ok hF ho hv (hk ρ (Ext.refl ..) fun _ h=>h))))
  ·exact plainE_ok hF h
 ·exact plainE_ok hF h
end
section
variable (cal:Cal) (P:Program) (tt:TypeId→Option TI) (fo:FuncId→Bool) (n:Nat)
def gdE (full:List Oper) (o:Oper) (T:Fr):Option Bool :=
 match o.guard with
 | none=>some true
 | some (j,want)=>match nthDst full j with
   | some s=>match tG T s with
     | .d (.bool t)=>some (match t with|true=>want|false => !want)
     | .tup []=>some false
     | _=>none
   | none=>none
def rgE (full ops:List Oper):Fr→Hp→Nat→Option (Fr×Hp×Nat) :=
 List.rec (motive:=fun _=>Fr→Hp→Nat→Option (Fr×Hp×Nat)) (fun T L nx=>some (T,L,nx)) (fun o _ ih T L nx=>match dstOk n o.dst with
  | true=>match gdE full o T with
    | some true=>match stpE cal P tt fo o T L nx with
      | some (v,L',nx')=>fcA v fun v=>ih (tP T o.dst v) L' nx'
      | none=>none
    | some false=>ih (tP T o.dst (.tup [])) L nx
    | none=>none
  | false=>none) ops
end
section
variable {cal:Cal} {P:Program} {tt:TypeId→Option TI} {fo:FuncId→Bool} {n:Nat}
theorem gdE_ok {ρ:Nat→Nat} {full:List Oper} {o:Oper} {T:Fr} {F:AF} (hF:Ag ρ T F) {b:Bool} (h:gdE full o T=some b):GR full o F b:=by
 unfold gdE at h
 unfold GR
 split at h
 ·rename_i hg
  rw [hg]
  cases h;rfl
 ·rename_i j want hg
  rw [hg]
  simp only
  split at h
  ·rename_i s hs
   split at h
   ·rename_i t ht
    cases h
    refine ⟨s,hs,.inl ⟨t,by rw [hF s,ht];rfl,?_⟩⟩
    cases t<;>cases want<;>rfl
   ·rename_i ht
    cases h
    exact ⟨s,hs,.inr ⟨by rw [hF s,ht];rfl,rfl⟩⟩
   ·cases h
  ·cases h
theorem rgE_ok (ht:TTok P tt) (hz:ZOok tt) (hfo:FOok P fo) (hcal:CalOk P cal) {full:List Oper} {c:Ctx} (hc:c.wf) (hcn:c.n=n) {Q:Exit→Act→World→Prop} :
  ∀ {ops:List Oper} {T:Fr} {L:Hp} {nx:Nat} {T':Fr} {L':Hp} {nx':Nat},rgE cal P tt fo n full ops T L nx=some (T',L',nx')→∀ {ρ:Nat→Nat} {E:Nat→Option Nat} {F:AF} {a:Act} {w:World},Ag ρ T F→Sim c E F (inH ρ L) a w →
    (∀ ρ' E' F' a' w',Ext nx nx' ρ ρ'→Ag ρ' T' F'→Sim c E' F' (inH ρ' L') a' w'→Q .normal a' w')→wpList P full.toArray Q ops a w
 | [],T,L,nx,T',L',nx',h,ρ,E,F,a,w,hF,hs,hq=>by
   have:some (T,L,nx)=some (T',L',nx'):=h
   cases this
   exact hq ρ E F a w (Ext.refl ..) hF hs
 | o :: r,T,L,nx,T',L',nx',h,ρ,E,F,a,w,hF,hs,hq=>by
   replace h:(match dstOk n o.dst with
   | true=>match gdE full o T with
     | some true=>match stpE cal P tt fo o T L nx with
       | some (v,L',nx')=>fcA v fun v=>rgE cal P tt fo n full r (tP T o.dst v) L' nx'
       | none=>none
     | some false=>rgE cal P tt fo n full r (tP T o.dst (.tup [])) L nx
     | none=>none
   | false=>none)=some (T',L',nx'):=h
   split at h
   ·rename_i hd
    have hdn:∀ x,o.dst=some x→x<c.n:=by rw [hcn];exact dstOk_ok hd
    split at h
    ·rename_i hg
     have hw:=wanted_of hs (gdE_ok hF hg)
     split at h
     ·rename_i v L1 nx1 hst
      rw [fcA_eq] at h
      refine wpList_step fun K' hK' => ?_
      rw [hw,if_pos rfl]
      have hop:=stpE_ok (F:=F) hcal hF hst (fun av Lo=>∃ ρ1,Ext nx nx1 ρ ρ1∧Ag ρ1 T F∧av=inA ρ1 v∧Lo=inH ρ1 L1) (fun ρ1 h1 h2=>⟨ρ1,h1,h2 F hF,rfl,rfl⟩)
      refine opRes_wp hdn (oX_ok ht hz hfo hc hop hs) ?_
      rintro av Lo E1 a1 w1 ⟨ρ1,h1,h2,rfl,rfl⟩ hs1
      refine hK' _ _ (rgE_ok ht hz hfo hcal hc hcn h (h2.put o.dst v) hs1 fun ρ' E' F' a' w' k1 k2 k3=>hq ρ' E' F' a' w' (h1.trans k1) k2 k3)
     ·cases h
    ·rename_i hg
     have hw:=wanted_of hs (gdE_ok hF hg)
     refine wpList_step fun K' hK' => ?_
     rw [hw,if_neg (by simp)]
     exact hK' _ _ (rgE_ok ht hz hfo hcal hc hcn h (hF.put o.dst (.tup [])) (hs.put o.dst (.tup []) undef hdn (by simp [VR,VRt,undef])) hq)
    ·cases h
   ·cases h
end
end
end Go.Ab
