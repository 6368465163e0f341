/- NodeFormsCard: abstract runs. -/
import Derived.Test.YtgkhgapkfnkagaaGreatDoorNodeFormsCardLye12
set_option linter.unusedVariables false
set_option linter.unusedSimpArgs false
namespace Go.Ab
noncomputable section
open Go.RowKit Go.MapKept
theorem dvE_map:∀ {xs:List AV} {ds:List DV},dvE xs=some ds→xs=ds.map AV.d
 | [],ds,h=>by
   have:some []=some ds:=h
   cases this;rfl
 | x :: r,ds,h=>by
   cases x<;>first
    | (cases (show (none:Option (List DV))=some ds from h);done)
    | (rename_i y
       replace h:(Option.rec (motive:=fun _=>Option (List DV)) none (fun l=>some (y :: l)) (dvE r):Option (List DV))=some ds:=h
       cases hr:dvE r with
       | none=>rw [hr] at h;cases h
       | some l =>
         rw [hr] at h
         cases h
         rw [dvE_map hr];rfl)
def mfA (key:List DV) (es:List (KV×MV)):Nat→Option (Option (Nat×MV)) :=
 List.rec (motive:=fun _=>Nat→Option (Option (Nat×MV))) (fun _=>some none) (fun p _ ih j=>match p.1 with
  | .agg ds=>match esE (mD key) (mD ds) with
    | some b=>match b with
      | true=>some (some (j,p.2))
      | false=>ih (Nat.succ j)
    | none=>none
  | .one _=>none) es
theorem mfA_c (key:List DV) (p:KV×MV) (r:List (KV×MV)) (j:Nat):mfA key (p :: r) j=match p.1 with
  | .agg ds=>match esE (mD key) (mD ds) with
    | some b=>match b with
      | true=>some (some (j,p.2))
      | false=>mfA key r (Nat.succ j)
    | none=>none
  | .one _=>none:=rfl
theorem mfA_in (ρ:Nat→Nat) (key:List DV):∀ (es:List (KV×MV)) (j:Nat),mfA key (inE ρ es) j=(mfA key es j).map (inR ρ)
 | [],_=>rfl
 | (k,m) :: r,j=>by
   show mfA key ((k,inM ρ m) :: inE ρ r) j=_
   rw [mfA_c,mfA_c]
   cases k with
   | one x=>rfl
   | agg ds =>
     simp only
     cases esE (mD key) (mD ds) with
     | none=>rfl
     | some b =>
       cases b with
       | true=>rfl
       | false=>exact mfA_in ρ key r (Nat.succ j)
theorem ec_same {rd:Addr→Value→Prop} {x y:DV} (h:ecE (.d x) (.d y)=some true) {u v:Value} (hu:VD rd x u) (hv:VD rd y v):u=v∧∀ n,Instr.sameBits n u u=true:=by
 unfold ecE at h
 split at h
 ·rename_i k a k' b e1 e2
  cases e1
  cases e2
  split at h
  ·rename_i hk
   simp only [VD] at hu hv
   subst hu hv
   rw [Option.some.injEq,zeq_eq,beq_iff_eq] at h
   rw [keq_eq hk,h]
   exact ⟨rfl,fun n=>by simp [Instr.sameBits]⟩
  ·cases h
 ·rename_i a b e1 e2
  cases e1
  cases e2
  simp only [VD] at hu hv
  subst hu hv
  have e:bsEq a b=true:=Option.some.inj h
  rw [bsEq_beq] at e
  have:=(bytes_beq a b).1 e
  subst this
  exact ⟨rfl,fun n=>by simpa [Instr.sameBits] using (bytes_beq a a).2 rfl⟩
 ·cases h
theorem es_same {rd:Addr→Value→Prop}:∀ {xs ys:List DV},esE (mD xs) (mD ys)=some true→∀ {us vs:List Value},VDs rd xs us→VDs rd ys vs→us=vs∧∀ n,(us.zip us).all (fun q=>Instr.sameBits n q.1 q.2)=true
 | [],ys,h,us,vs,hu,hv=>by
   cases ys with
   | nil =>
     simp only [VDs,Cs] at hu hv
     subst hu hv
     exact ⟨rfl,fun n=>rfl⟩
   | cons y r=>cases (show (none:Option Bool)=some true from h)
 | x :: xs,ys,h,us,vs,hu,hv=>by
   cases ys with
   | nil=>cases (show (none:Option Bool)=some true from h)
   | cons y ys =>
     replace h:(match ecE (.d x) (.d y) with
      | some b=>match esE (mD xs) (mD ys) with
        | some c=>some (b&&c)
        | none=>none
      | none=>none)=some true:=h
     split at h
     ·rename_i b hb
      split at h
      ·rename_i c hc
       rw [Option.some.injEq,Bool.and_eq_true] at h
       obtain ⟨rfl,rfl⟩:=h
       simp only [VDs,Cs] at hu hv
       obtain ⟨u,us',rfl,_,hu1,hu2⟩:=hu
       obtain ⟨v,vs',rfl,_,hv1,hv2⟩:=hv
       obtain ⟨e1,s1⟩:=ec_same hb hu1 hv1
       obtain ⟨e2,s2⟩:=es_same hc hu2 hv2
       refine ⟨by rw [e1,e2],fun n => ?_⟩
       rw [List.zip_cons_cons,List.all_cons,s1 n,s2 n];rfl
      ·cases h
     ·cases h
section
variable {P:Program} {w:World}
theorem run_checkKey_fld {em:Bool} {b:Bool} {t:TypeId} (he:fldB P b t=true) (n:Nat) (v:Value):(Instr.checkKey em (n+1) t v).run P w = .ok () w:=by
 unfold fldB at he
 split at he
 ·rename_i hu
  unfold Instr.checkKey
  simp only [Sem.run_bind,run_underlying hu,Result.andThen]
  cases v<;>simp
 ·rename_i hu
  unfold Instr.checkKey
  simp only [Sem.run_bind,run_underlying hu,Result.andThen]
  cases v<;>simp
 ·cases he
theorem run_checkKey_agg {em:Bool} {kt:TypeId} {bs:List Bool} (hg:eqOkB P kt bs=true) {us:Array Value} (hl:us.size=bs.length) (n:Nat):(Instr.checkKey em (n+1+1) kt (.agg us)).run P w = .ok () w:=by
 unfold eqOkB at hg
 simp only [Bool.and_eq_true,Bool.not_eq_true'] at hg
 obtain ⟨⟨hg,_⟩,_⟩:=hg
 split at hg
 ·rename_i fs hu
  rw [Instr.checkKey]
  simp only [Sem.run_bind,run_underlying hu,Result.andThen_ok]
  rw [← Array.forIn_toList]
  have key:∀ (L:List Field) (k:Nat) (bs:List Bool),flatB P L k bs=true→k+bs.length=us.size→(forIn L PUnit.unit fun f _=>do
    if f.name ≠ "_" then Instr.checkKey em (n+1) f.type (← part f.type us f.offset)
    pure (ForInStep.yield PUnit.unit):Sem PUnit).run P w = .ok PUnit.unit w:=by
   intro L
   induction L with
   | nil=>intro k bs _ _;simp
   | cons f L ih =>
     intro k bs hf hk
     cases bs with
     | nil=>simp [flatB] at hf
     | cons b bs =>
       simp only [flatB,Bool.and_eq_true,decide_eq_true_iff] at hf
       obtain ⟨⟨⟨f1,f2⟩,f3⟩,f4⟩:=hf
       have f2:=Nat.eq_of_beq_eq_true f2
       simp only [List.length_cons] at hk
       have hlt:f.offset<us.size:=by omega
       have p1:(part f.type us f.offset).run P w = .ok us[f.offset] w:=run_part_flat f3 (by simp [hlt])
       have p2:=run_checkKey_fld (w:=w) (em:=em) f3 n us[f.offset]
       simp only [List.forIn_cons,Sem.run_bind,f1,ne_eq,not_false_eq_true,if_true,Result.andThen_ok,p1,p2,Sem.run_pure]
       exact ih (k+1) bs f4 (by omega)
  have:=key fs.toList 0 bs hg (by omega)
  simp at this
  simp [this]
 ·cases hg
theorem findAsk_ok {R:RC} {kt:TypeId} {ds:List DV} (hg:eqOkB P kt (shpL (ds.map AV.d))=true) {us:Array Value} (hv:VDs R.rd ds us.toList):∀ {es:List (KV×MV)} {ents:List MapEntry} {j:Nat} {r:Option (Nat×MV)},VME R.rd w es ents→mfA ds es j=some r →
  ∃ res,(Instr.findAsking kt (.agg us) ents j).run P w = .ok res w∧(r=none→res=none)∧(∀ i m,r=some (i,m)→∃ t u k',i=j+t∧ents[t]? = some u∧es[t]? = some (k',m)∧res=some (i,u.val)∧u.key = .agg us∧Instr.sameBits 10000 (.agg us) (.agg us)=true∧VMV R.rd w m u.val)
 | [],ents,j,r,he,hr=>by
   simp only [VME] at he
   subst he
   have:some none=some r:=hr
   cases this
   exact ⟨none,by simp [Instr.findAsking],fun _=>rfl,fun i m h=>by cases h⟩
 | (k,m) :: rest,ents,j,r,he,hr=>by
   simp only [VME] at he
   obtain ⟨u,us',rfl,hk,hm,he⟩:=he
   rw [mfA_c] at hr
   cases k with
   | one x=>cases hr
   | agg ds' =>
     simp only at hr
     obtain ⟨ks,hks,hkv⟩:=hk
     cases hes:esE (mD ds) (mD ds') with
     | none=>rw [hes] at hr;cases hr
     | some b =>
       rw [hes] at hr
       have heq:(Op.equal kt (.agg us) u.key).run P w = .ok b w:=by
        have h2:=esE_ok (ρ:=id) hes (K:=fun c=>c=b) rfl
        rw [in_mD,in_mD] at h2
        have h1:=hg
        unfold eqOkB at h1
        simp only [Bool.and_eq_true,Bool.not_eq_true'] at h1
        obtain ⟨⟨h1,h3⟩,h4⟩:=h1
        split at h1
        ·rename_i fs hfs
         have hfo:P.fieldsOf kt=fs:=by rw [Program.fieldsOf,hfs]
         obtain ⟨c,hc,rfl⟩:=eqFields_ok (P:=P) (w:=w) (R:=R) (U:=us) (V:=ks) 9998 h1 (by simpa using VRs_d.2 hv) (by simpa using VRs_d.2 hkv) h2
         rw [hks]
         show (Op.equalIn 10000 kt (.agg us) (.agg ks)).run P w=_
         rw [show (10000:Nat)=9999+1 from rfl,run_equalIn_agg w 9999 kt us ks (by rw [hfo];exact hfs) h4,hfo]
         exact hc
        ·cases h1
       cases b with
       | true =>
         simp only [Option.some.injEq] at hr
         subst hr
         obtain ⟨e1,s1⟩:=es_same hes hv hkv
         refine ⟨some (j,u.val),by simp [Instr.findAsking,heq],(fun h=>by cases h),?_⟩
         rintro i m' h
         cases h
         refine ⟨0,u,.agg ds',rfl,rfl,rfl,rfl,?_,?_,hm⟩
         ·rw [hks]
          congr 1
          exact (Array.toList_inj.1 e1).symm
         ·rw [show (10000:Nat)=9999+1 from rfl]
          simp only [Instr.sameBits,beq_self_eq_true,Bool.true_and]
          exact s1 9999
       | false =>
         simp only at hr
         obtain ⟨res,g1,g2,g3⟩:=findAsk_ok hg hv (es:=rest) he hr
         refine ⟨res,by simp [Instr.findAsking,heq,g1],g2,?_⟩
         intro i m' h
         obtain ⟨t,u',k',e1,e2,e3,e4⟩:=g3 i m' h
         exact ⟨t+1,u',k',by rw [e1];omega,by simpa using e2,by simpa using e3,e4⟩
theorem findKey_agg {R:RC} {kt:TypeId} {ds:List DV} (hg:eqOkB P kt (shpL (ds.map AV.d))=true) {us:Array Value} (hv:VDs R.rd ds us.toList) {es:List (KV×MV)} {ents:List MapEntry} {r:Option (Nat×MV)} (he:VME R.rd w es ents) (hr:mfA ds es 0=some r) :
  ∃ res,(Instr.findKey kt (.agg us) ents).run P w = .ok res w∧(r=none→res=none)∧(∀ i m,r=some (i,m)→∃ u k',ents[i]? = some u∧es[i]? = some (k',m)∧res=some (i,u.val)∧u.key = .agg us∧Instr.sameBits 10000 (.agg us) (.agg us)=true∧VMV R.rd w m u.val):=by
 obtain ⟨res,g1,g2,g3⟩:=findAsk_ok hg hv he hr
 have hus:∃ fs,P.underlying kt=some (.struct fs):=by
  have h1:=hg
  unfold eqOkB at h1
  simp only [Bool.and_eq_true] at h1
  have h1:=h1.1.1
  split at h1
  ·rename_i fs hfs;exact ⟨fs,hfs⟩
  ·cases h1
 obtain ⟨fs,hfs⟩:=hus
 refine ⟨res,?_,g2,fun i m h => ?_⟩
 ·cases ents with
  | nil =>
    simp only [Instr.findAsking,Sem.run_pure] at g1
    cases g1
    simp [Instr.findKey,run_underlying hfs,Result.andThen,Instr.findNow]
  | cons u us' =>
    have:Instr.findNow (.struct fs) (.agg us) (u :: us') 0=none:=by simp [Instr.findNow,Instr.sameNow]
    simp only [Instr.findKey,Sem.run_bind,run_underlying hfs,Result.andThen_ok,this]
    exact g1
 ·obtain ⟨t,u,k',e1,e2,e3,e4⟩:=g3 i m h
  rw [Nat.zero_add] at e1
  subst e1
  exact ⟨u,k',e2,e3,e4⟩
end
def lkK (P:Program) (tt:TypeId→Option TI) (t:TypeId) (ok:Bool) (L:List AB) (x k:AV) (K:AV→List AB→Prop):Prop :=
 ∃ i kt et ei ds mi es r,tt t=some i∧mapDesc i.desc=some (kt,et)∧tt et=some ei∧k = .agg (ds.map AV.d)∧eqOkB P kt (shpL (ds.map AV.d))=true∧x = .map mi∧L[mi]? = some (.map es)∧mfA ds es 0=some r∧lookRes L mi (avOf ei.zero) ok r K
def upK (P:Program) (tt:TypeId→Option TI) (t:TypeId) (L:List AB) (x k v:AV) (K:List AB→Prop):Prop :=
 ∃ i kt et ds mi,tt t=some i∧mapDesc i.desc=some (kt,et)∧k = .agg (ds.map AV.d)∧eqOkB P kt (shpL (ds.map AV.d))=true∧x = .map mi∧kvK v L fun dv L1=>∃ es r,L1[mi]? = some (.map es)∧mfA ds es 0=some r∧K (L1.set mi (.map (mputAt es r (.agg ds) (.v dv))))
section
variable {P:Program} {tt:TypeId→Option TI}
theorem mapDesc_ok {d:TypeDesc} {kt et:Nat} (h:mapDesc d=some (kt,et)):d = .map kt et:=by
 cases d<;>simp [mapDesc] at h
 obtain ⟨rfl,rfl⟩:=h
 rfl
theorem lkK_ok (ht:TTok P tt) {c:Ctx} {E:Nat→Option Nat} {L:List AB} {w:World} (hs:SimH c E L w) {t:TypeId} {ok:Bool} {x k:AV} {K:AV→List AB→Prop} (h:lkK P tt t ok L x k K)
  {xv kv:Value} (hx:VR (rcOf c.M0 E L w) x xv) (hk:VR (rcOf c.M0 E L w) k kv):∃ r av,(Instr.lookup t xv kv ok).run P w = .ok r w∧K av L∧VR (rcOf c.M0 E L w) av r:=by
 obtain ⟨i,kt,et,ei,ds,mi,es,r,hi,hmd,hei,rfl,hg,rfl,hL,hr,h4⟩:=h
 have hu:P.underlying t=some (.map kt et):=by rw [(ht t i hi).1,mapDesc_ok hmd]
 obtain ⟨b,ents,clock,hE,rfl,hh,hv,_,_⟩:=map_at hs hL hx
 simp only [VR] at hk
 obtain ⟨us,rfl,hk⟩:=hk
 have hkd:=VRs_d.1 hk
 obtain ⟨res,f0,f1,f2⟩:=findKey_agg (P:=P) hg hkd hv hr
 obtain ⟨hu',info,z1,z2,z3,z4⟩:=ht et ei hei
 have hzero:(zeroValue et).run P w = .ok ei.zero w:=by simp [zeroValue,typeInfo,z1,z2]
 have hsl:∀ l:List DV,(shpL (l.map AV.d)).length=l.length:=fun l=>by
  induction l with
  | nil=>rfl
  | cons x r ih=>show Nat.succ ((shpL (List.map AV.d r)).length)=_;rw [ih];rfl
 have hsz:us.size=(shpL (ds.map AV.d)).length:=by rw [hsl,← Array.length_toList,Cs_length hkd]
 have hcheck:(Instr.checkKey ents.isEmpty 10000 kt (.agg us)).run P w = .ok () w:=run_checkKey_agg (w:=w) (em:=ents.isEmpty) hg hsz 9998
 cases r with
 | none =>
   obtain ⟨av,k1,k2⟩:=lookRes_ok (VR_avOf (rcOf c.M0 E L w) ei.zero) h4 (w:=w) (rv:=(ei.zero,false)) (fun _=>rfl) (by simp)
   refine ⟨_,av,?_,k1,k2⟩
   rw [f1 rfl] at f0
   simp only [Instr.lookup,Sem.run_bind,run_underlying hu,Result.andThen_ok,Go.MapKept.run_getObj_map hh,Sem.run_pure,hcheck,f0,hzero]
 | some jm =>
   obtain ⟨j,m⟩:=jm
   obtain ⟨u,k',e2,e3,e4,e5,_,e6⟩:=f2 j m rfl
   obtain ⟨av,k1,k2⟩:=lookRes_ok (VR_avOf (rcOf c.M0 E L w) ei.zero) h4 (w:=w) (rv:=(u.val,true)) (by simp) (fun j' m' he=>by cases he;exact ⟨rfl,e6⟩)
   refine ⟨_,av,?_,k1,k2⟩
   rw [e4] at f0
   simp only [Instr.lookup,Sem.run_bind,run_underlying hu,Result.andThen_ok,Go.MapKept.run_getObj_map hh,Sem.run_pure,hcheck,f0]
theorem upK_ok (ht:TTok P tt) {c:Ctx} (hc:c.wf) {E:Nat→Option Nat} {L:List AB} {w:World} (hs:SimH c E L w) {t:TypeId} {x k v:AV} {K:List AB→Prop} (h:upK P tt t L x k v K)
  {xv kv u:Value} (hx:VR (rcOf c.M0 E L w) x xv) (hk:VR (rcOf c.M0 E L w) k kv) (hu:VR (rcOf c.M0 E L w) v u) :
  ∃ w' L',(Instr.mapUpdate t xv kv u).run P w = .ok () w'∧K L'∧SimH c E L' w'∧(rcOf c.M0 E L w).le (rcOf c.M0 E L' w'):=by
 obtain ⟨i,kt,et,ds,mi,hi,hmd,rfl,hg,rfl,h3⟩:=h
 have hut:P.underlying t=some (.map kt et):=by rw [(ht t i hi).1,mapDesc_ok hmd]
 obtain ⟨dv,L1,⟨es,r,hL,hr,hK⟩,hs1,hle1,hdv⟩:=kvK_ok hc hs h3 hu
 obtain ⟨b,ents,clock,hE,rfl,hh,hv,hborn,hclock⟩:=map_at hs1 hL (VR.mono hle1 _ _ hx)
 replace hk:=VR.mono hle1 _ _ hk
 simp only [VR] at hk
 obtain ⟨us,rfl,hk⟩:=hk
 have hkd:=VRs_d.1 hk
 obtain ⟨res,f0,f1,f2⟩:=findKey_agg (P:=P) hg hkd hv hr
 have hsl:∀ l:List DV,(shpL (l.map AV.d)).length=l.length:=fun l=>by
  induction l with
  | nil=>rfl
  | cons x r ih=>show Nat.succ ((shpL (List.map AV.d r)).length)=_;rw [ih];rfl
 have hsz:us.size=(shpL (ds.map AV.d)).length:=by rw [hsl,← Array.length_toList,Cs_length hkd]
 have hcheck:(Instr.checkKey false 10000 kt (.agg us)).run P w = .ok () w:=run_checkKey_agg (w:=w) (em:=false) hg hsz 9998
 have hmv:VMV (rcOf c.M0 E L1 w).rd w (.v dv) u:=hdv
 have hkk:VKV (rcOf c.M0 E L1 w).rd (.agg ds) (.agg us):=⟨us,rfl,hkd⟩
 cases r with
 | none =>
   rw [f1 rfl] at f0
   obtain ⟨hs',hle⟩:=hs1.remap1 (es':=mputAt es none (.agg ds) (.v dv)) (ents':=ents.push { key := .agg us,val:=u,born:=clock }) (clock':=clock+1) hL hE hh boxesM_put_v
    (by simp only [Array.toList_push];exact VME_push (u':={ key := .agg us,val:=u,born:=clock }) hkk hmv hv)
    (by
      simp only [Array.toList_push,List.map_append,List.map_cons,List.map_nil]
      rw [List.pairwise_append]
      refine ⟨hborn,by simp,?_⟩
      intro x hx y hy
      simp at hy
      subst hy
      obtain ⟨u,hu',rfl⟩:=List.mem_map.1 hx
      exact hclock u hu')
    (by
      simp only [Array.toList_push,List.mem_append,List.mem_singleton]
      rintro x (hx|rfl)
      ·exact Nat.lt_succ_of_lt (hclock x hx)
      ·exact Nat.lt_succ_self _)
   refine ⟨_,_,?_,hK,hs',hle1.trans hle⟩
   simp only [Instr.mapUpdate,Sem.run_bind,run_underlying hut,Result.andThen_ok,Go.MapKept.run_getObj_map hh,hcheck,f0]
   exact Go.MapKept.run_setObj_map _ hh
 | some jm =>
   obtain ⟨j,m0⟩:=jm
   obtain ⟨u0,k',e2,e3,e4,e5,e6,_⟩:=f2 j m0 rfl
   rw [e4] at f0
   have e2':ents[j]? = some u0:=by simpa using e2
   have hmod:=modify_toList ents j u0 (fun e=>{ e with key := .agg us,val:=u }) e2
   obtain ⟨hs',hle⟩:=hs1.remap1 (es':=mputAt es (some (j,m0)) (.agg ds) (.v dv)) (ents':=ents.modify j fun e=>{ e with key := .agg us,val:=u }) (clock':=clock) hL hE hh boxesM_put_v
    (by rw [hmod];exact VME_set (u':={ u0 with key := .agg us,val:=u }) hkk hmv hv j)
    (by rw [hmod,map_set_born (u':={ u0 with key := .agg us,val:=u }) e2 rfl];exact hborn)
    (by
      rw [hmod]
      intro x hx
      rcases List.mem_or_eq_of_mem_set hx with hx|rfl
      ·exact hclock x hx
      ·exact hclock u0 (List.mem_of_getElem? e2))
   refine ⟨_,_,?_,hK,hs',hle1.trans hle⟩
   simp only [Instr.mapUpdate,Sem.run_bind,run_underlying hut,Result.andThen_ok,Go.MapKept.run_getObj_map hh,hcheck,f0,e2',Option.map_some,Option.getD_some,Instr.keyThatStays,e5,e6,if_true,Sem.run_pure]
   exact Go.MapKept.run_setObj_map _ hh
end
end
end Go.Ab
