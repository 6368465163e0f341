/- NodeFormsCard: abstract runs. -/
import Derived.Test.YtgkhgapkfnkagaaGreatDoorNodeFormsCardLye17
set_option linter.unusedVariables false
set_option linter.unusedSimpArgs false
namespace Go.Ab
noncomputable section
open Go.RowKit
def arT (avs:List AV):Nat→Fr:=List.rec (motive:=fun _=>Nat→Fr) (fun _ => .leaf) (fun x _ ih i=>tP (ih (Nat.succ i)) (some i) x) avs
theorem arT_ok (ρ:Nat→Nat):∀ (avs:List AV) (i:Nat),Ag ρ (arT avs i) (argF (inAs ρ avs) i)
 | [],_=>fun s=>by
   show AV.d .any=inA ρ (trG (.d .any) (pathOf s) .leaf)
   rw [trG_leaf];rfl
 | x :: r,i=>(arT_ok ρ r (i+1)).put (some i) x
def nilE (tt:TypeId→Option TI) (t:TypeId) (v:AV):AV :=
 match v with
 | .d .nils=>match tt t with
   | some i=>match sliceElem i.desc with
     | some e=>match tt e with
       | some ei=>match Nat.beq ei.size 0 with
         | true => .d .nils
         | false => .d (.sl ei.size [])
       | none => .d .nils
     | none => .d .nils
   | none => .d .nils
 | v=>v
theorem nilE_ok {ρ:Nat→Nat} {tt:TypeId→Option TI} {t:TypeId} {v:AV} {K:AV→Prop} (hk:K (inA ρ (nilE tt t v))):nilsK tt t (inA ρ v) K:=by
 have key:∀ v:AV,v ≠ .d .nils→nilE tt t v=v∧nilsK tt t (inA ρ v) K=K (inA ρ v):=by
  intro v hv
  cases v<;>first|exact ⟨rfl,rfl⟩|(rename_i d;cases d<;>first|exact ⟨rfl,rfl⟩|exact absurd rfl hv)
 by_cases hv:v = .d .nils
 ·subst hv
  show nilsK tt t (.d .nils) K
  unfold nilE at hk
  unfold nilsK
  simp only at hk ⊢
  split at hk
  ·rename_i i hi
   rw [hi]
   simp only
   split at hk
   ·rename_i e he
    rw [he]
    simp only
    split at hk
    ·rename_i ei hei
     rw [hei]
     simp only
     split at hk
     ·rename_i hb;rw [hb];exact hk
     ·rename_i hb;rw [hb];exact hk
    ·rename_i hei
     rw [hei];exact hk
   ·rename_i he
    rw [he];exact hk
  ·rename_i hi
   rw [hi];exact hk
 ·rw [(key v hv).2]
  rw [(key v hv).1] at hk
  exact hk
def rsE (tt:TypeId→Option TI) (T:Fr) (L:Hp) (l:List ResultVar):Option (List AV) :=
 List.rec (motive:=fun _=>Option (List AV)) (some []) (fun q _ ih=>match q with
  | .tmp t=>match ih with
    | some l=>some (tG T t :: l)
    | none=>none
  | .cell p t=>match tt t with
    | some i=>match ldE i L (tG T p) with
      | some v=>match ih with
        | some l=>some (nilE tt t v :: l)
        | none=>none
      | none=>none
    | none=>none) l
theorem rsE_ok {ρ:Nat→Nat} {tt:TypeId→Option TI} {T:Fr} {F:AF} {L:Hp} (hF:Ag ρ T F):∀ {l:List ResultVar} {vs:List AV},rsE tt T L l=some vs→∀ {K:List AV→Prop},K (inAs ρ vs)→resK tt F (inH ρ L) l K
 | [],vs,h,K,hk=>by
   have:some []=some vs:=h
   cases this;exact hk
 | .tmp t :: r,vs,h,K,hk=>by
   replace h:(match rsE tt T L r with
    | some l=>some (tG T t :: l)
    | none=>none)=some vs:=h
   split at h
   ·rename_i l hl
    cases h
    show movK (fget F t) fun v=>resK tt F (inH ρ L) r fun l=>K (v :: l)
    rw [hF t]
    exact movK_in (rsE_ok hF hl (K:=fun l=>K (inA ρ (tG T t) :: l)) hk)
   ·cases h
 | .cell p t :: r,vs,h,K,hk=>by
   replace h:(match tt t with
    | some i=>match ldE i L (tG T p) with
      | some v=>match rsE tt T L r with
        | some l=>some (nilE tt t v :: l)
        | none=>none
      | none=>none
    | none=>none)=some vs:=h
   split at h
   ·rename_i i hi
    split at h
    ·rename_i v hv
     split at h
     ·rename_i l hl
      cases h
      show ttK tt t fun i=>loadK i (inH ρ L) (fget F p) fun v=>movK v fun v=>nilsK tt t v fun v=>resK tt F (inH ρ L) r fun l=>K (v :: l)
      rw [hF p]
      refine ttK_in hi (ldE_ok hv (movK_in (nilE_ok ?_)))
      exact rsE_ok hF hl (K:=fun l=>K (inA ρ (nilE tt t v) :: l)) hk
     ·cases h
    ·cases h
   ·cases h
def tuE (l:List AV):AV:=match l with|[x]=>x|l => .tup l
theorem tupOf_in (ρ:Nat→Nat) (l:List AV):tupOf (inAs ρ l)=inA ρ (tuE l):=by
 match l with
 | []=>rfl
 | [x]=>rfl
 | x :: y :: r=>rfl
section
variable {P:Program} {tt:TypeId→Option TI} {fo:FuncId→Bool}
theorem VR_tup {R:RC} {l:List AV} {us:List Value} (h6:VRt R l us):VR R (tupOf l) (tupV us):=by
 unfold tupOf
 split
 ·rename_i x
  simp only [VRt] at h6
  obtain ⟨u,us',rfl,k1,rfl⟩:=h6
  exact k1
 ·rename_i hne
  have hus:∀ v,us≠[v]:=by
   intro v e
   subst e
   cases l with
   | nil=>simp [VRt] at h6
   | cons x l'' =>
     simp only [VRt] at h6
     obtain ⟨u,us',e1,_,h7⟩:=h6
     cases e1
     cases l'' with
     | nil=>exact hne x rfl
     | cons y l3=>simp [VRt] at h7
  have e:tupV us = .tuple us.toArray:=by
   match us,hus with
   | [],_=>rfl
   | [v],h=>exact absurd rfl (h v)
   | v :: u :: r,_=>rfl
  rw [e]
  simp only [VR]
  exact ⟨us.toArray,rfl,by simpa using h6⟩
theorem acalls_run (ht:TTok P tt) {f:FuncId} {fn:Func} {code:Code} (hf:P.funcs[f]? = some fn) (hb:fn.body=some code) {avs:List AV} {Lin:List AB} {post:AV→List AB→Prop} (hlen:avs.length≤fn.ntmps)
  (h:AW P fn.ntmps Lin.length code (fun e F L'=>(e = .normal∨e = .ret)∧resK tt F L' fn.results.toList fun l=>post (tupOf l) L') (argF avs 0) Lin):ACalls P f avs Lin post:=by
 intro c vs hc hL hs hv
 let c':Ctx:={ c with n:=fn.ntmps }
 have hc':c'.wf:=⟨hc.low,hc.sub,hc.sle⟩
 have hs':SimH c' c.E0 Lin c.w0:=⟨hs.os,hs.tape,hs.output,hs.size,hs.prot,hs.blk,hs.low,hs.inj,hs.old,hs.bx,hs.lk,hs.up⟩
 have hvl:vs.size=avs.length:=by
  have:∀ (l:List AV) (us:List Value),VRt (rcOf c.M0 c.E0 Lin c.w0) l us→us.length=l.length:=by
   intro l
   induction l with
   | nil=>intro us h;simp only [VRt] at h;subst h;rfl
   | cons x l ih=>intro us h;simp only [VRt] at h;obtain ⟨u,us',rfl,_,h2⟩:=h;simp [ih us' h2]
  have:=this _ _ hv
  simpa using this
 refine calls_of_wp hf hb ?_
 have hsim:Sim c' c.E0 (argF avs 0) Lin { tmps:=vs++Array.replicate (fn.ntmps - vs.size) undef,defers:=[] } c.w0:=by
  refine ⟨hs',?_,(by show (vs++Array.replicate (fn.ntmps - vs.size) undef).size=fn.ntmps;simp;omega),rfl⟩
  have key:∀ (l:List AV) (us:List Value) (k:Nat),VRt (rcOf c.M0 c.E0 Lin c.w0) l us→∀ s,(fget (argF l k) s = .d .any)∨(k≤s∧∃ u,us[s - k]? = some u∧VR (rcOf c.M0 c.E0 Lin c.w0) (fget (argF l k) s) u):=by
   intro l
   induction l with
   | nil=>intro us k _ s;exact .inl rfl
   | cons x l ih =>
     intro us k h s
     simp only [VRt] at h
     obtain ⟨u,us',rfl,h1,h2⟩:=h
     simp only [argF,fget_nil,fget_cons]
     cases hbq:Nat.beq k s with
     | true =>
       have:=Nat.eq_of_beq_eq_true hbq
       subst this
       exact .inr ⟨Nat.le_refl _,u,by simp,h1⟩
     | false =>
       simp only [cond_false]
       rcases ih us' (k+1) h2 s with h3|⟨h3,u',h4,h5⟩
       ·exact .inl h3
       ·refine .inr ⟨by omega,u',?_,h5⟩
        have:s - k=(s - (k+1))+1:=by omega
        rw [this];simpa using h4
  intro s
  rcases key avs vs.toList 0 hv s with h1|⟨_,u,h2,h3⟩
  ·rw [h1];simp [VR,VD]
  ·have hlt:s<vs.size:=by
    have:=(List.getElem?_eq_some_iff.1 h2).1
    simpa using this
   have e:(vs++Array.replicate (fn.ntmps - vs.size) undef).getD s undef=u:=by
    have:vs[s]? = some u:=by simpa using h2
    simp [Array.getElem?_append_left hlt,this]
   show VR _ _ ((vs++Array.replicate (fn.ntmps - vs.size) undef).getD s undef)
   rw [e];exact h3
 have hL':c'.L0.length=Lin.length:=by rw [← hL]
 refine wp_mono (h c' c.E0 _ c.w0 hc' rfl hL' hsim) ?_
 rintro e a w' ⟨E',F',L',hsF,he,hres⟩
 obtain ⟨l,us,h1,h2,h3⟩:=resK_ok ht hsF hres
 have hfin:a.defers=[]∧∃ v,(results fn a.tmps).run P w' = .ok v w'∧∃ v' av L'' E'',Ending.returned v = .returned v'∧post av L''∧SimH c E'' L'' w'∧VR (rcOf c.M0 E'' L'' w') av v':=by
  refine ⟨hsF.df,tupV us,run_results fn a.tmps w' us h2,tupV us,tupOf l,L',E',rfl,h1,?_,?_⟩
  ·have q:=hsF.h
   exact ⟨q.os,q.tape,q.output,q.size,q.prot,q.blk,q.low,q.inj,q.old,q.bx,q.lk,q.up⟩
  ·exact VR_tup h3
 rcases he with rfl|rfl
 ·exact hfin
 ·exact hfin
end
section
variable (P:Program) (tt:TypeId→Option TI) (fo:FuncId→Bool) (fl:FuncId→Option Func) (orc:FuncId→Option (List AV→Hp→Nat→Option (AV×Hp×Nat))) (pls:FuncId→Nat→Option Plan)
def fnE (cal:Cal) (fn:Func) (pl:Nat→Option Plan) (avs:List AV) (L:Hp) (nx:Nat):Option (AV×Hp×Nat) :=
 match fn.body with
 | some code=>match Nat.ble (lenN avs) fn.ntmps with
   | true=>match cdE cal P tt fo fn.ntmps pl 1000 code (arT avs 0) L nx with
     | some (e,T',L',nx')=>match (match e with | .n=>true | .r=>true|_=>false) with
       | true=>match rsE tt T' L' fn.results.toList with
         | some l=>fcA (tuE l) fun v=>some (v,L',nx')
         | none=>none
       | false=>none
     | none=>none
   | false=>none
 | none=>none
def clE (D:Nat):Cal :=
 Nat.rec (motive:=fun _=>Cal) (fun _ _ _ _=>none) (fun _ cal f avs L nx=>match orc f with
  | some g=>match g avs L nx with
    | some r=>some r
    | none=>match fl f with
      | some fn=>fnE P tt fo cal fn (pls f) avs L nx
      | none=>none
  | none=>match fl f with
    | some fn=>fnE P tt fo cal fn (pls f) avs L nx
    | none=>none) D
end
section
variable {P:Program} {tt:TypeId→Option TI} {fo:FuncId→Bool} {fl:FuncId→Option Func} {orc:FuncId→Option (List AV→Hp→Nat→Option (AV×Hp×Nat))} {pls:FuncId→Nat→Option Plan}
def FlOk (P:Program) (fl:FuncId→Option Func):Prop:=∀ (f:Nat) fn,fl f=some fn→P.funcs[f]? = some fn
def PlsOk (fl:FuncId→Option Func) (pls:FuncId→Nat→Option Plan):Prop:=∀ (f:Nat) fn code,fl f=some fn→fn.body=some code→PlOk (pls f) code
def OrcOk (P:Program) (orc:FuncId→Option (List AV→Hp→Nat→Option (AV×Hp×Nat))):Prop:=∀ f g,orc f=some g→∀ avs L nx v L' nx',g avs L nx=some (v,L',nx')→∀ ρ,ACalls P f (inAs ρ avs) (inH ρ L) (fun av Lo=>∃ ρ',Ext nx nx' ρ ρ'∧av=inA ρ' v∧Lo=inH ρ' L')
theorem clE_ok (ht:TTok P tt) (hz:ZOok tt) (hfo:FOok P fo) (hm:P.follows .mixedOrders=true) (hfl:FlOk P fl) (horc:OrcOk P orc) (hpl:PlsOk fl pls):∀ D:Nat,CalOk P (clE P tt fo fl orc pls D)
 | 0=>by
   intro f avs L nx v L' nx' h
   cases (show (none:Option (AV×Hp×Nat))=some (v,L',nx') from h)
 | D+1=>by
   intro f avs L nx v L' nx' h ρ
   have ih:=clE_ok ht hz hfo hm hfl horc hpl D
   have run:(match fl f with
    | some fn=>fnE P tt fo (clE P tt fo fl orc pls D) fn (pls f) avs L nx
    | none=>none)=some (v,L',nx')→ACalls P f (inAs ρ avs) (inH ρ L) (fun av Lo=>∃ ρ',Ext nx nx' ρ ρ'∧av=inA ρ' v∧Lo=inH ρ' L'):=by
    intro h
    split at h
    ·rename_i fn hf
     unfold fnE at h
     split at h
     ·rename_i code hb
      split at h
      ·rename_i hlen
       split at h
       ·rename_i e T' L1 nx1 hc
        split at h
        ·rename_i he
         split at h
         ·rename_i l hl
          rw [fcA_eq] at h
          cases h
          have hlen':=Nat.le_of_ble_eq_true hlen
          rw [lenN_eq] at hlen'
          refine acalls_run ht (hfl f fn hf) hb (by rw [inAs_len];exact hlen') ?_
          refine (cdE_ok ht hz hfo hm ih 1000 code (hpl f fn code hf hb) (arT avs 0) L nx _ hc ρ _ _ (arT_ok ρ avs 0)).mono ?_
          rintro e1 F1 L2 ⟨rfl,ρ',h1,h2,rfl⟩
          refine ⟨?_,?_⟩
          ·cases e<;>first|exact .inl rfl|exact .inr rfl|cases he
          ·refine rsE_ok h2 hl ?_
           exact ⟨ρ',h1,tupOf_in ρ' l,rfl⟩
         ·cases h
        ·cases h
       ·cases h
      ·cases h
     ·cases h
    ·cases h
   replace h:(match orc f with
   | some g=>match g avs L nx with
     | some r=>some r
     | none=>match fl f with
       | some fn=>fnE P tt fo (clE P tt fo fl orc pls D) fn (pls f) avs L nx
       | none=>none
   | none=>match fl f with
     | some fn=>fnE P tt fo (clE P tt fo fl orc pls D) fn (pls f) avs L nx
     | none=>none)=some (v,L',nx'):=h
   split at h
   ·rename_i g hg
    split at h
    ·rename_i r hr
     cases h
     exact horc f g hg avs L nx v L' nx' hr ρ
    ·exact run h
   ·exact run h
end
def tgT {α:Type} (T:Tr (Option (Nat×α))) (s:Nat):Option α :=
 match trG none (pathOf s) T with
 | some (s',x)=>match Nat.beq s' s with
   | true=>some x
   | false=>none
 | none=>none
def TrAll {α:Type} (Q:Nat→α→Prop):Tr (Option (Nat×α))→Prop
 | .leaf=>True
 | .node v l r=>(match v with|some (s,x)=>Q s x|none=>True)∧TrAll Q l∧TrAll Q r
theorem TrAll_get {α:Type} {Q:Nat→α→Prop}:∀ (p:List Bool) (T:Tr (Option (Nat×α))),TrAll Q T→∀ {s:Nat} {x:α},trG none p T=some (s,x)→Q s x
 | p,.leaf,_,s,x,h=>by rw [trG_leaf] at h;cases h
 | [],.node v l r,hq,s,x,h=>by
   have:v=some (s,x):=h
   subst this
   exact hq.1
 | false :: p,.node v l r,hq,s,x,h=>TrAll_get p l hq.2.1 h
 | true :: p,.node v l r,hq,s,x,h=>TrAll_get p r hq.2.2 h
theorem tgT_ok {α:Type} {Q:Nat→α→Prop} {T:Tr (Option (Nat×α))} (hq:TrAll Q T) {s:Nat} {x:α} (h:tgT T s=some x):Q s x:=by
 unfold tgT at h
 split at h
 ·rename_i s' x' hg
  split at h
  ·rename_i hb
   cases h
   rw [← Nat.eq_of_beq_eq_true hb]
   exact TrAll_get _ T hq hg
  ·cases h
 ·cases h
def as2 {α:Type} (b:Nat) (l:List (Nat×α)):Option α:=List.rec (motive:=fun _=>Option α) none (fun p _ ih=>Bool.rec (motive:=fun _=>Option α) ih (some p.2) (Nat.beq p.1 b)) l
def trB {α:Type} (q:Nat→α→Bool) (T:Tr (Option (Nat×α))):Bool :=
 Tr.rec (motive:=fun _=>Bool) true (fun v _ _ l r=>match v with
  | some (s,x)=>match q s x with
    | true=>match l with
      | true=>r
      | false=>false
    | false=>false
  | none=>match l with
    | true=>r
    | false=>false) T
theorem trB_ok {α:Type} {q:Nat→α→Bool}:∀ {T:Tr (Option (Nat×α))},trB q T=true→TrAll (fun s x=>q s x=true) T
 | .leaf,_=>trivial
 | .node v l r,h=>by
   cases v with
   | none =>
     replace h:(match trB q l with
      | true=>trB q r
      | false=>false)=true:=h
     split at h
     ·rename_i hl
      exact ⟨trivial,trB_ok hl,trB_ok h⟩
     ·cases h
   | some y =>
     obtain ⟨s,x⟩:=y
     replace h:(match q s x with
      | true=>match trB q l with
        | true=>trB q r
        | false=>false
      | false=>false)=true:=h
     split at h
     ·rename_i hx
      split at h
      ·rename_i hl
       exact ⟨hx,trB_ok hl,trB_ok h⟩
      ·cases h
     ·cases h
def plB (pls:Nat→Option Plan) (c:Code):Bool :=
 Code.rec (motive:=fun _=>Bool) true (fun id ops draw=>match draw with
  | true=>match pls id with
    | some pl=>planB ops.toList pl
    | none=>true
  | false=>true) (fun _ _ a b=>match a with|true=>b|false=>false) (fun _ _ _ a b=>match a with|true=>b|false=>false) (fun _ _ a=>a) (fun _ a=>a) (fun _ _ _ _ _ _=>true) (fun _=>true) (fun _ a=>a) (fun _=>true) (fun _=>true) true (fun _=>true) c
theorem plB_ok {pls:Nat→Option Plan}:∀ {c:Code},plB pls c=true→PlOk pls c
 | .region id ops draw,h=>by
   intro hd pl hpl
   subst hd
   replace h:(match pls id with
    | some pl=>planB ops.toList pl
    | none=>true)=true:=h
   rw [hpl] at h
   exact h
 | .seq a b,h=>by
   replace h:(match plB pls a with|true=>plB pls b|false=>false)=true:=h
   split at h
   ·rename_i ha
    exact ⟨plB_ok ha,plB_ok h⟩
   ·cases h
 | .cond _ a b,h=>by
   replace h:(match plB pls a with|true=>plB pls b|false=>false)=true:=h
   split at h
   ·rename_i ha
    exact ⟨plB_ok ha,plB_ok h⟩
   ·cases h
 | .block _ c,h=>plB_ok (c:=c) h
 | .loop c,h=>plB_ok (c:=c) h
 | .scope c,h=>plB_ok (c:=c) h
 | .skip,_=>trivial
 | .label _,_=>trivial
 | .rangeFunc _ _ _ _,_=>trivial
 | .exit _,_=>trivial
 | .goto _,_=>trivial
 | .ret,_=>trivial
 | .refuse _,_=>trivial
end
end Go.Ab
