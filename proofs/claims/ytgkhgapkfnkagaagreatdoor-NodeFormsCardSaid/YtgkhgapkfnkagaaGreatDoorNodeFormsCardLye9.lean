/- NodeFormsCard: abstract runs. -/
import Derived.Test.YtgkhgapkfnkagaaGreatDoorNodeFormsCardLye8
set_option linter.unusedVariables false
set_option linter.unusedSimpArgs false
namespace Go.Ab
noncomputable section
open Go.RowKit
def nwE (tt:TypeId→Option TI) (t:TypeId) (L:Hp):Option RV :=
 match tt t with
 | some i=>match sliceElem i.desc with
   | some e=>match tt e with
     | some ei=>match Nat.beq ei.size 0 with
       | true=>none
       | false=>some (.arr (hN L),some (psh L (.row e ei.size [] false)))
     | none=>none
   | none=>none
 | none=>none
theorem nwE_ok {ρ:Nat→Nat} {tt:TypeId→Option TI} {t:TypeId} {L:Hp} {r:RV} (h:nwE tt t L=some r):Goes ρ L r (nilRowK tt t (inH ρ L)):=by
 intro K hk
 unfold nwE at h
 unfold nilRowK
 split at h
 ·rename_i i hi
  refine ttK_in hi ?_
  split at h
  ·rename_i e he
   rw [he]
   split at h
   ·rename_i ei hei
    refine ttK_in hei ?_
    split at h
    ·cases h
    ·rename_i hb
     cases h
     rw [hb]
     exact lpush_psh (ab := .row e ei.size [] false) hk
   ·cases h
  ·cases h
 ·cases h
def mmE (mx:Bool) (x y:AV):Option AV :=
 match x,y with
 | .d (.int k a),.d (.int _ b)=>match mx with
   | true=>some (.d (.int k (Bool.rec (motive:=fun _=>Int) a b (zle a b))))
   | false=>some (.d (.int k (Bool.rec (motive:=fun _=>Int) b a (zle a b))))
 | _,_=>none
theorem mmE_ok {ρ:Nat→Nat} {mx:Bool} {x y v:AV} (h:mmE mx x y=some v) {K:AV→Prop} (hk:K (inA ρ v)):lessK mx (inA ρ x) (inA ρ y) K:=by
 unfold mmE at h
 split at h
 ·rename_i k a k' b
  split at h
  ·cases h
   have e:(Bool.rec (motive:=fun _=>Int) a b (zle a b):Int)=max a b:=by
    rw [zle_eq]
    by_cases hc:a≤b
    ·rw [decide_eq_true hc]
     show b=max a b
     omega
    ·rw [decide_eq_false hc]
     show a=max a b
     omega
   rw [e] at hk
   exact hk
  ·cases h
   have e:(Bool.rec (motive:=fun _=>Int) b a (zle a b):Int)=min a b:=by
    rw [zle_eq]
    by_cases hc:a≤b
    ·rw [decide_eq_true hc]
     show a=min a b
     omega
    ·rw [decide_eq_false hc]
     show b=min a b
     omega
   rw [e] at hk
   exact hk
 ·cases h
def eN {α:Type} (l:List α):Nat→List α :=
 List.rec (motive:=fun _=>Nat→List α) (fun _=>[]) (fun c r ih n=>Nat.rec (motive:=fun _=>List α) r (fun m _=>c :: ih m) n) l
theorem eN_eq {α:Type}:∀ (l:List α) (n:Nat),eN l n=l.eraseIdx n
 | [],_=>rfl
 | _ :: _,0=>rfl
 | c :: r,n+1=>by
   show c :: eN r n=_
   rw [eN_eq r n];rfl
theorem map_erase {α β:Type} (f:α→β):∀ (l:List α) (j:Nat),(l.eraseIdx j).map f=(l.map f).eraseIdx j
 | [],_=>rfl
 | _ :: _,0=>rfl
 | c :: r,j+1=>by
   show f c :: (r.eraseIdx j).map f=f c :: (r.map f).eraseIdx j
   rw [map_erase f r j]
def deE (tt:TypeId→Option TI) (t:TypeId) (L:Hp) (x k:AV):Option (Option Hp) :=
 match mtE tt t with
 | some (ki,_,_)=>match kyE ki.desc k with
   | some kv=>match x with
     | .map i=>match hG L i with
       | some (.map es)=>match mfE kv es 0 with
         | some none=>some none
         | some (some (j,.v _))=>some (some (hS L i (.map (eN es j))))
         | _=>none
       | _=>none
     | _=>none
   | none=>none
 | none=>none
theorem deE_ok {ρ:Nat→Nat} {tt:TypeId→Option TI} {t:TypeId} {L:Hp} {m:Option Hp} {x k:AV} (h:deE tt t L x k=some m) {K:List AB→Prop} (hk:K (inH ρ (up m L))):deleteK tt t (inH ρ L) (inA ρ x) (inA ρ k) K:=by
 unfold deE at h
 unfold deleteK
 split at h
 ·rename_i ki ei et hm
  refine mtE_ok hm ?_
  split at h
  ·rename_i kv hkv
   refine kyE_ok hkv ?_
   split at h
   ·rename_i i
    split at h
    ·rename_i es hj
     split at h
     ·rename_i hr
      cases h
      rw [mfE_eq] at hr
      exact lgetK_in (inH_at hj) ⟨none,by rw [mfind_in,hr];rfl,hk⟩
     ·rename_i j vv hr
      cases h
      rw [mfE_eq] at hr
      refine lgetK_in (inH_at hj) ⟨inR ρ (some (j,.v vv)),by rw [mfind_in,hr];rfl,?_⟩
      refine lsetK_in (inH_lt hj) ?_
      have e:inH ρ (up (some (hS L i (.map (eN es j)))) L)=(inH ρ L).set i (.map ((inE ρ es).eraseIdx j)):=by
       show inH ρ (hS L i (.map (eN es j)))=_
       rw [inH_set,eN_eq]
       show (inH ρ L).set i (.map (inE ρ (es.eraseIdx j)))=_
       congr 2
       exact map_erase _ _ _
      rw [e] at hk
      exact hk
     ·cases h
    ·cases h
   ·cases h
  ·cases h
 ·cases h
def vE (v:Option AV):Option RV:=Option.rec (motive:=fun _=>Option RV) none (fun v=>some (v,none)) v
theorem vE_ok {v:Option AV} {r:RV} (h:vE v=some r):∃ a,v=some a∧r=(a,none):=by
 cases v with
 | none=>cases h
 | some a=>cases h;exact ⟨a,rfl,rfl⟩
def hE (v:Option Hp):Option RV:=Option.rec (motive:=fun _=>Option RV) none (fun v=>some (.d .any,some v)) v
theorem hE_ok {v:Option Hp} {r:RV} (h:hE v=some r):∃ a,v=some a∧r=(.d .any,some a):=by
 cases v with
 | none=>cases h
 | some a=>cases h;exact ⟨a,rfl,rfl⟩
def cxE (x y:AV):Option AV :=
 match x,y with
 | .d (.flt k a),.d (.flt k' b)=>match fkeq k k' with|true=>some (.d (.cplx k a b))|false=>none
 | _,_=>none
theorem cxE_ok {ρ:Nat→Nat} {x y v:AV} (h:cxE x y=some v) {K:AV→Prop} (hk:K (inA ρ v)):cplxK (inA ρ x) (inA ρ y) K:=by
 unfold cxE at h
 split at h
 ·rename_i k a k' b
  split at h
  ·rename_i hb
   cases h
   show (bif fkeq k k' then K (.d (.cplx k a b)) else False)
   rw [hb];exact hk
  ·cases h
 ·cases h
def riE (re:Bool) (x:AV):Option AV :=
 match x with
 | .d (.cplx k a b)=>match re with
   | true=>some (.d (.flt k a))
   | false=>some (.d (.flt k b))
 | _=>none
theorem riE_ok {ρ:Nat→Nat} {re:Bool} {x v:AV} (h:riE re x=some v) {K:AV→Prop} (hk:K (inA ρ v)):partK re (inA ρ x) K:=by
 unfold riE at h
 split at h
 ·split at h
  ·cases h;exact hk
  ·cases h;exact hk
 ·cases h
def blE (tt:TypeId→Option TI) (c:Call) (T:Fr) (L:Hp):Option RV :=
 match c.callee with
 | .builtin .len=>match c.args.toList,c.argTypes.toList with
   | [x],[t]=>match tt t with
     | some i=>vE (lnE L i.desc (eT T x))
     | none=>none
   | _,_=>none
 | .builtin .append=>match c.args.toList,c.argTypes.toList with
   | [s,x],[t,t']=>match Nat.beq t t' with
     | true=>apE tt t L (eT T s) (eT T x)
     | false=>apXE tt t t' L (eT T s) (eT T x)
   | _,_=>none
 | .builtin .max=>match c.args.toList with
   | [x,y]=>vE (mmE true (eT T x) (eT T y))
   | _=>none
 | .builtin .min=>match c.args.toList with
   | [x,y]=>vE (mmE false (eT T x) (eT T y))
   | _=>none
 | .builtin .delete=>match c.args.toList,c.argTypes.toList with
   | [x,k],t :: _=>match deE tt t L (eT T x) (eT T k) with
     | some m=>some (.d .any,m)
     | none=>none
   | _,_=>none
 | .builtin .complex=>match c.args.toList with
   | [x,y]=>vE (cxE (eT T x) (eT T y))
   | _=>none
 | .builtin .real=>match c.args.toList with
   | [x]=>vE (riE true (eT T x))
   | _=>none
 | .builtin .imag=>match c.args.toList with
   | [x]=>vE (riE false (eT T x))
   | _=>none
 | _=>none
theorem blE_ok {ρ:Nat→Nat} {P:Program} {tt:TypeId→Option TI} {fo:FuncId→Bool} {c:Call} {T:Fr} {F:AF} {L:Hp} {r:RV} (hF:Ag ρ T F) (h:blE tt c T L=some r):Goes ρ L r (callOpK P tt fo c F (inH ρ L)):=by
 intro K hk
 unfold blE at h
 unfold callOpK
 split at h
 ·rename_i hc
  rw [hc]
  simp only
  split at h
  ·rename_i x t ha ht
   rw [ha,ht]
   simp only
   split at h
   ·rename_i i hi
    obtain ⟨a,h1,rfl⟩:=vE_ok h
    refine ttK_in hi ?_
    rw [eT_ok hF]
    exact lnE_ok h1 hk
   ·cases h
  ·cases h
 ·rename_i hc
  rw [hc]
  simp only
  split at h
  ·rename_i s x t t' ha ht
   rw [ha,ht]
   simp only
   rw [eT_ok hF,eT_ok hF]
   split at h
   ·rename_i hb
    rw [hb]
    exact apE_ok h K hk
   ·rename_i hb
    rw [hb]
    exact apXE_ok h K hk
  ·cases h
 ·rename_i hc
  rw [hc]
  simp only
  split at h
  ·rename_i x y ha
   rw [ha]
   simp only
   obtain ⟨a,h1,rfl⟩:=vE_ok h
   rw [eT_ok hF,eT_ok hF]
   exact mmE_ok h1 hk
  ·cases h
 ·rename_i hc
  rw [hc]
  simp only
  split at h
  ·rename_i x y ha
   rw [ha]
   simp only
   obtain ⟨a,h1,rfl⟩:=vE_ok h
   rw [eT_ok hF,eT_ok hF]
   exact mmE_ok h1 hk
  ·cases h
 ·rename_i hc
  rw [hc]
  simp only
  split at h
  ·rename_i x k t r' ha ht
   rw [ha,ht]
   simp only
   split at h
   ·rename_i m hm
    cases h
    rw [eT_ok hF,eT_ok hF]
    exact deE_ok hm hk
   ·cases h
  ·cases h
 ·rename_i hc
  rw [hc]
  simp only
  split at h
  ·rename_i x y ha
   rw [ha]
   simp only
   obtain ⟨a,h1,rfl⟩:=vE_ok h
   rw [eT_ok hF,eT_ok hF]
   exact cxE_ok h1 hk
  ·cases h
 ·rename_i hc
  rw [hc]
  simp only
  split at h
  ·rename_i x ha
   rw [ha]
   simp only
   obtain ⟨a,h1,rfl⟩:=vE_ok h
   rw [eT_ok hF]
   exact riE_ok h1 hk
  ·cases h
 ·rename_i hc
  rw [hc]
  simp only
  split at h
  ·rename_i x ha
   rw [ha]
   simp only
   obtain ⟨a,h1,rfl⟩:=vE_ok h
   rw [eT_ok hF]
   exact riE_ok h1 hk
  ·cases h
 ·cases h
def neL (xs:List (List DV)):Bool:=match xs with|[]=>false|_ :: _=>true
def nzE (L:Hp) (x:AV):Bool :=
 match x with
 | .arr j=>match hG L j with
   | some (.row _ _ xs _)=>neL xs
   | _=>false
 | .d (.sl _ xs)=>neL xs
 | _=>false
def cnE (op:BinOp):Option Bool:=match op with | .eql=>some false | .neq=>some true|_=>none
def nlE (tt:TypeId→Option TI) (op:BinOp) (t:TypeId) (L:Hp) (x y:AV):Option AV :=
 match nzE L x with
 | true=>match y with
   | .d .nils=>match tt t with
     | some i=>match isSliceD0 i.desc with
       | true=>match cnE op with
         | some b=>some (.d (.bool b))
         | none=>none
       | false=>none
     | none=>none
   | _=>none
 | false=>match x with
   | .d .nils=>biE tt op t (.d .nils) y
   | _=>none
theorem nl_in {tt:TypeId→Option TI} {op:BinOp} {t:TypeId} {i:TI} {b:Bool} {n:Nat} {xs:List (List DV)} (hx:neL xs=true) (hi:tt t=some i) (hd:isSliceD0 i.desc=true) (h:cnE op=some b) {K:AV→Prop} (hk:K (.d (.bool b))):binK tt op t (.d (.sl n xs)) (.d .nils) K:=by
 have key:∀ neg:Bool,K (.d (.bool neg))→eqTT tt t neg (.d (.sl n xs)) (.d .nils) K:=by
  intro neg hq
  unfold eqTT
  rw [hi]
  show (bif isSliceD0 i.desc then _ else _)
  rw [hd]
  intro b hb
  cases b with
  | true =>
    rw [hb rfl] at hx
    cases hx
  | false=>cases neg<;>exact hq
 cases op<;>first
  | (cases h;done)
  | (cases h;exact key false hk)
  | (cases h;exact key true hk)
theorem nlE_ok {ρ:Nat→Nat} {tt:TypeId→Option TI} {op:BinOp} {t:TypeId} {L:Hp} {x y v:AV} (h:nlE tt op t L x y=some v) {K:AV→Prop} (hk:K (inA ρ v)):binLK tt op t (inH ρ L) (inA ρ x) (inA ρ y) K:=by
 unfold nlE at h
 split at h
 ·rename_i hz
  split at h
  ·split at h
   ·rename_i i hi
    split at h
    ·rename_i hd
     split at h
     ·rename_i b hb
      cases h
      unfold nzE at hz
      split at hz
      ·split at hz
       ·rename_i hj
        exact lgetK_in (inH_at hj) (nl_in hz hi hd hb hk)
       ·cases hz
      ·exact nl_in hz hi hd hb hk
      ·cases hz
     ·cases h
    ·cases h
   ·cases h
  ·cases h
 ·split at h
  ·exact biE_ok h hk
  ·cases h
end
end Go.Ab
