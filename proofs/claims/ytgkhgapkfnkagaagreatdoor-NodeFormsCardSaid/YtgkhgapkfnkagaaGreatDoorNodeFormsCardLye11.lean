/- NodeFormsCard: abstract runs. -/
import Derived.Test.YtgkhgapkfnkagaaGreatDoorNodeFormsCardLye10
set_option linter.unusedVariables false
set_option linter.unusedSimpArgs false
namespace Go.Ab
noncomputable section
open Go.RowKit
def oT (T:Fr) (x:Option Operand):Option AV:=match x with|none=>none|some x=>some (eT T x)
theorem oT_ok {ρ:Nat→Nat} {T:Fr} {F:AF} (h:Ag ρ T F) (x:Option Operand):optEv F x=(oT T x).map (inA ρ):=by
 cases x with
 | none=>rfl
 | some x =>
   show some (ev F x)=some (inA ρ (eT T x))
   rw [eT_ok h]
def opE (P:Program) (tt:TypeId→Option TI) (o:Oper) (T:Fr) (L:Hp):Option RV :=
 match o.op with
 | .move x=>some (eT T x,none)
 | .assign x=>match isNilSl x with
   | true=>nwE tt o.type L
   | false=>some (eT T x,none)
 | .pick c a b=>match eT T c with
   | .d (.bool t)=>match t with
     | true=>some (eT T a,none)
     | false=>some (eT T b,none)
   | _=>none
 | .alloc t=>alE tt t L
 | .box t x=>bTE tt t (eT T x) L
 | .makeMap _ r=>match r with
   | none=>some (.map (hN L),some (psh L (.map [])))
   | some _=>none
 | .lookup t m k ok=>vE (luE tt t ok L (eT T m) (eT T k))
 | .mapUpdate t m k v=>hE (muE tt t L (eT T m) (eT T k) (eT T v))
 | .insert t m k v=>hE (muE tt t L (eT T m) (eT T k) (eT T v))
 | .build t parts=>vE (buE tt t (ptE T parts.toList))
 | .buildSlice t len parts=>bsE tt t len (ptE T parts.toList) L
 | .makeSlice t l c=>msE tt t (eT T l) (eT T c) L
 | .load t a=>match tt t with
   | some i=>vE (ldE i L (eT T a))
   | none=>none
 | .store t a v=>hE (stE tt t L (eT T a) (eT T v))
 | .nilCheck x=>vE (ncE (eT T x))
 | .binOp op t x y _=>match isNilSl y with
   | true=>vE (nlE tt op t L (eT T x) (eT T y))
   | false=>match isAggA (eT T x) with
     | true=>vE (agE P op t (eT T x) (eT T y))
     | false=>vE (biE tt op t (eT T x) (eT T y))
 | .unOp op _ x=>vE (unE op (eT T x))
 | .convert s d x=>cvE tt s d L (eT T x)
 | .slice t x lo hi mx=>match mx with
   | none=>slE tt t L (eT T x) (oT T lo) (oT T hi)
   | some _=>none
 | .fieldAddr s x k=>vE (faE tt s k L (eT T x))
 | .field s x k=>vE (flE tt s k (eT T x))
 | .indexAddr t x ix=>vE (iaE tt t L (eT T x) (eT T ix))
 | .index t x ix=>vE (ixE tt t (eT T x) (eT T ix))
 | .extract x k=>vE (exE (eT T x) k)
 | .call c=>blE tt c T L
 | .makeFunc fn first caps=>match fn with
   | .func f=>match first.toList with
     | []=>some (.fn f (sT T caps.toList),none)
     | _=>none
   | _=>none
 | _=>none
theorem isAgg_in (ρ:Nat→Nat) (x:AV):isAggA (inA ρ x)=isAggA x:=by cases x<;>rfl
theorem opE_ok {ρ:Nat→Nat} {P:Program} {tt:TypeId→Option TI} {fo:FuncId→Bool} {o:Oper} {T:Fr} {F:AF} {L:Hp} {r:RV} (hF:Ag ρ T F) (h:opE P tt o T L=some r):Goes ρ L r (aopK P tt fo o F (inH ρ L)):=by
 intro K hk
 unfold opE at h
 unfold aopK
 split at h
 ·rename_i x hop
  rw [hop]
  simp only
  cases h
  refine movK_in ?_
  rw [eT_ok hF];exact hk
 ·rename_i x hop
  rw [hop]
  simp only
  split at h
  ·rename_i hb
   rw [hb,cond_true]
   exact nwE_ok h K hk
  ·rename_i hb
   rw [hb,cond_false]
   cases h
   refine movK_in ?_
   rw [eT_ok hF];exact hk
 ·rename_i c a b hop
  rw [hop]
  simp only
  split at h
  ·rename_i t hc
   rw [eT_ok hF,hc]
   cases t with
   | true =>
     cases h
     show movK (ev F a) fun v=>K v (inH ρ L)
     refine movK_in ?_
     rw [eT_ok hF];exact hk
   | false =>
     cases h
     show movK (ev F b) fun v=>K v (inH ρ L)
     refine movK_in ?_
     rw [eT_ok hF];exact hk
  ·cases h
 ·rename_i t hop
  rw [hop]
  exact alE_ok h K hk
 ·rename_i t x hop
  rw [hop]
  simp only
  rw [eT_ok hF]
  exact bTE_ok h K hk
 ·rename_i t r' hop
  rw [hop]
  simp only
  split at h
  ·cases h
   show makeMapK _ _
   exact lpush_psh (ab := .map []) hk
  ·cases h
 ·rename_i t m k ok hop
  rw [hop]
  simp only
  obtain ⟨a,h1,rfl⟩:=vE_ok h
  rw [eT_ok hF,eT_ok hF]
  exact luE_ok h1 K hk
 ·rename_i t m k v hop
  rw [hop]
  simp only
  obtain ⟨a,h1,rfl⟩:=hE_ok h
  rw [eT_ok hF,eT_ok hF,eT_ok hF]
  exact muE_ok (K:=fun L'=>K (.d .any) L') h1 hk
 ·rename_i t m k v hop
  rw [hop]
  simp only
  obtain ⟨a,h1,rfl⟩:=hE_ok h
  rw [eT_ok hF,eT_ok hF,eT_ok hF]
  exact muE_ok (K:=fun L'=>K (.d .any) L') h1 hk
 ·rename_i t parts hop
  rw [hop]
  simp only
  obtain ⟨a,h1,rfl⟩:=vE_ok h
  refine evPartsK_in ?_
  rw [ptE_in hF]
  exact buE_ok (K:=fun v=>K v (inH ρ L)) h1 hk
 ·rename_i t len parts hop
  rw [hop]
  simp only
  refine evPartsK_in ?_
  rw [ptE_in hF]
  exact bsE_ok h K hk
 ·rename_i t l c hop
  rw [hop]
  simp only
  rw [eT_ok hF,eT_ok hF]
  exact msE_ok h K hk
 ·rename_i t a hop
  rw [hop]
  simp only
  split at h
  ·rename_i i hi
   obtain ⟨a',h1,rfl⟩:=vE_ok h
   refine ttK_in hi ?_
   rw [eT_ok hF]
   exact ldE_ok (K:=fun v=>movK v fun v=>K v (inH ρ L)) h1 (movK_in hk)
  ·cases h
 ·rename_i t a v hop
  rw [hop]
  simp only
  obtain ⟨a',h1,rfl⟩:=hE_ok h
  rw [eT_ok hF,eT_ok hF]
  exact stE_ok (K:=fun L'=>K (.d .any) L') h1 hk
 ·rename_i x hop
  rw [hop]
  simp only
  obtain ⟨a',h1,rfl⟩:=vE_ok h
  rw [eT_ok hF]
  exact ncE_ok (K:=fun v=>K v (inH ρ L)) h1 hk
 ·rename_i op t x y pp hop
  rw [hop]
  simp only
  rw [eT_ok hF,eT_ok hF,isAgg_in]
  split at h
  ·rename_i hb
   rw [hb,cond_true]
   obtain ⟨a',h1,rfl⟩:=vE_ok h
   exact nlE_ok (K:=fun v=>K v (inH ρ L)) h1 hk
  ·rename_i hb
   rw [hb,cond_false]
   split at h
   ·rename_i hc
    rw [hc,cond_true]
    obtain ⟨a',h1,rfl⟩:=vE_ok h
    exact agE_ok (K:=fun v=>K v (inH ρ L)) h1 hk
   ·rename_i hc
    rw [hc,cond_false]
    obtain ⟨a',h1,rfl⟩:=vE_ok h
    exact biE_ok (K:=fun v=>K v (inH ρ L)) h1 hk
 ·rename_i op t x hop
  rw [hop]
  simp only
  obtain ⟨a',h1,rfl⟩:=vE_ok h
  rw [eT_ok hF]
  exact unE_ok (K:=fun v=>K v (inH ρ L)) h1 hk
 ·rename_i s d x hop
  rw [hop]
  simp only
  rw [eT_ok hF]
  exact cvE_ok h K hk
 ·rename_i t x lo hi mx hop
  rw [hop]
  simp only
  split at h
  ·show sliceK _ _ _ _ _ _ _
   rw [eT_ok hF,oT_ok hF,oT_ok hF]
   exact slE_ok h K hk
  ·cases h
 ·rename_i s x k hop
  rw [hop]
  simp only
  obtain ⟨a',h1,rfl⟩:=vE_ok h
  rw [eT_ok hF]
  exact faE_ok (K:=fun v=>K v (inH ρ L)) h1 hk
 ·rename_i s x k hop
  rw [hop]
  simp only
  obtain ⟨a',h1,rfl⟩:=vE_ok h
  rw [eT_ok hF]
  exact flE_ok (K:=fun v=>movK v fun v=>K v (inH ρ L)) h1 (movK_in hk)
 ·rename_i t x ix hop
  rw [hop]
  simp only
  obtain ⟨a',h1,rfl⟩:=vE_ok h
  rw [eT_ok hF,eT_ok hF]
  exact iaE_ok (K:=fun v=>K v (inH ρ L)) h1 hk
 ·rename_i t x ix hop
  rw [hop]
  simp only
  obtain ⟨a',h1,rfl⟩:=vE_ok h
  rw [eT_ok hF,eT_ok hF]
  exact ixE_ok (K:=fun v=>K v (inH ρ L)) h1 hk
 ·rename_i x k hop
  rw [hop]
  simp only
  obtain ⟨a',h1,rfl⟩:=vE_ok h
  rw [eT_ok hF]
  exact exE_ok (K:=fun v=>movK v fun v=>K v (inH ρ L)) h1 (movK_in hk)
 ·rename_i c hop
  rw [hop]
  exact blE_ok hF h K hk
 ·rename_i fn first caps hop
  rw [hop]
  simp only
  split at h
  ·rename_i f
   split at h
   ·rename_i hfi
    cases h
    show mkFnK (.func f) first.toList _
    rw [hfi]
    show evsK F caps.toList _
    refine evsK_in ?_
    rw [sT_in hF]
    exact hk
   ·cases h
  ·cases h
 ·cases h
def opD (P:Program) (tt:TypeId→Option TI) (o:Oper) (T:Fr) (L:Hp):Option AV :=
 match o.op with
 | .buildSlice t len parts=>bdlE tt t len (ptE T parts.toList)
 | _=>match opE P tt o T L with
   | some (v,none)=>some v
   | _=>none
theorem opD_ok {ρ:Nat→Nat} {P:Program} {tt:TypeId→Option TI} {fo:FuncId→Bool} {o:Oper} {T:Fr} {F:AF} {L:Hp} {v:AV} (hF:Ag ρ T F) (h:opD P tt o T L=some v):Det P tt fo o F (inH ρ L) (inA ρ v):=by
 intro K hk
 unfold opD at h
 split at h
 ·rename_i t len parts hop
  unfold dopK
  rw [hop]
  simp only
  refine evPartsK_in ?_
  rw [ptE_in hF]
  exact bdlE_ok (K:=fun v=>K v (inH ρ L)) h hk
 ·rename_i hn
  split at h
  ·rename_i v' he
   cases h
   have:=opE_ok (fo:=fo) hF he K hk
   unfold dopK
   split
   ·rename_i t len parts hop
    exact absurd hop (hn t len parts)
   ·exact this
  ·cases h
end
end Go.Ab
