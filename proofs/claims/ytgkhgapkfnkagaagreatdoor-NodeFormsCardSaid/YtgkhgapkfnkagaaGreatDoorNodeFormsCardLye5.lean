/- NodeFormsCard: abstract runs. -/
import Derived.Test.YtgkhgapkfnkagaaGreatDoorNodeFormsCardLye4
set_option linter.unusedVariables false
set_option linter.unusedSimpArgs false
namespace Go.Ab
noncomputable section
open Go.RowKit
def u8Eq (l:List UInt8):List UInt8→Bool :=
 List.rec (motive:=fun _=>List UInt8→Bool) (fun m=>List.rec (motive:=fun _=>Bool) true (fun _ _ _=>false) m)
  (fun c _ ih m=>List.rec (motive:=fun _=>Bool) false (fun d r _=>match Nat.beq c.toNat d.toNat with|true=>ih r|false=>false) m) l
def bsEq (a b:ByteArray):Bool:=u8Eq a.data.toList b.data.toList
theorem u8Eq_eq:∀ l m:List UInt8,u8Eq l m=(l == m)
 | [],[]=>rfl
 | [],_ :: _=>rfl
 | _ :: _,[]=>rfl
 | c :: l,d :: m=>by
   show (match Nat.beq c.toNat d.toNat with|true=>u8Eq l m|false=>false)=_
   rw [List.cons_beq_cons,← u8Eq_eq l m]
   cases h:Nat.beq c.toNat d.toNat with
   | true =>
     have:=UInt8.toNat_inj.1 (Nat.eq_of_beq_eq_true h)
     subst this
     simp
   | false =>
     have:c≠d:=fun e=>by subst e;simp at h
     simp [this]
theorem bsEq_eq (a b:ByteArray):bsEq a b=(a.toList == b.toList):=by
 unfold bsEq
 rw [u8Eq_eq,ByteArray.toList_eq,ByteArray.toList_eq]
def bsLt (a b:ByteArray):Bool:=Op.bytesLess a.data.toList b.data.toList
theorem bsLt_eq (a b:ByteArray):bsLt a b=Op.bytesLess a.toList b.toList:=by
 unfold bsLt
 rw [ByteArray.toList_eq,ByteArray.toList_eq]
def bsApp (a b:ByteArray):ByteArray:=ByteArray.mk (Array.mk (aN a.data.toList b.data.toList))
theorem bsApp_eq (a b:ByteArray):bsApp a b=a++b:=by
 unfold bsApp
 rw [aN_eq]
 apply ByteArray.ext
 rw [ByteArray.data_append]
 apply Array.ext'
 simp
def strE (op:BinOp) (a b:ByteArray):Option AV :=
 match op with
 | .add=>match Nat.ble (bsLen a+bsLen b) 9223372036854775807 with
   | true=>some (.d (.str (bsApp a b)))
   | false=>none
 | .eql=>some (.d (.bool (bsEq a b)))
 | .neq=>some (.d (.bool (!(bsEq a b))))
 | .lss=>some (.d (.bool (bsLt a b)))
 | .leq=>some (.d (.bool (bsLt a b||bsEq a b)))
 | .gtr=>some (.d (.bool (!(bsLt a b||bsEq a b))))
 | .geq=>some (.d (.bool (!(bsLt a b))))
 | _=>none
theorem strE_ok {ρ:Nat→Nat} {op:BinOp} {a b:ByteArray} {v:AV} (h:strE op a b=some v) {K:AV→Prop} (hk:K (inA ρ v)):strK op a b K:=by
 cases op<;>simp only [strE] at h<;>first
  | (cases h;done)
  | (cases h;simp only [bsEq_eq,bsLt_eq] at hk;exact hk)
  | (split at h
     ·rename_i hb
      cases h
      have:=Nat.le_of_ble_eq_true hb
      rw [bsLen_eq,bsLen_eq] at this
      refine ⟨?_,?_⟩
      ·show ((a.size+b.size:Nat):Int)≤9223372036854775807
       omega
      ·rw [← bsApp_eq];exact hk
     ·cases h)
def eqE (d:TypeDesc) (neg:Bool) (x y:AV):Option AV :=
 match x,y with
 | .d (.bool a),.d (.bool b)=>match isBoolD d with|true=>some (.d (.bool (match neg with|true => !(a == b)|false=>a == b)))|false=>none
 | .d .nilp,.d .nilp=>match isPtrD d with|true=>some (.d (.bool (!neg)))|false=>none
 | .ptr _ _,.d .nilp=>match isPtrD d with|true=>some (.d (.bool neg))|false=>none
 | .im _ _,.d .nilp=>match isPtrD d with|true=>some (.d (.bool neg))|false=>none
 | .mp _ _ _,.d .nilp=>match isPtrD d with|true=>some (.d (.bool neg))|false=>none
 | .d .nilp,.ptr _ _=>match isPtrD d with|true=>some (.d (.bool neg))|false=>none
 | .d .nils,.d .nils=>match isSliceD0 d with|true=>some (.d (.bool (!neg)))|false=>none
 | .map _,.d .nilm=>match isMapD0 d with|true=>some (.d (.bool neg))|false=>none
 | .d .nilm,.d .nilm=>match isMapD0 d with|true=>some (.d (.bool (!neg)))|false=>none
 | _,_=>none
theorem eqE_ok {ρ:Nat→Nat} {d:TypeDesc} {neg:Bool} {x y v:AV} (h:eqE d neg x y=some v) {K:AV→Prop} (hk:K (inA ρ v)):eqK d neg (inA ρ x) (inA ρ y) K:=by
 unfold eqE at h
 split at h
 ·split at h
  ·rename_i hd
   cases h
   show (bif isBoolD d then _ else _)
   rw [hd]
   cases neg<;>exact hk
  ·cases h
 all_goals first
  | (cases h;done)
  | (split at h
     ·rename_i hd
      cases h
      first
       | (show (bif isPtrD d then _ else _);rw [hd];exact hk)
       | (show (bif isSliceD0 d then _ else _);rw [hd];exact hk)
       | (show (bif isMapD0 d then _ else _);rw [hd];exact hk)
     ·cases h)
theorem inA_d {ρ:Nat→Nat} {x:AV} {d:DV} (h:inA ρ x = .d d):x = .d d:=by cases x<;>simp only [inA] at h<;>first|exact h|cases h
def biE (tt:TypeId→Option TI) (op:BinOp) (t:TypeId) (x y:AV):Option AV :=
 match x,y with
 | .d (.int k a),.d (.int k' b) =>
   match op with
   | .shl=>match zN b with|some _=>some (.d (.int k (ishl k a b)))|none=>none
   | .shr=>match zN b with|some _=>some (.d (.int k (ishr k a b)))|none=>none
   | op=>match keq k k' with|true=>intE op k a b|false=>none
 | .d (.str a),.d (.str b)=>strE op a b
 | .d (.flt k a),.d (.flt k' b)=>match fkeq k k'&&isCmp op with|true=>some (.d (.bool (fltB op k a b)))|false=>none
 | x,y =>
   match op with
   | .eql=>match tt t with|some i=>eqE i.desc false x y|none=>none
   | .neq=>match tt t with|some i=>eqE i.desc true x y|none=>none
   | _=>none
def biC (tt:TypeId→Option TI) (op:BinOp) (t:TypeId) (x y:AV):Option AV :=
 match op with
 | .eql=>match tt t with|some i=>eqE i.desc false x y|none=>none
 | .neq=>match tt t with|some i=>eqE i.desc true x y|none=>none
 | _=>none
def biCK (tt:TypeId→Option TI) (op:BinOp) (t:TypeId) (x y:AV) (K:AV→Prop):Prop :=
 match op with
 | .eql=>eqTT tt t false x y K
 | .neq=>eqTT tt t true x y K
 | _=>False
theorem biC_ok {ρ:Nat→Nat} {tt:TypeId→Option TI} {op:BinOp} {t:TypeId} {x y v:AV} (h:biC tt op t x y=some v) {K:AV→Prop} (hk:K (inA ρ v)):biCK tt op t (inA ρ x) (inA ρ y) K:=by
 cases op<;>first
  | (cases h;done)
  | (simp only [biC] at h
     split at h
     ·rename_i i hi
      show eqTT tt t _ _ _ K
      unfold eqTT
      rw [hi]
      exact eqE_ok h hk
     ·cases h)
theorem biE_ok {ρ:Nat→Nat} {tt:TypeId→Option TI} {op:BinOp} {t:TypeId} {x y v:AV} (h:biE tt op t x y=some v) {K:AV→Prop} (hk:K (inA ρ v)):binK tt op t (inA ρ x) (inA ρ y) K:=by
 have hint:∀ (k k':IntKind) (a b:Int),biE tt op t (.d (.int k a)) (.d (.int k' b))=some v→binK tt op t (.d (.int k a)) (.d (.int k' b)) K:=by
  intro k k' a b h
  have shf:op = .shl∨op = .shr∨((match keq k k' with|true=>intE op k a b|false=>none)=some v∧(binK tt op t (.d (.int k a)) (.d (.int k' b)) K=(bif keq k k' then intK op k a b K else False))):=by
   cases op<;>first|exact .inl rfl|exact .inr (.inl rfl)|exact .inr (.inr ⟨h,rfl⟩)
  rcases shf with rfl|rfl|⟨h1,h2⟩
  ·simp only [biE] at h
   split at h
   ·rename_i n hn
    cases h
    have:=zN_ok hn
    exact ⟨by omega,fun z hz=>by rw [hz];exact hk⟩
   ·cases h
  ·simp only [biE] at h
   split at h
   ·rename_i n hn
    cases h
    have:=zN_ok hn
    exact ⟨by omega,fun z hz=>by rw [hz];exact hk⟩
   ·cases h
  ·rw [h2]
   split at h1
   ·rename_i hb
    rw [hb];exact intE_ok h1 hk
   ·cases h1
 unfold biE at h
 split at h
 ·exact hint _ _ _ _ h
 ·exact strE_ok h hk
 ·rename_i k a k' b
  split at h
  ·rename_i hb
   cases h
   show (bif fkeq k k'&&isCmp op then K (.d (.bool (fltB op k a b))) else False)
   rw [hb];exact hk
  ·cases h
 ·rename_i n1 n2 n3
  have hq:=biC_ok (ρ:=ρ) h hk
  unfold binK
  split
  ·rename_i e1 e2
   exact absurd (inA_d e2) (n1 _ _ _ _ (inA_d e1))
  ·rename_i e1 e2
   exact absurd (inA_d e2) (n2 _ _ (inA_d e1))
  ·rename_i e1 e2
   exact absurd (inA_d e2) (n3 _ _ _ _ (inA_d e1))
  ·exact hq
def unE (op:UnOp) (x:AV):Option AV :=
 match op,x with
 | .not,.d (.bool b)=>some (.d (.bool (!b)))
 | .neg,.d (.int k n)=>some (.d (.int k (wr k (Int.sub 0 n))))
 | _,_=>none
theorem unE_ok {ρ:Nat→Nat} {op:UnOp} {x v:AV} (h:unE op x=some v) {K:AV→Prop} (hk:K (inA ρ v)):unK op (inA ρ x) K:=by
 unfold unE at h
 split at h
 ·cases h;exact hk
 ·cases h
  intro z hz
  rw [hz,← wr_eq];exact hk
 ·cases h
def ecE (x y:AV):Option Bool :=
 match x,y with
 | .d (.int k a),.d (.int k' b)=>match keq k k' with|true=>some (zeq a b)|false=>none
 | .d (.str a),.d (.str b)=>some (bsEq a b)
 | _,_=>none
theorem ecE_ok {ρ:Nat→Nat} {x y:AV} {b:Bool} (h:ecE x y=some b) {K:Bool→Prop} (hk:K b):eqcK (inA ρ x) (inA ρ y) K:=by
 unfold ecE at h
 split at h
 ·split at h
  ·rename_i hb
   cases h
   show (bif keq _ _ then _ else _)
   rw [hb]
   show K (_ == _)
   rw [← zeq_eq];exact hk
  ·cases h
 ·cases h
  show K (_ == _)
  rw [← bsEq_eq];exact hk
 ·cases h
def esE (xs:List AV):List AV→Option Bool :=
 List.rec (motive:=fun _=>List AV→Option Bool) (fun ys=>List.rec (motive:=fun _=>Option Bool) (some true) (fun _ _ _=>none) ys)
  (fun x _ ih ys=>List.rec (motive:=fun _=>Option Bool) none (fun y r _=>match ecE x y with
    | some b=>match ih r with
      | some c=>some (b&&c)
      | none=>none
    | none=>none) ys) xs
theorem esE_ok {ρ:Nat→Nat}:∀ {xs ys:List AV} {b:Bool},esE xs ys=some b→∀ {K:Bool→Prop},K b→eqsK (inAs ρ xs) (inAs ρ ys) K
 | [],[],b,h,K,hk=>by
   have:some true=some b:=h
   cases this;exact hk
 | [],_ :: _,b,h,_,_=>by cases (show (none:Option Bool)=some b from h)
 | _ :: _,[],b,h,_,_=>by cases (show (none:Option Bool)=some b from h)
 | x :: xs,y :: ys,b,h,K,hk=>by
   replace h:(match ecE x y with
    | some b=>match esE xs ys with
      | some c=>some (b&&c)
      | none=>none
    | none=>none)=some b:=h
   split at h
   ·rename_i b1 h1
    split at h
    ·rename_i c1 h2
     cases h
     exact ecE_ok h1 (K:=fun b=>eqsK (inAs ρ xs) (inAs ρ ys) fun c=>K (b&&c)) (esE_ok h2 (K:=fun c=>K (b1&&c)) hk)
    ·cases h
   ·cases h
theorem shpL_in (ρ:Nat→Nat):∀ xs:List AV,shpL (inAs ρ xs)=shpL xs
 | []=>rfl
 | x :: r=>by
   show shpA (inA ρ x) :: shpL (inAs ρ r)=shpA x :: shpL r
   rw [shpL_in ρ r]
   cases x<;>rfl
def agE (P:Program) (op:BinOp) (t:TypeId) (x y:AV):Option AV :=
 match x,y with
 | .agg xs,.agg ys =>
   match op with
   | .eql=>match eqOkB P t (shpL xs) with
     | true=>match esE xs ys with|some b=>some (.d (.bool b))|none=>none
     | false=>none
   | .neq=>match eqOkB P t (shpL xs) with
     | true=>match esE xs ys with|some b=>some (.d (.bool (!b)))|none=>none
     | false=>none
   | _=>none
 | _,_=>none
theorem agE_ok {ρ:Nat→Nat} {P:Program} {op:BinOp} {t:TypeId} {x y v:AV} (h:agE P op t x y=some v) {K:AV→Prop} (hk:K (inA ρ v)):aggK P op t (inA ρ x) (inA ρ y) K:=by
 unfold agE at h
 split at h
 ·split at h
  ·split at h
   ·rename_i hb
    split at h
    ·rename_i b hbb
     cases h
     exact ⟨by rw [shpL_in];exact hb,esE_ok hbb hk⟩
    ·cases h
   ·cases h
  ·split at h
   ·rename_i hb
    split at h
    ·rename_i b hbb
     cases h
     exact ⟨by rw [shpL_in];exact hb,esE_ok hbb hk⟩
    ·cases h
   ·cases h
  ·cases h
 ·cases h
end
end Go.Ab
