/- NodeFormsCard: abstract runs. -/
import Derived.Test.YtgkhgapkfnkagaaGreatDoorNodeFormsCardLye14
set_option linter.unusedVariables false
set_option linter.unusedSimpArgs false
namespace Go.Ab
noncomputable section
open Go.RowKit Go.MapKept
theorem bsEq_ok {a b:ByteArray} (h:bsEq a b=true):a=b:=by rw [bsEq_beq] at h;exact (bytes_beq a b).1 h
mutual
def eqD:DV→DV→Bool
 | .int k n,.int k' m=>keq k k'&&zeq n m
 | .bool a,.bool b=>a == b
 | .str a,.str b=>bsEq a b
 | .flt k a,.flt k' b=>fkeq k k'&&Nat.beq a b
 | .cplx k a b,.cplx k' c d=>fkeq k k'&&(Nat.beq a c&&Nat.beq b d)
 | .nils,.nils=>true
 | .sl n xs,.sl m ys=>Nat.beq n m&&eqDLL xs ys
 | .nilp,.nilp=>true
 | .nilm,.nilm=>true
 | .nilf,.nilf=>true
 | .any,.any=>true
 | _,_=>false
def eqDLL:List (List DV)→List (List DV)→Bool
 | [],[]=>true
 | x :: r,y :: s=>eqDL x y&&eqDLL r s
 | _,_=>false
def eqDL:List DV→List DV→Bool
 | [],[]=>true
 | x :: r,y :: s=>eqD x y&&eqDL r s
 | _,_=>false
end
mutual
theorem eqD_ok:∀ x y:DV,eqD x y=true→x=y
 | .int k n,y,h=>by
   cases y<;>simp only [eqD,Bool.and_eq_true,Bool.false_eq_true] at h
   rw [keq_eq h.1]
   have:=h.2
   rw [zeq_eq,beq_iff_eq] at this
   rw [this]
 | .bool a,y,h=>by
   cases y<;>simp only [eqD,Bool.false_eq_true,beq_iff_eq] at h
   rw [h]
 | .str a,y,h=>by
   cases y<;>simp only [eqD,Bool.false_eq_true] at h
   rw [bsEq_ok h]
 | .nils,y,h=>by cases y<;>simp only [eqD,Bool.false_eq_true] at h;rfl
 | .sl n xs,y,h=>by
   cases y<;>simp only [eqD,Bool.and_eq_true,Bool.false_eq_true] at h
   rw [Nat.eq_of_beq_eq_true h.1,eqDLL_ok _ _ h.2]
 | .nilp,y,h=>by cases y<;>simp only [eqD,Bool.false_eq_true] at h;rfl
 | .nilm,y,h=>by cases y<;>simp only [eqD,Bool.false_eq_true] at h;rfl
 | .nilf,y,h=>by cases y<;>simp only [eqD,Bool.false_eq_true] at h;rfl
 | .any,y,h=>by cases y<;>simp only [eqD,Bool.false_eq_true] at h;rfl
 | .flt k a,y,h=>by
   cases y<;>simp only [eqD,Bool.and_eq_true,Bool.false_eq_true] at h
   rw [fkeq_eq h.1,Nat.eq_of_beq_eq_true h.2]
 | .cplx k a b,y,h=>by
   cases y<;>simp only [eqD,Bool.and_eq_true,Bool.false_eq_true] at h
   rw [fkeq_eq h.1,Nat.eq_of_beq_eq_true h.2.1,Nat.eq_of_beq_eq_true h.2.2]
 | .slo _ _,y,h=>by cases y<;>simp only [eqD,Bool.false_eq_true] at h
 | .slq _ _,y,h=>by cases y<;>simp only [eqD,Bool.false_eq_true] at h
theorem eqDLL_ok:∀ x y:List (List DV),eqDLL x y=true→x=y
 | [],[],_=>rfl
 | [],_ :: _,h=>by simp only [eqDLL,Bool.false_eq_true] at h
 | _ :: _,[],h=>by simp only [eqDLL,Bool.false_eq_true] at h
 | x :: r,y :: s,h=>by
   simp only [eqDLL,Bool.and_eq_true] at h
   rw [eqDL_ok _ _ h.1,eqDLL_ok _ _ h.2]
theorem eqDL_ok:∀ x y:List DV,eqDL x y=true→x=y
 | [],[],_=>rfl
 | [],_ :: _,h=>by simp only [eqDL,Bool.false_eq_true] at h
 | _ :: _,[],h=>by simp only [eqDL,Bool.false_eq_true] at h
 | x :: r,y :: s,h=>by
   simp only [eqDL,Bool.and_eq_true] at h
   rw [eqD_ok _ _ h.1,eqDL_ok _ _ h.2]
end
mutual
def eqA:AV→AV→Bool
 | .d x,.d y=>eqD x y
 | .arr i,.arr j=>Nat.beq i j
 | .ptr i o,.ptr j p=>Nat.beq i j&&Nat.beq o p
 | .ap i k o,.ap j m p=>Nat.beq i j&&(Nat.beq k m&&Nat.beq o p)
 | .im cs o,.im ds p=>Nat.beq o p&&eqDL cs ds
 | .map i,.map j=>Nat.beq i j
 | .mp i b o,.mp j c p=>Nat.beq i j&&(Nat.beq b c&&Nat.beq o p)
 | .agg cs,.agg ds=>eqAs cs ds
 | .tup cs,.tup ds=>eqAs cs ds
 | .fn f cs,.fn g ds=>Nat.beq f g&&eqAs cs ds
 | _,_=>false
def eqAs:List AV→List AV→Bool
 | [],[]=>true
 | x :: r,y :: s=>eqA x y&&eqAs r s
 | _,_=>false
end
mutual
theorem eqA_ok:∀ x y:AV,eqA x y=true→x=y
 | .d x,y,h=>by
   cases y<;>simp only [eqA,Bool.false_eq_true] at h
   rw [eqD_ok _ _ h]
 | .arr i,y,h=>by
   cases y<;>simp only [eqA,Bool.false_eq_true] at h
   rw [Nat.eq_of_beq_eq_true h]
 | .ptr i o,y,h=>by
   cases y<;>simp only [eqA,Bool.and_eq_true,Bool.false_eq_true] at h
   rw [Nat.eq_of_beq_eq_true h.1,Nat.eq_of_beq_eq_true h.2]
 | .ap i k o,y,h=>by
   cases y<;>simp only [eqA,Bool.and_eq_true,Bool.false_eq_true] at h
   rw [Nat.eq_of_beq_eq_true h.1,Nat.eq_of_beq_eq_true h.2.1,Nat.eq_of_beq_eq_true h.2.2]
 | .im cs o,y,h=>by
   cases y<;>simp only [eqA,Bool.and_eq_true,Bool.false_eq_true] at h
   rw [Nat.eq_of_beq_eq_true h.1,eqDL_ok _ _ h.2]
 | .map i,y,h=>by
   cases y<;>simp only [eqA,Bool.false_eq_true] at h
   rw [Nat.eq_of_beq_eq_true h]
 | .mp i b o,y,h=>by
   cases y<;>simp only [eqA,Bool.and_eq_true,Bool.false_eq_true] at h
   rw [Nat.eq_of_beq_eq_true h.1,Nat.eq_of_beq_eq_true h.2.1,Nat.eq_of_beq_eq_true h.2.2]
 | .agg cs,y,h=>by
   cases y<;>simp only [eqA,Bool.false_eq_true] at h
   rw [eqAs_ok _ _ h]
 | .tup cs,y,h=>by
   cases y<;>simp only [eqA,Bool.false_eq_true] at h
   rw [eqAs_ok _ _ h]
 | .fn f cs,y,h=>by
   cases y<;>simp only [eqA,Bool.and_eq_true,Bool.false_eq_true] at h
   rw [Nat.eq_of_beq_eq_true h.1,eqAs_ok _ _ h.2]
 | .sub _ _,y,h=>by cases y<;>simp only [eqA,Bool.false_eq_true] at h
 | .isl _ _,y,h=>by cases y<;>simp only [eqA,Bool.false_eq_true] at h
theorem eqAs_ok:∀ x y:List AV,eqAs x y=true→x=y
 | [],[],_=>rfl
 | [],_ :: _,h=>by simp only [eqAs,Bool.false_eq_true] at h
 | _ :: _,[],h=>by simp only [eqAs,Bool.false_eq_true] at h
 | x :: r,y :: s,h=>by
   simp only [eqAs,Bool.and_eq_true] at h
   rw [eqA_ok _ _ h.1,eqAs_ok _ _ h.2]
end
end
end Go.Ab
