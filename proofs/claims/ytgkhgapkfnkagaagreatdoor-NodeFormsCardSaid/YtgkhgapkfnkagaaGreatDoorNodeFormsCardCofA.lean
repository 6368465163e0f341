/- NodeFormsCard: contracts. -/
import Derived.Shelf.Spec.SlicesInsertGrow
import Derived.RangeFuncBox
import Derived.RangeFuncLeaves
import Derived.Shelf.Abstract
import Derived.Shelf.RegionOpen
import Derived.WalkKit
import Derived.OwnWalkIn
import Derived.TacticsInMore
import Derived.LoopNIn
import Derived.LoopIn
import Derived.Maps.AppendAt
import Derived.Test.YtgkhgapkfnkagaaGreatDoorNodeFormsCardCodC
import Derived.Test.YtgkhgapkfnkagaaGreatDoorNodeFormsCardRun0
import Derived.Test.YtgkhgapkfnkagaaGreatDoorNodeFormsCardRun1
import Derived.Test.YtgkhgapkfnkagaaGreatDoorNodeFormsCardRun2
import Derived.Test.YtgkhgapkfnkagaaGreatDoorNodeFormsCardRun3
import Derived.Test.YtgkhgapkfnkagaaGreatDoorNodeFormsCardRun4
import Derived.Test.YtgkhgapkfnkagaaGreatDoorNodeFormsCardRun5
import Derived.Test.YtgkhgapkfnkagaaGreatDoorNodeFormsCardRun6
import Derived.Test.YtgkhgapkfnkagaaGreatDoorNodeFormsCardRun7
import Derived.Test.YtgkhgapkfnkagaaGreatDoorNodeFormsCardRun8
set_option linter.unusedVariables false
set_option linter.unusedSimpArgs false
namespace Go.Proofs.YtgkhgapkfnkagaaGreatDoor
open Go.Ab
def pl8x1:Plan:=⟨[[],[0],[0,1],[1,0,2],[],[4],[2,0,1,3,4,5],[5,4,6,2,0,1,3],[],[8],[5,4,3,1,0,2,6,8,9],[9,8,10,3,1,0,2,6,4,5,7],[],[12],[12,13],[13,12,14,7,5,4,6,2,0,1,3,10,8,9,11],[11,9,8,10,3,1,0,2,6,4,5,7,14,12,13,15]],[0,1,2,4,5,8,9,12,13,14],[(3,[]),(6,[7]),(10,[11,15,16])]⟩
def pl9x8:Plan:=⟨[[],[0],[],[2],[1,0],[0,1,4],[5,4,3,2,1,0],[0,1,2,3,4,5,6]],[0,1,2,3,4],[(5,[6]),(7,[])]⟩
def pl9x15:Plan:=⟨[[],[0],[],[2],[1,0],[0,1,4],[5,4,3,2,1,0],[0,1,2,3,4,5,6]],[0,1,2,3,4],[(5,[6]),(7,[])]⟩
def pl29x5:Plan:=⟨[[],[],[],[2,1],[1,2,3],[3,2,1,4],[4,1,2,3,5],[5,3,2,1,4,6,0],[],[],[9,8],[8,9,10],[10,9,8,11],[11,8,9,10,12],[12,10,9,8,11,13,0,6,4,1,2,3,5,7],[7,5,3,2,1,4,6,0,13,11,8,9,10,12,14]],[0,1,2,3,4,5,6,7,8,9,10,11,12,13,14],[(15,[])]⟩
def pl31x1:Plan:=⟨[[],[0],[0,1],[],[3],[3,4],[4,3,5,1,0,2],[2,0,1,5,3,4,6]],[0,1,3,4,5],[(2,[6,7])]⟩
def pl35x5:Plan:=⟨[[],[0],[0,1],[],[3],[3,4,1,0,2],[2,0,1,4,3,5]],[0,1,2,3],[(4,[5,6])]⟩
def pl36x1:Plan:=⟨[[],[0],[],[2,0,1],[1,0,2,3],[3,2,0,1,4],[4,1,0,2,3,5],[5,3,2,0,1,4,6],[6,5,7,3,2,0,1,4],[4,1,0,2,3,7,5,6,8],[8,6,5,7,3,2,0,1,4,9],[9,4,1,0,2,3,7,5,6,8,10],[10,8,6,5,7,3,2,0,1,4,9,11],[11,10,12,8,6,5,7,3,2,0,1,4,9],[9,4,1,0,2,3,7,5,6,8,12,10,11,13],[13,11,10,12,8,6,5,7,3,2,0,1,4,9,14],[14,9,4,1,0,2,3,7,5,6,8,12,10,11,13,15],[13,11,10,12,8,6,5,7,3,2,0,1,4,9,14],[17,15,13,11,10,12,8,6,5,7,3,2,0,1,4,9,14,16],[16,15,17,18,13,11,10,12,8,6,5,7,3,2,0,1,4,9,14],[14,9,4,1,0,2,3,7,5,6,8,12,10,11,13,18,17,15,16,19],[19,16,15,17,18,13,11,10,12,8,6,5,7,3,2,0,1,4,9,14,20],[20,14,9,4,1,0,2,3,7,5,6,8,12,10,11,13,18,17,15,16,19,21],[21,19,16,15,17,18,13,11,10,12,8,6,5,7,3,2,0,1,4,9,14,20,22],[19,16,15,17,18,13,11,10,12,8,6,5,7,3,2,0,1,4,9,14,20],[20,14,9,4,1,0,2,3,7,5,6,8,12,10,11,13,18,17,15,16,19,24],[24,25,22,20,14,9,4,1,0,2,3,7,5,6,8,12,10,11,13,18,17,15,16,19,21,23],[23,21,22,25,24,26,19,16,15,17,18,13,11,10,12,8,6,5,7,3,2,0,1,4,9,14,20],[20,14,9,4,1,0,2,3,7,5,6,8,12,10,11,13,18,17,15,16,19,26,24,25,22,21,23,27]],[0,1,2],[(3,[4,5,6]),(7,[8,9,10,11]),(12,[13,14,15,16,17]),(18,[19,20,21,22,23,24]),(25,[26,27,28])]⟩
def pl40x1:Plan:=⟨[[],[],[1],[1,2],[2,1,3],[3,1,2,4,0],[0,4,2,1,3,5],[5,3,1,2,4,0,6],[6,0,4,2,1,3,5,7],[7,5,3,1,2,4,0,6,8],[6,0,4,2,1,3,5,7],[7,5,3,1,2,4,0,6,10],[10,6,0,4,2,1,3,5,7,11],[11,7,5,3,1,2,4,0,6,10,12],[12,10,11,13,8,6,0,4,2,1,3,5,7,9],[9,8,13,11,10,12,14,6,0,4,2,1,3,5,7]],[0,1,2,3,4],[(5,[6,7,8,9,10,11,12,13,14,15])]⟩
def pl91x4:Plan:=⟨[[],[],[1,0],[0,1,2],[],[],[5],[5,6,4],[4,6,5,7],[7,5,6,4,8,2,1,0,3]],[0,1,2,3,4,5,6,7,8,9],[]⟩
def pl97x6:Plan:=⟨[[],[],[1,0],[0,1,2],[],[],[5,4],[4,5,6],[6,5,4,7,2,1,0,3]],[0,1,2,3,4,5,6,7,8],[]⟩
def pl99x5:Plan:=⟨[[],[0],[],[2],[1,0],[0,1,4],[5,4,3,2,1,0],[0,1,2,3,4,5,6]],[0,1,2,3,4],[(5,[6]),(7,[])]⟩
def pl99x12:Plan:=⟨[[],[0],[],[2],[1,0],[0,1,4],[5,4,3,2,1,0],[0,1,2,3,4,5,6]],[0,1,2,3,4],[(5,[6]),(7,[])]⟩
def pl165x6:Plan:=⟨[[],[],[1,0],[0,1,2],[],[],[5,4],[4,5,6],[6,5,4,7,2,1,0,3]],[0,1,2,3,4,5,6,7,8],[]⟩
def pl170x1:Plan:=⟨[[],[0],[0,1],[1,0,2],[1,0,2],[4,2,0,1,3],[3,4,5,1,0,2],[2,0,1,5,4,3,6],[6,3,4,5,1,0,2,7],[7,2,0,1,5,4,3,6,8],[8,6,3,4,5,1,0,2,7,9],[9,7,2,0,1,5,4,3,6,8,10],[10,8,6,3,4,5,1,0,2,7,9,11],[11,9,7,2,0,1,5,4,3,6,8,10,12],[12,10,8,6,3,4,5,1,0,2,7,9,11,13],[10,8,6,3,4,5,1,0,2,7,9,11],[11,9,7,2,0,1,5,4,3,6,8,10,15],[15,16,13,11,9,7,2,0,1,5,4,3,6,8,10,12,14],[14,12,13,16,15,17,10,8,6,3,4,5,1,0,2,7,9,11],[11,9,8,10,17,15,16,13,12,14,18,6,3,4,5,1,0,2,7],[7,2,0,1,5,4,3,6,18,14,12,13,16,15,17,10,8,9,11,19]],[0],[(1,[2,3,4]),(5,[6,7,8,9,10,11,12,13,14,15]),(16,[17,18,19,20])]⟩
def pl171x1:Plan:=⟨[[],[0],[],[2,0,1],[1,0,2,3],[3,2,0,1,4],[4,1,0,2,3,5],[5,3,2,0,1,4,6],[6,5,7,3,2,0,1,4],[4,1,0,2,3,7,5,6,8],[8,6,5,7,3,2,0,1,4,9],[9,4,1,0,2,3,7,5,6,8,10],[8,6,5,7,3,2,0,1,4,9],[12,10,8,6,5,7,3,2,0,1,4,9,11],[11,10,12,13,8,6,5,7,3,2,0,1,4,9],[9,4,1,0,2,3,7,5,6,8,13,12,10,11,14],[14,11,10,12,13,8,6,5,7,3,2,0,1,4,9,15],[15,9,4,1,0,2,3,7,5,6,8,13,12,10,11,14,16],[16,14,11,10,12,13,8,6,5,7,3,2,0,1,4,9,15,17],[14,11,10,12,13,8,6,5,7,3,2,0,1,4,9,15],[15,9,4,1,0,2,3,7,5,6,8,13,12,10,11,14,19],[19,20,17,15,9,4,1,0,2,3,7,5,6,8,13,12,10,11,14,16,18],[18,16,17,20,19,21,14,11,10,12,13,8,6,5,7,3,2,0,1,4,9,15],[15,9,4,1,0,2,3,7,5,6,8,13,12,10,11,14,21,19,20,17,16,18,22]],[0,1,2],[(3,[4,5,6]),(7,[8,9,10,11,12]),(13,[14,15,16,17,18,19]),(20,[21,22,23])]⟩
end Go.Proofs.YtgkhgapkfnkagaaGreatDoor
set_option linter.unusedVariables false
set_option linter.unusedSimpArgs false
namespace Go.Proofs.YtgkhgapkfnkagaaGreatDoor
open Go.Ab Go.RowKit
theorem mixedOk:Tryz.prog.follows .mixedOrders=true:=by kernel_rfl
def nums (l:List Int):List (List DV):=l.map fun n=>[.int .i64 n]
theorem nums_length (l:List Int):(nums l).length=l.length:=List.length_map ..
theorem nums_at {l:List Int} {k:Nat} {a:Int} (h:l[k]? = some a):(nums l)[k]? = some [.int .i64 a]:=by simp [nums,h]
theorem nums_apps (l m:List Int):nums l++nums m=nums (l++m):=by simp [nums]
structure Cert where
 author:Int
 round:Int
 bats:List Int
 pars:List Int
 digest:Int
 sigs:List Int
def Cert.cs (c:Cert):List DV:=[.int .i64 c.author,.int .i64 c.round,.sl 1 (nums c.bats),.sl 1 (nums c.pars),.int .i64 c.digest,.sl 1 (nums c.sigs)]
def Cert.cells (c:Cert):List AV:=c.cs.map AV.d
def Cert.av (c:Cert):AV := .agg c.cells
def Cert.hcells (c:Cert):List AV:=[.d (.int .i64 c.author),.d (.int .i64 c.round),.d (.sl 1 (nums c.bats)),.d (.sl 1 (nums c.pars))]
def Cert.hav (c:Cert):AV := .agg c.hcells
def i64 (n:Int):Prop := -9223372036854775808≤n∧n<9223372036854775808
def few {α:Type} (l:List α):Prop:=l.length≤140737488355328
structure Cert.ok (c:Cert):Prop where
 author:i64 c.author
 round:i64 c.round
 bats:few c.bats∧∀ n∈c.bats,i64 n
 pars:few c.pars∧∀ n∈c.pars,i64 n
 digest:i64 c.digest
 sigs:few c.sigs∧∀ n∈c.sigs,i64 n
end Go.Proofs.YtgkhgapkfnkagaaGreatDoor
namespace Go.Proofs.YtgkhgapkfnkagaaGreatDoor
open Go.Ab Go.RowKit Go.MapKept
attribute [local irreducible] ACalls AW ADraw fltB fnear
set_option maxRecDepth 100000
theorem cf_ok (n:Int) (hn:0<n∧n≤16):ACalls Tryz.prog 327 [.d (.int .i64 n)] [] (fun av L=>av = .d (.int .i64 ((n - 1) / 3))∧L=[]):=by
 (refine acalls_go ttOk zOk foOk Tryz.func327 rfl Tryz.ntmps327 rfl false rfl ?_);(conv=>whnf)
 ((with_reducible apply z_wrap);(focus omega);(conv=>whnf))
 refine ⟨by decide,?_⟩
 intro z hz
 have:z=(n - 1) / 3:=by rw [hz,Int.tdiv_eq_ediv_of_nonneg (by omega),wrapI (by omega)]
 clear hz
 subst this
 conv=>whnf
 exact ⟨rfl,rfl⟩
end Go.Proofs.YtgkhgapkfnkagaaGreatDoor
namespace Go.Proofs.YtgkhgapkfnkagaaGreatDoor
open Go.Ab Go.RowKit
end Go.Proofs.YtgkhgapkfnkagaaGreatDoor
namespace Go.Proofs.YtgkhgapkfnkagaaGreatDoor
open Go.Ab Go.RowKit Go.MapKept
attribute [local irreducible] ACalls AW ADraw fltB fnear
set_option maxRecDepth 100000
def risingI (l:List Int):Prop:=l.Pairwise (· < ·)
end Go.Proofs.YtgkhgapkfnkagaaGreatDoor
namespace Go.Proofs.YtgkhgapkfnkagaaGreatDoor
open Go Go.Ab Go.RowKit
end Go.Proofs.YtgkhgapkfnkagaaGreatDoor
namespace Go.Proofs.YtgkhgapkfnkagaaGreatDoor
open Go.Ab Go.RowKit Go.MapKept
attribute [local irreducible] ACalls AW ADraw fltB fnear
set_option maxRecDepth 100000
theorem tmod_pos {a b:Int} (ha:0≤a) {z:Int} (hz:z=a.tmod b):z=a % b:=by rw [hz,Int.tmod_eq_emod_of_nonneg ha]
def isN (n:Int):Bool:=decide (1≤n∧n≤16∧n % 3=1)
theorem is_ok (n:Int):ACalls Tryz.prog 17 [.d (.int .i64 n)] [] (fun av L=>av = .d (.bool (isN n))∧L=[]):=by
 unfold isN
 (refine acalls_go ttOk zOk foOk Tryz.func17 rfl Tryz.ntmps17 rfl false rfl ?_);(conv=>whnf)
 refine rdz ?_;repeat' ((with_reducible apply tw)<;>intro _)
 ·rename_i h1 h2
  refine ⟨by decide,?_⟩
  intro z hz
  have hz2:=tmod_pos (by omega) hz
  clear hz
  subst hz2
  conv=>whnf
  exact ⟨boolEq (by simp;omega),rfl⟩
 ·rename_i h1 h2
  exact ⟨by rw [decide_eq_false (by omega)];rfl,rfl⟩
 ·rename_i h1
  exact ⟨by rw [decide_eq_false (by omega)];rfl,rfl⟩
theorem digest_ok (n:Int):ACalls Tryz.prog 144 [.d (.int .i64 n)] [] (fun av L=>av = .d (.bool (decide (1≤n∧n≤65536)))∧L=[]):=by
 (refine acalls_go ttOk zOk foOk Tryz.func144 rfl Tryz.ntmps144 rfl false rfl ?_);(conv=>whnf)
 refine rdz ?_;repeat' ((with_reducible apply tw)<;>intro _)
 ·rename_i h1
  exact ⟨boolEq (by simp;omega),rfl⟩
 ·rename_i h1
  exact ⟨by rw [decide_eq_false (by omega)];rfl,rfl⟩
theorem q_ok (n:Int) (hn:0<n∧n≤16):ACalls Tryz.prog 220 [.d (.int .i64 n)] [] (fun av L=>av = .d (.int .i64 (2 * ((n - 1) / 3)+1))∧L=[]):=by
 (refine acalls_go ttOk zOk foOk Tryz.func220 rfl Tryz.ntmps220 rfl false rfl ?_);(conv=>whnf)
 refine (cf_ok n hn).mono ?_
 rintro _ _ ⟨rfl,rfl⟩
 conv=>whnf
 refine rdz ?_;repeat' ((with_reducible apply tw)<;>intro _)
 exact ⟨rfl,rfl⟩
theorem rising_snoc {l:List Int} {x:Int}:risingI (l++[x])↔risingI l∧∀ y∈l,y<x:=by
 unfold risingI
 rw [List.pairwise_append]
 simp
theorem rising_last {l:List Int} {j:Nat} {y:Int} (h:risingI (l.take (j+1))) (hy:l[j]? = some y):∀ z∈l.take (j+1),z≤y:=by
 rw [List.take_add_one,hy] at h ⊢
 intro z hz
 have:=(rising_snoc (l:=l.take j) (x:=y)).1 h
 rcases List.mem_append.1 hz with hz|hz
 ·have:=this.2 z hz;omega
 ·simp at hz;omega
def riseB (l:List Int) (a b:Int):Prop:=risingI l∧∀ x∈l,a≤x∧x≤b
theorem riseB_take {l:List Int} {a b:Int} (h:riseB l a b) (j:Nat):riseB (l.take j) a b:=⟨h.1.sublist (List.take_sublist ..),fun x hx=>h.2 x (List.mem_of_mem_take hx)⟩
theorem riseB_succ {l:List Int} {a b x:Int} {j:Nat} (hx:l[j]? = some x):riseB (l.take (j+1)) a b↔riseB (l.take j) a b∧a≤x∧x≤b∧∀ y∈l.take j,y<x:=by
 unfold riseB
 rw [List.take_add_one,hx,Option.toList_some,rising_snoc]
 constructor
 ·rintro ⟨⟨h1,h2⟩,h3⟩
  exact ⟨⟨h1,fun y hy=>h3 y (by simp [hy])⟩,(h3 x (by simp)).1,(h3 x (by simp)).2,h2⟩
 ·rintro ⟨⟨h1,h2⟩,h3,h4,h5⟩
  refine ⟨⟨h1,h5⟩,fun y hy => ?_⟩
  rcases List.mem_append.1 hy with hy|hy
  ·exact h2 y hy
  ·rw [List.mem_singleton.1 hy];exact ⟨h3,h4⟩
theorem take_pred {l:List Int} {j:Nat} (h0:0<j) (hj:j<l.length):∃ y,l[j - 1]? = some y∧y∈l.take j∧(risingI (l.take j)→∀ z∈l.take j,z≤y):=by
 obtain ⟨m,rfl⟩:∃ m,j=m+1:=⟨j - 1,by omega⟩
 obtain ⟨y,hy⟩:∃ y,l[m]? = some y:=⟨_,List.getElem?_eq_getElem (by omega)⟩
 refine ⟨y,hy,?_,fun h=>rising_last h hy⟩
 rw [List.take_add_one,hy];simp
open Classical in
theorem crising_ok (l:List Int) (hl:few l) (a b:Int):ACalls Tryz.prog 145 [.d (.sl 1 (nums l)),.d (.int .i64 a),.d (.int .i64 b)] [] (fun av L=>av = .d (.bool (decide (riseB l a b)))∧L=[]):=by
 have hll:=nums_length l
 unfold few at hl
 (refine acalls_go ttOk zOk foOk Tryz.func145 rfl Tryz.ntmps145 rfl false rfl ?_);(conv=>whnf)
 refine loop_go ttOk zOk foOk (σ:=Nat) (fun j=>([(0,.d (.sl 1 (nums l))),(1,.d (.int .i64 a)),(2,.d (.int .i64 b)),(9,.d (.sl 1 (nums l))),(10,.d (.int .i64 l.length)),(11,.d (.int .i64 j))],[])) (fun j=>j≤l.length∧riseB (l.take j) a b) (fun j=>l.length - j) [0,1,2,9,10,11] ?_ ?_
 ·conv=>whnf
  exact ⟨0,by rw [hll];rfl,rfl,Nat.zero_le _,by simp [riseB,risingI]⟩
 ·rintro j ⟨hj,hr⟩
  conv=>whnf
  refine rdz ?_;repeat' ((with_reducible apply tw)<;>intro _)
  ·rename_i h
   obtain ⟨x,hx⟩:∃ x,l[j]? = some x:=⟨_,List.getElem?_eq_getElem (by omega)⟩
   have hs:=riseB_succ (a:=a) (b:=b) hx
   have hbad:¬(a≤x∧x≤b∧∀ y∈l.take j,y<x)→¬riseB l a b:=fun h1 h2=>h1 ((hs.1 (riseB_take h2 (j+1))).2)
   refine ⟨by omega,[.int .i64 x],nums_at hx,?_⟩
   conv=>whnf
   refine rdz ?_;repeat' ((with_reducible apply tw)<;>intro _)
   ·rename_i h2
    exact ⟨by rw [decide_eq_false (hbad fun h3=>by omega)];rfl,rfl⟩
   ·rename_i h2 h3
    exact ⟨by rw [decide_eq_false (hbad fun h4=>by omega)];rfl,rfl⟩
   ·rename_i h2 h3 h4
    obtain ⟨y,hy,hym,hle⟩:=take_pred (l:=l) (j:=j) (by omega) (by omega)
    refine ⟨by omega,[.int .i64 y],by rw [show ((j:Int) - 1).toNat=j - 1 by omega];exact nums_at hy,?_⟩
    conv=>whnf
    refine rdz ?_;repeat' ((with_reducible apply tw)<;>intro _)
    ·rename_i h5
     exact ⟨by rw [decide_eq_false (hbad fun h6=>by have:=h6.2.2 y hym;omega)];rfl,rfl⟩
    ·rename_i h5
     exact ⟨j+1,rfl,rfl,⟨by omega,hs.2 ⟨hr,by omega,by omega,fun z hz=>by have:=hle hr.1 z hz;omega⟩⟩,by omega⟩
   ·rename_i h2 h3 h4
    have hj0:j=0:=by omega
    subst hj0
    exact ⟨1,rfl,rfl,⟨by omega,hs.2 ⟨hr,by omega,by omega,by simp⟩⟩,by omega⟩
  ·rename_i h
   rw [List.take_of_length_le (by omega)] at hr
   exact ⟨by rw [decide_eq_true hr];rfl,rfl⟩
open Classical in
theorem digests_ok (l:List Int) (hl:few l):ACalls Tryz.prog 172 [.d (.sl 1 (nums l))] [] (fun av L=>av = .d (.bool (decide (riseB l 1 65536)))∧L=[]):=by
 (refine acalls_go ttOk zOk foOk Tryz.func172 rfl Tryz.ntmps172 rfl false rfl ?_);(conv=>whnf)
 refine (crising_ok l hl 1 65536).mono ?_
 rintro _ _ ⟨rfl,rfl⟩
 conv=>whnf
 exact ⟨rfl,rfl⟩
theorem rMay_ok (n:Int):ACalls Tryz.prog 32 [.d (.int .i64 n)] [] (fun av L=>av = .d (.bool (isN n))∧L=[]):=by
 unfold isN
 (refine acalls_go ttOk zOk foOk Tryz.func32 rfl Tryz.ntmps32 rfl false rfl ?_);(conv=>whnf)
 refine rdw ?_;repeat' ((with_reducible apply tw)<;>intro _)
 ·rename_i h1 h2
  refine ⟨by decide,?_⟩
  intro z hz
  have hz2:=tmod_pos (by omega) hz
  clear hz
  subst hz2
  conv=>whnf
  exact ⟨boolEq (by simp;omega),rfl⟩
 ·rename_i h1 h2
  exact ⟨by rw [decide_eq_false (by omega)];rfl,rfl⟩
 ·rename_i h1
  exact ⟨by rw [decide_eq_false (by omega)];rfl,rfl⟩
theorem rQuorum_ok (n:Int) (hn:isN n=true):ACalls Tryz.prog 90 [.d (.int .i64 n)] [] (fun av L=>av = .d (.int .i64 (2 * ((n - 1) / 3)+1))∧L=[]):=by
 have hn':=of_decide_eq_true hn
 (refine acalls_go ttOk zOk foOk Tryz.func90 rfl Tryz.ntmps90 rfl false rfl ?_);(conv=>whnf)
 refine ⟨by decide,?_⟩
 intro z hz
 have:z=(n - 1) / 3:=by rw [hz,Int.tdiv_eq_ediv_of_nonneg (by omega),wrapI (by omega)];omega
 clear hz
 subst this
 conv=>whnf
 refine rdw ?_;repeat' ((with_reducible apply tw)<;>intro _)
 exact ⟨rfl,rfl⟩
theorem rDigest_ok (n:Int):ACalls Tryz.prog 33 [.d (.int .i64 n)] [] (fun av L=>av = .d (.bool (decide (1≤n∧n≤65536)))∧L=[]):=by
 (refine acalls_go ttOk zOk foOk Tryz.func33 rfl Tryz.ntmps33 rfl false rfl ?_);(conv=>whnf)
 refine rdw ?_;repeat' ((with_reducible apply tw)<;>intro _)
 ·rename_i h1
  exact ⟨boolEq (by simp;omega),rfl⟩
 ·rename_i h1
  exact ⟨by rw [decide_eq_false (by omega)];rfl,rfl⟩
theorem rising_take_succ {l:List Int} {j:Nat} {y x:Int} (hy:l[j]? = some y) (hx:l[j+1]? = some x):risingI (l.take (j+2))↔risingI (l.take (j+1))∧y<x:=by
 rw [show l.take (j+2)=l.take (j+1)++[x] by rw [List.take_add_one,hx];rfl,rising_snoc]
 constructor
 ·rintro ⟨h1,h2⟩
  exact ⟨h1,h2 y (by rw [List.take_add_one,hy];simp)⟩
 ·rintro ⟨h1,h2⟩
  exact ⟨h1,fun z hz=>by have:=rising_last h1 hy z hz;omega⟩
open Classical in
theorem rRising_ok (l:List Int) (hl:few l):ACalls Tryz.prog 91 [.d (.sl 1 (nums l))] [] (fun av L=>av = .d (.bool (decide (risingI l)))∧L=[]):=by
 have hll:=nums_length l
 unfold few at hl
 (refine acalls_go ttOk zOk foOk Tryz.func91 rfl Tryz.ntmps91 rfl false rfl ?_);(conv=>whnf)
 refine loop_go ttOk zOk foOk (σ:=Nat) (fun j=>([(0,.d (.sl 1 (nums l))),(3,.d (.int .i64 ((j:Int)+1)))],[])) (fun j=>j≤l.length∧risingI (l.take (j+1))) (fun j=>l.length - j) [0,3] ?_ ?_
 ·conv=>whnf
  refine ⟨0,rfl,rfl,Nat.zero_le _,?_⟩
  cases l with
  | nil=>simp [risingI]
  | cons a t=>simp [risingI]
 ·rintro j ⟨hj,hr⟩
  conv=>whnf
  refine rdw ?_;repeat' ((with_reducible apply tw)<;>intro _)
  ·rename_i h
   obtain ⟨y,hy⟩:∃ y,l[j]? = some y:=⟨_,List.getElem?_eq_getElem (by omega)⟩
   obtain ⟨x,hx⟩:∃ x,l[j+1]? = some x:=⟨_,List.getElem?_eq_getElem (by omega)⟩
   have hs:=rising_take_succ hy hx
   ((with_reducible refine draw_pl ttOk zOk foOk mixedOk pl91x4 ?_ ?_);(focus kernel_rfl);(conv=>whnf))
   refine rdw ?_;repeat' ((with_reducible apply tw)<;>intro _)
   ((with_reducible apply rd_intro);(focus (intro K hK;(conv=>whnf);exact ⟨by omega,[.int .i64 x],(by rw [show ((j:Int)+1).toNat=j+1 by omega];exact nums_at hx),hK⟩));(conv=>whnf))
   refine rdw ?_;repeat' ((with_reducible apply tw)<;>intro _)
   ((with_reducible apply rd_intro);(focus (intro K hK;(conv=>whnf);exact ⟨by omega,[.int .i64 y],(by rw [show ((j:Int)+1 - 1).toNat=j by omega];exact nums_at hy),hK⟩));(conv=>whnf))
   refine rdw ?_;repeat' ((with_reducible apply tw)<;>intro _)
   ·rename_i h2
    exact ⟨by rw [decide_eq_false (fun h3=>by have:=(hs.1 (h3.sublist (List.take_sublist ..))).2;omega)];rfl,rfl⟩
   ·rename_i h2
    exact ⟨j+1,rfl,rfl,⟨by omega,hs.2 ⟨hr,by omega⟩⟩,by omega⟩
  ·rename_i h
   rw [List.take_of_length_le (by omega)] at hr
   exact ⟨by rw [decide_eq_true hr];rfl,rfl⟩
open Classical in
theorem rBetween_ok (l:List Int) (hl:few l) (a b:Int):ACalls Tryz.prog 92 [.d (.sl 1 (nums l)),.d (.int .i64 a),.d (.int .i64 b)] [] (fun av L=>av = .d (.bool (decide (∀ x∈l,a≤x∧x≤b)))∧L=[]):=by
 have hll:=nums_length l
 unfold few at hl
 (refine acalls_go ttOk zOk foOk Tryz.func92 rfl Tryz.ntmps92 rfl false rfl ?_);(conv=>whnf)
 refine loop_go ttOk zOk foOk (σ:=Nat) (fun j=>([(0,.d (.sl 1 (nums l))),(1,.d (.int .i64 a)),(2,.d (.int .i64 b)),(7,.d (.int .i64 j))],[])) (fun j=>j≤l.length∧∀ x∈l.take j,a≤x∧x≤b) (fun j=>l.length - j) [0,1,2,7] ?_ ?_
 ·conv=>whnf
  exact ⟨0,rfl,rfl,Nat.zero_le _,by simp⟩
 ·rintro j ⟨hj,hr⟩
  conv=>whnf
  refine rdw ?_;repeat' ((with_reducible apply tw)<;>intro _)
  ·rename_i h
   obtain ⟨x,hx⟩:∃ x,l[j]? = some x:=⟨_,List.getElem?_eq_getElem (by omega)⟩
   refine ⟨by omega,[.int .i64 x],nums_at hx,?_⟩
   conv=>whnf
   refine rdw ?_;repeat' ((with_reducible apply tw)<;>intro _)
   ·rename_i h2
    exact ⟨by rw [decide_eq_false (fun h3=>by have:=h3 x (List.mem_of_getElem? hx);omega)];rfl,rfl⟩
   ·rename_i h2
    refine ⟨by omega,[.int .i64 x],nums_at hx,?_⟩
    conv=>whnf
    refine rdw ?_;repeat' ((with_reducible apply tw)<;>intro _)
    ·rename_i h3
     exact ⟨by rw [decide_eq_false (fun h4=>by have:=h4 x (List.mem_of_getElem? hx);omega)];rfl,rfl⟩
    ·rename_i h3
     refine ⟨j+1,rfl,rfl,⟨by omega,fun z hz => ?_⟩,by omega⟩
     rw [List.take_add_one,hx] at hz
     rcases List.mem_append.1 hz with hz|hz
     ·exact hr z hz
     ·simp at hz;omega
  ·rename_i h
   rw [List.take_of_length_le (by omega)] at hr
   exact ⟨by rw [decide_eq_true hr];rfl,rfl⟩
open Classical in
theorem rDigests_ok (l:List Int) (hl:few l):ACalls Tryz.prog 93 [.d (.sl 1 (nums l))] [] (fun av L=>av = .d (.bool (decide (∀ x∈l,1≤x∧x≤65536)))∧L=[]):=by
 (refine acalls_go ttOk zOk foOk Tryz.func93 rfl Tryz.ntmps93 rfl false rfl ?_);(conv=>whnf)
 refine (rBetween_ok l hl 1 65536).mono ?_
 rintro _ _ ⟨rfl,rfl⟩
 conv=>whnf
 exact ⟨rfl,rfl⟩
open Classical in
theorem rdigests_ok (l:List Int) (hl:few l) (m:Int):ACalls Tryz.prog 37 [.d (.sl 1 (nums l)),.d (.int .i64 m)] [] (fun av L=>av = .d (.bool (decide ((l.length:Int)≤m∧riseB l 1 65536)))∧L=[]):=by
 have hll:=nums_length l
 (refine acalls_go ttOk zOk foOk Tryz.func37 rfl Tryz.ntmps37 rfl false rfl ?_);(conv=>whnf)
 rw [hll]
 refine rdw ?_;repeat' ((with_reducible apply tw)<;>intro _)
 ·rename_i h1
  refine (rDigests_ok l hl).mono ?_
  rintro _ _ ⟨rfl,rfl⟩
  conv=>whnf
  refine rdw ?_;repeat' ((with_reducible apply tw)<;>intro _)
  ·rename_i h2
   refine (rRising_ok l hl).mono ?_
   rintro _ _ ⟨rfl,rfl⟩
   conv=>whnf
   exact ⟨boolEq (by simp only [decide_eq_true_iff];exact ⟨fun h=>⟨h1,h,h2⟩,fun h=>h.2.1⟩),rfl⟩
  ·rename_i h2
   exact ⟨by rw [decide_eq_false (fun h=>h2 h.2.2)];rfl,rfl⟩
 ·rename_i h1
  exact ⟨by rw [decide_eq_false (fun h=>h1 h.1)];rfl,rfl⟩
def quo (n:Int):Int:=2 * ((n - 1) / 3)+1
structure okHead (n:Int) (c:Cert):Prop where
 isn:isN n=true
 author:1≤c.author∧c.author≤n
 round:1≤c.round∧c.round≤1099511627776
 bats:(c.bats.length:Int)≤8∧riseB c.bats 1 65536
 pars:(c.pars.length:Int)≤n∧riseB c.pars 1 65536
 one:c.round=1→c.pars=[]
 many:c.round≠1→(c.pars.length:Int)≥quo n
structure okCert (n:Int) (c:Cert):Prop where
 head:okHead n c
 digest:1≤c.digest∧c.digest≤65536
 sigs:riseB c.sigs 1 n
 enough:(c.sigs.length:Int)≥quo n
structure fewL (c:Cert):Prop where
 bats:few c.bats
 pars:few c.pars
 sigs:few c.sigs
open Classical in
theorem rHeader_ok (c:Cert) (hf:fewL c) (n:Int):ACalls Tryz.prog 35 [c.hav,.d (.int .i64 n)] [] (fun av L=>av = .d (.bool (decide (okHead n c)))∧L=[]):=by
 have hpl:=nums_length c.pars
 (refine acalls_go ttOk zOk foOk Tryz.func35 rfl Tryz.ntmps35 rfl false rfl ?_);(conv=>whnf)
 refine (rMay_ok n).mono ?_
 rintro _ _ ⟨rfl,rfl⟩
 cases hn:isN n with
 | false =>
   conv=>whnf
   exact ⟨by rw [decide_eq_false (fun h=>by have:=h.isn;rw [hn] at this;cases this)];rfl,rfl⟩
 | true =>
   have hn':=of_decide_eq_true hn
   conv=>whnf
   refine rdw ?_;repeat' ((with_reducible apply tw)<;>intro _)
   ·rename_i h
    exact ⟨by rw [decide_eq_false (fun h1=>by have:=h1.author;omega)];rfl,rfl⟩
   ·rename_i h1 h
    exact ⟨by rw [decide_eq_false (fun h1=>by have:=h1.author;omega)];rfl,rfl⟩
   ·rename_i h1 h2 h
    exact ⟨by rw [decide_eq_false (fun h1=>by have:=h1.round;omega)];rfl,rfl⟩
   ·rename_i h1 h2 h3 h
    exact ⟨by rw [decide_eq_false (fun h1=>by have:=h1.round;omega)];rfl,rfl⟩
   ·rename_i h1 h2 h3 h4
    refine (rdigests_ok c.bats hf.bats 8).mono ?_
    rintro _ _ ⟨rfl,rfl⟩
    conv=>whnf
    refine rdw ?_;repeat' ((with_reducible apply tw)<;>intro _)
    ·rename_i h5
     exact ⟨by rw [decide_eq_false (fun h=>of_decide_eq_false h5 h.bats)];rfl,rfl⟩
    ·rename_i h5
     replace h5:=of_decide_eq_true h5
     refine (rdigests_ok c.pars hf.pars n).mono ?_
     rintro _ _ ⟨rfl,rfl⟩
     conv=>whnf
     refine rdw ?_;repeat' ((with_reducible apply tw)<;>intro _)
     ·rename_i h6
      exact ⟨by rw [decide_eq_false (fun h=>of_decide_eq_false h6 h.pars)];rfl,rfl⟩
     ·rename_i h6 h7
      replace h6:=of_decide_eq_true h6
      refine ⟨boolEq ?_,rfl⟩
      simp only [beq_iff_eq,decide_eq_true_iff,hpl]
      constructor
      ·intro h8
       exact ⟨hn,by omega,by omega,h5,h6,fun _=>List.eq_nil_of_length_eq_zero (by omega),fun h=>absurd h7 h⟩
      ·intro h8
       rw [h8.one h7];rfl
     ·rename_i h6 h7
      replace h6:=of_decide_eq_true h6
      ((with_reducible refine draw_pl ttOk zOk foOk mixedOk pl35x5 ?_ ?_);(focus kernel_rfl);(conv=>whnf))
      refine rdw ?_;repeat' ((with_reducible apply tw)<;>intro _)
      refine (rQuorum_ok n hn).mono ?_
      rintro _ _ ⟨rfl,rfl⟩
      conv=>whnf
      refine rdw ?_;repeat' ((with_reducible apply tw)<;>intro _)
      refine ⟨boolEq ?_,rfl⟩
      simp only [decide_eq_true_iff,hpl]
      constructor
      ·intro h8
       exact ⟨hn,by omega,by omega,h5,h6,fun h=>absurd h h7,fun _=>h8⟩
      ·intro h8
       exact h8.many h7
open Classical in
theorem rCert_ok (c:Cert) (hf:fewL c) (n:Int):ACalls Tryz.prog 36 [c.av,.d (.int .i64 n)] [] (fun av L=>av = .d (.bool (decide (okCert n c)))∧L=[]):=by
 have hsl:=nums_length c.sigs
 (refine acalls_go ttOk zOk foOk Tryz.func36 rfl Tryz.ntmps36 rfl false rfl ?_);(conv=>whnf)
 ((with_reducible refine draw_pl ttOk zOk foOk mixedOk pl36x1 ?_ ?_);(focus kernel_rfl);(conv=>whnf))
 refine rdw ?_;repeat' ((with_reducible apply tw)<;>intro _)
 refine (rHeader_ok c hf n).mono ?_
 rintro _ _ ⟨rfl,rfl⟩
 conv=>whnf
 refine rdw ?_;repeat' ((with_reducible apply tw)<;>intro _)
 ·rename_i h1
  refine (rDigest_ok c.digest).mono ?_
  rintro _ _ ⟨rfl,rfl⟩
  conv=>whnf
  refine rdw ?_;repeat' ((with_reducible apply tw)<;>intro _)
  ·rename_i h2
   refine (rRising_ok c.sigs hf.sigs).mono ?_
   rintro _ _ ⟨rfl,rfl⟩
   conv=>whnf
   refine rdw ?_;repeat' ((with_reducible apply tw)<;>intro _)
   ·rename_i h3
    refine (rBetween_ok c.sigs hf.sigs 1 n).mono ?_
    rintro _ _ ⟨rfl,rfl⟩
    conv=>whnf
    refine rdw ?_;repeat' ((with_reducible apply tw)<;>intro _)
    ·rename_i h4
     refine (rQuorum_ok n h1.isn).mono ?_
     rintro _ _ ⟨rfl,rfl⟩
     conv=>whnf
     refine rdw ?_;repeat' ((with_reducible apply tw)<;>intro _)
     refine ⟨boolEq ?_,rfl⟩
     simp only [decide_eq_true_iff,hsl]
     exact ⟨fun h=>⟨h1,h2,⟨h3,h4⟩,h⟩,fun h=>h.enough⟩
    ·rename_i h4
     exact ⟨by rw [decide_eq_false (fun h=>h4 h.sigs.2)];rfl,rfl⟩
   ·rename_i h3
    exact ⟨by rw [decide_eq_false (fun h=>h3 h.sigs.1)];rfl,rfl⟩
  ·rename_i h2
   exact ⟨by rw [decide_eq_false (fun h=>h2 h.digest)];rfl,rfl⟩
 ·rename_i h1
  exact ⟨by rw [decide_eq_false (fun h=>h1 h.head)];rfl,rfl⟩
structure okForm (n:Int) (c:Cert):Prop where
 author:1≤c.author∧c.author≤n
 round:1≤c.round∧c.round≤1099511627776
 bats:(c.bats.length:Int)≤8∧riseB c.bats 1 65536
 pars:(c.pars.length:Int)≤n∧riseB c.pars 1 65536
 one:c.round=1→c.pars=[]
open Classical in
theorem form_ok (c:Cert) (hf:fewL c) (n:Int):ACalls Tryz.prog 267 [c.hav,.d (.int .i64 n)] [] (fun av L=>av = .d (.bool (decide (okForm n c)))∧L=[]):=by
 have hpl:=nums_length c.pars
 have hbl:=nums_length c.bats
 (refine acalls_go ttOk zOk foOk Tryz.func267 rfl Tryz.ntmps267 rfl false rfl ?_);(conv=>whnf)
 refine rdw ?_;repeat' ((with_reducible apply tw)<;>intro _)
 ·rename_i h
  exact ⟨by rw [decide_eq_false (fun h1=>by have:=h1.author;omega)];rfl,rfl⟩
 ·rename_i h1 h
  exact ⟨by rw [decide_eq_false (fun h1=>by have:=h1.author;omega)];rfl,rfl⟩
 ·rename_i h1 h2 h
  exact ⟨by rw [decide_eq_false (fun h1=>by have:=h1.round;omega)];rfl,rfl⟩
 ·rename_i h1 h2 h3 h
  exact ⟨by rw [decide_eq_false (fun h1=>by have:=h1.round;omega)];rfl,rfl⟩
 ·rename_i h1 h2 h3 h4 h
  exact ⟨by rw [decide_eq_false (fun h1=>by have:=h1.bats.1;omega)];rfl,rfl⟩
 ·rename_i h1 h2 h3 h4 h5
  refine (digests_ok c.bats hf.bats).mono ?_
  rintro _ _ ⟨rfl,rfl⟩
  conv=>whnf
  refine rdw ?_;repeat' ((with_reducible apply tw)<;>intro _)
  ·rename_i h6
   refine (digests_ok c.pars hf.pars).mono ?_
   rintro _ _ ⟨rfl,rfl⟩
   conv=>whnf
   refine rdw ?_;repeat' ((with_reducible apply tw)<;>intro _)
   ·rename_i h7 h8 h9
    exact ⟨by rw [decide_eq_true ⟨by omega,by omega,⟨by omega,h6⟩,⟨by omega,h7⟩,fun h=>absurd h (by omega)⟩];rfl,rfl⟩
   ·rename_i h7 h8 h9
    refine ⟨boolEq ?_,rfl⟩
    simp only [beq_iff_eq,decide_eq_true_iff,hpl]
    exact ⟨fun h=>⟨by omega,by omega,⟨by omega,h6⟩,⟨by omega,h7⟩,fun _=>List.eq_nil_of_length_eq_zero (by omega)⟩,fun h=>by rw [h.one (by omega)];rfl⟩
   ·rename_i h7 h8
    exact ⟨by rw [decide_eq_false (fun h=>by have:=h.pars.1;omega)];rfl,rfl⟩
   ·rename_i h7
    exact ⟨by rw [decide_eq_false (fun h=>h7 h.pars.2)];rfl,rfl⟩
  ·rename_i h6
   exact ⟨by rw [decide_eq_false (fun h=>h6 h.bats.2)];rfl,rfl⟩
open Classical in
theorem hMay_ok (c:Cert) (hf:fewL c) (n:Int):ACalls Tryz.prog 170 [c.hav,.d (.int .i64 n)] [] (fun av L=>av = .d (.bool (decide (okHead n c)))∧L=[]):=by
 have hpl:=nums_length c.pars
 (refine acalls_go ttOk zOk foOk Tryz.func170 rfl Tryz.ntmps170 rfl false rfl ?_);(conv=>whnf)
 ((with_reducible refine draw_pl ttOk zOk foOk mixedOk pl170x1 ?_ ?_);(focus kernel_rfl);(conv=>whnf))
 refine rdw ?_;repeat' ((with_reducible apply tw)<;>intro _)
 refine (is_ok n).mono ?_
 rintro _ _ ⟨rfl,rfl⟩
 obtain ⟨b,hb⟩:∃ b,isN n=b:=⟨_,rfl⟩
 rw [hb]
 conv=>whnf
 refine rdw ?_;repeat' ((with_reducible apply tw)<;>intro _)
 ·rename_i h1
  rw [h1] at hb
  have hn':=of_decide_eq_true hb
  refine (form_ok c hf n).mono ?_
  rintro _ _ ⟨rfl,rfl⟩
  conv=>whnf
  refine rdw ?_;repeat' ((with_reducible apply tw)<;>intro _)
  ·rename_i h2 h3
   exact ⟨by rw [decide_eq_true ⟨hb,h2.author,h2.round,h2.bats,h2.pars,h2.one,fun h=>absurd h3 h⟩];rfl,rfl⟩
  ·rename_i h2 h3
   refine (q_ok n ⟨by omega,by omega⟩).mono ?_
   rintro _ _ ⟨rfl,rfl⟩
   conv=>whnf
   refine rdw ?_;repeat' ((with_reducible apply tw)<;>intro _)
   refine ⟨boolEq ?_,rfl⟩
   simp only [decide_eq_true_iff,hpl]
   exact ⟨fun h=>⟨hb,h2.author,h2.round,h2.bats,h2.pars,h2.one,fun _=>h⟩,fun h=>h.many h3⟩
  ·rename_i h2
   exact ⟨by rw [decide_eq_false (fun h=>h2 ⟨h.author,h.round,h.bats,h.pars,h.one⟩)];rfl,rfl⟩
 ·rename_i h1
  rw [h1] at hb
  exact ⟨by rw [decide_eq_false (fun h=>by have:=h.isn;rw [hb] at this;cases this)];rfl,rfl⟩
open Classical in
theorem mayCert_ok (c:Cert) (hf:fewL c) (n:Int):ACalls Tryz.prog 171 [c.av,.d (.int .i64 n)] [] (fun av L=>av = .d (.bool (decide (okCert n c)))∧L=[]):=by
 have hsl:=nums_length c.sigs
 (refine acalls_go ttOk zOk foOk Tryz.func171 rfl Tryz.ntmps171 rfl false rfl ?_);(conv=>whnf)
 ((with_reducible refine draw_pl ttOk zOk foOk mixedOk pl171x1 ?_ ?_);(focus kernel_rfl);(conv=>whnf))
 refine rdw ?_;repeat' ((with_reducible apply tw)<;>intro _)
 refine (hMay_ok c hf n).mono ?_
 rintro _ _ ⟨rfl,rfl⟩
 conv=>whnf
 refine rdw ?_;repeat' ((with_reducible apply tw)<;>intro _)
 ·rename_i h1
  have hn':=of_decide_eq_true h1.isn
  refine (digest_ok c.digest).mono ?_
  rintro _ _ ⟨rfl,rfl⟩
  conv=>whnf
  refine rdw ?_;repeat' ((with_reducible apply tw)<;>intro _)
  ·rename_i h2
   refine (crising_ok c.sigs hf.sigs 1 n).mono ?_
   rintro _ _ ⟨rfl,rfl⟩
   conv=>whnf
   refine rdw ?_;repeat' ((with_reducible apply tw)<;>intro _)
   ·rename_i h3
    refine (q_ok n ⟨by omega,by omega⟩).mono ?_
    rintro _ _ ⟨rfl,rfl⟩
    conv=>whnf
    refine rdw ?_;repeat' ((with_reducible apply tw)<;>intro _)
    refine ⟨boolEq ?_,rfl⟩
    simp only [decide_eq_true_iff,hsl]
    exact ⟨fun h=>⟨h1,h2,h3,h⟩,fun h=>h.enough⟩
   ·rename_i h3
    exact ⟨by rw [decide_eq_false (fun h=>h3 h.sigs)];rfl,rfl⟩
  ·rename_i h2
   exact ⟨by rw [decide_eq_false (fun h=>h2 h.digest)];rfl,rfl⟩
 ·rename_i h1
  exact ⟨by rw [decide_eq_false (fun h=>h1 h.head)];rfl,rfl⟩
end Go.Proofs.YtgkhgapkfnkagaaGreatDoor
namespace Go.Proofs.YtgkhgapkfnkagaaGreatDoor
open Go.Ab Go.RowKit
end Go.Proofs.YtgkhgapkfnkagaaGreatDoor
namespace Go.Proofs.YtgkhgapkfnkagaaGreatDoor
open Go.Ab Go.RowKit Go.MapKept
attribute [local irreducible] ACalls AW ADraw fltB fnear
set_option maxRecDepth 100000
def tiny {α:Type} (l:List α):Prop:=l.length≤1099511627776
structure Cert.tiny (c:Cert):Prop where
 bats:Go.Proofs.YtgkhgapkfnkagaaGreatDoor.tiny c.bats
 pars:Go.Proofs.YtgkhgapkfnkagaaGreatDoor.tiny c.pars
 sigs:Go.Proofs.YtgkhgapkfnkagaaGreatDoor.tiny c.sigs
theorem take_succ_eq {α:Type} {xs ys:List α} {k:Nat} {a b:α} (hx:xs[k]? = some a) (hy:ys[k]? = some b) (h:xs.take k=ys.take k):xs.take (k+1)=ys.take (k+1)↔a=b:=by
 rw [List.take_add_one,List.take_add_one,h,hx,hy]
 simp only [Option.toList_some,List.append_cancel_left_eq,List.cons.injEq,and_true]
theorem eqNumbers_ok (xs ys:List Int) (hm:few xs):ACalls Tryz.prog 97 [.d (.sl 1 (nums xs)),.d (.sl 1 (nums ys))] [] (fun av L=>av = .d (.bool (decide (xs=ys)))∧L=[]):=by
 have hx:=nums_length xs
 have hy:=nums_length ys
 unfold few at hm
 (refine acalls_go ttOk zOk foOk Tryz.func97 rfl Tryz.ntmps97 rfl false rfl ?_);(conv=>whnf)
 rw [hx,hy]
 refine rdw ?_;repeat' ((with_reducible apply tw)<;>intro _)
 ·rename_i h
  rw [decide_eq_false (fun e=>h (by rw [e]))]
  exact ⟨rfl,rfl⟩
 ·rename_i h
  have hl:xs.length=ys.length:=by omega
  refine loop_go ttOk zOk foOk (σ:=Nat) (fun k=>([(0,.d (.sl 1 (nums xs))),(1,.d (.sl 1 (nums ys))),(5,.d (.int .i64 k))],[])) (fun k=>k≤xs.length∧xs.take k=ys.take k) (fun k=>xs.length - k) [0,1,5] ?_ ?_
  ·conv=>whnf
   exact ⟨0,rfl,rfl,by simp⟩
  ·rintro k ⟨hk,he⟩
   conv=>whnf
   rw [hx]
   refine rdw ?_;repeat' ((with_reducible apply tw)<;>intro _)
   ·rename_i h
    refine Exists.elim (⟨_,List.getElem?_eq_getElem (by omega)⟩:∃ a,xs[k]? = some a) fun a ha => ?_
    refine Exists.elim (⟨_,List.getElem?_eq_getElem (by omega)⟩:∃ b,ys[k]? = some b) fun b hb => ?_
    ((with_reducible refine draw_pl ttOk zOk foOk mixedOk pl97x6 ?_ ?_);(focus kernel_rfl);(conv=>whnf))
    refine rdw ?_;repeat' ((with_reducible apply tw)<;>intro _)
    ((with_reducible apply rd_intro);(focus (intro K hK;(conv=>whnf);exact ⟨by omega,[.int .i64 a],nums_at ha,hK⟩));(conv=>whnf))
    refine rdw ?_;repeat' ((with_reducible apply tw)<;>intro _)
    ((with_reducible apply rd_intro);(focus (intro K hK;(conv=>whnf);exact ⟨by omega,[.int .i64 b],nums_at hb,hK⟩));(conv=>whnf))
    refine rdw ?_;repeat' ((with_reducible apply tw)<;>intro _)
    ·rename_i h
     rw [decide_eq_false (fun e=>by subst e;rw [ha] at hb;cases hb;exact h rfl)]
     exact ⟨rfl,rfl⟩
    ·rename_i h
     exact ⟨k+1,rfl,rfl,⟨by omega,(take_succ_eq ha hb he).2 (by omega)⟩,by omega⟩
   ·rename_i h
    obtain rfl:k=xs.length:=by omega
    rw [decide_eq_true (by rw [List.take_length,hl,List.take_length] at he;exact he)]
    exact ⟨rfl,rfl⟩
theorem copyNumbers_ok (xs:List Int) (hm:tiny xs):ACalls Tryz.prog 49 [.d (.sl 1 (nums xs))] [] (fun av L=>av = .d (.sl 1 (nums xs))∧L=[]):=by
 have hx:=nums_length xs
 unfold tiny at hm
 (refine acalls_go ttOk zOk foOk Tryz.func49 rfl Tryz.ntmps49 rfl false rfl ?_);(conv=>whnf)
 refine loop_go ttOk zOk foOk (σ:=Nat) (fun k=>([(0,.d (.sl 1 (nums xs))),(3,.arr 0),(4,.d (.int .i64 k))],[.row 3 1 (nums (xs.take k)) false])) (fun k=>k≤xs.length) (fun k=>xs.length - k) [0,3,4] ?_ ?_
 ·conv=>whnf
  exact ⟨0,rfl,rfl,by omega⟩
 ·intro k hk
  conv=>whnf
  rw [hx]
  refine rdw ?_;repeat' ((with_reducible apply tw)<;>intro _)
  ·rename_i h
   refine Exists.elim (⟨_,List.getElem?_eq_getElem (by omega)⟩:∃ a,xs[k]? = some a) fun a ha => ?_
   have hkn:=nums_length (xs.take k)
   refine ⟨by omega,[.int .i64 a],nums_at ha,?_⟩
   conv=>whnf
   refine rdw ?_;repeat' ((with_reducible apply tw)<;>intro _)
   refine ⟨by simp [hkn];omega,?_⟩
   conv=>whnf
   refine rdw ?_;repeat' ((with_reducible apply tw)<;>intro _)
   refine ⟨k+1,rfl,?_,by omega,by omega⟩
   rw [List.take_add_one,ha,← nums_apps]
   rfl
  ·rename_i h
   rw [List.take_of_length_le (by omega)]
   exact ⟨rfl,rfl⟩
theorem copyHeader_ok (c:Cert) (h:c.tiny):ACalls Tryz.prog 47 [c.hav] [] (fun av L=>av=c.hav∧L=[]):=by
 (refine acalls_go ttOk zOk foOk Tryz.func47 rfl Tryz.ntmps47 rfl false rfl ?_);(conv=>whnf)
 refine (copyNumbers_ok c.bats h.bats).mono ?_
 rintro _ _ ⟨rfl,rfl⟩
 conv=>whnf
 refine (copyNumbers_ok c.pars h.pars).mono ?_
 rintro _ _ ⟨rfl,rfl⟩
 conv=>whnf
 exact ⟨rfl,rfl⟩
theorem copyCert_ok (c:Cert) (h:c.tiny):ACalls Tryz.prog 48 [c.av] [] (fun av L=>av=c.av∧L=[]):=by
 (refine acalls_go ttOk zOk foOk Tryz.func48 rfl Tryz.ntmps48 rfl false rfl ?_);(conv=>whnf)
 refine (copyHeader_ok c h).mono ?_
 rintro _ _ ⟨rfl,rfl⟩
 conv=>whnf
 refine (copyNumbers_ok c.sigs h.sigs).mono ?_
 rintro _ _ ⟨rfl,rfl⟩
 conv=>whnf
 exact ⟨rfl,rfl⟩
end Go.Proofs.YtgkhgapkfnkagaaGreatDoor
namespace Go.Ab
noncomputable section
open Go.RowKit
end
end Go.Ab
namespace Go.Proofs.YtgkhgapkfnkagaaGreatDoor
open Go.Ab Go.RowKit Go.MapKept
attribute [local irreducible] ACalls AW ADraw fltB fnear
set_option maxRecDepth 100000
end Go.Proofs.YtgkhgapkfnkagaaGreatDoor
namespace Go.Proofs.YtgkhgapkfnkagaaGreatDoor
open Go Go.Ab Go.RowKit Go.Lib Go.Proofs Go.Shelf
set_option maxRecDepth 100000
end Go.Proofs.YtgkhgapkfnkagaaGreatDoor
namespace Go.Proofs.YtgkhgapkfnkagaaGreatDoor
open Go.Ab Go.RowKit Go.MapKept
attribute [local irreducible] ACalls AW ADraw fltB fnear
set_option maxRecDepth 100000
end Go.Proofs.YtgkhgapkfnkagaaGreatDoor
namespace Go.Proofs.YtgkhgapkfnkagaaGreatDoor
open Go Go.Ab Go.RowKit Go.Shelf
attribute [local go_sem] Oper.semAt_some
end Go.Proofs.YtgkhgapkfnkagaaGreatDoor
namespace Go.Proofs.YtgkhgapkfnkagaaGreatDoor
open Go Go.Ab Go.RowKit Go.Shelf
end Go.Proofs.YtgkhgapkfnkagaaGreatDoor
namespace Go.Proofs.YtgkhgapkfnkagaaGreatDoor
open Go.Ab Go.RowKit Go.MapKept
attribute [local irreducible] ACalls AW ADraw fltB fnear
set_option maxRecDepth 100000
structure Tx where
 sender:Int
 seq:Int
 key:ByteArray
 val:ByteArray
def Tx.cs (t:Tx):List DV:=[.int .i64 t.sender,.int .i64 t.seq,.str t.key,.str t.val]
def txsD (l:List Tx):List (List DV):=l.map Tx.cs
structure Msg where
 kind:Int
 src:Int
 dst:Int
 digest:Int
 ba:Int
 bn:Int
 txs:List Tx
 head:Cert
 cert:Cert
 digs:List Int
def Msg.cs (m:Msg):List DV:=[.int .i64 m.kind,.int .i64 m.src,.int .i64 m.dst,.int .i64 m.digest,.int .i64 m.ba,.int .i64 m.bn,.sl 4 (txsD m.txs),.int .i64 m.head.author,.int .i64 m.head.round,.sl 1 (nums m.head.bats),.sl 1 (nums m.head.pars),.int .i64 m.cert.author,.int .i64 m.cert.round,.sl 1 (nums m.cert.bats),.sl 1 (nums m.cert.pars),.int .i64 m.cert.digest,.sl 1 (nums m.cert.sigs),.sl 1 (nums m.digs)]
def Msg.av (m:Msg):AV := .agg (m.cs.map AV.d)
def cz0:Cert:=⟨0,0,[],[],0,[]⟩
end Go.Proofs.YtgkhgapkfnkagaaGreatDoor
namespace Go.Proofs.YtgkhgapkfnkagaaGreatDoor
open Go.Ab Go.RowKit
end Go.Proofs.YtgkhgapkfnkagaaGreatDoor
set_option linter.unusedVariables false
set_option linter.unusedSimpArgs false
namespace Go.Proofs.YtgkhgapkfnkagaaGreatDoor
open Go.Ab Go.RowKit
end Go.Proofs.YtgkhgapkfnkagaaGreatDoor
namespace Go.Proofs.YtgkhgapkfnkagaaGreatDoor
open Go.Ab Go.RowKit Go.MapKept
attribute [local irreducible] ACalls AW ADraw fltB fnear
set_option maxRecDepth 100000
end Go.Proofs.YtgkhgapkfnkagaaGreatDoor
namespace Go.Proofs.YtgkhgapkfnkagaaGreatDoor
open Go.Ab Go.RowKit
end Go.Proofs.YtgkhgapkfnkagaaGreatDoor
namespace Go.Proofs.YtgkhgapkfnkagaaGreatDoor
open Go.Ab Go.RowKit Go.MapKept
attribute [local irreducible] ACalls AW ADraw fltB fnear
set_option maxRecDepth 100000
theorem headW_ok (c:Cert) (h:c.ok):ACalls Tryz.prog 30 [c.hav] [] (fun av L=>av = .d (.int .i64 (1+c.bats.length+c.pars.length))∧L=[]):=by
 have h1:=h.bats.1
 have h2:=h.pars.1
 unfold few at h1 h2
 have e1:=nums_length c.bats
 have e2:=nums_length c.pars
 (refine acalls_go ttOk zOk foOk Tryz.func30 rfl Tryz.ntmps30 rfl false rfl ?_);(conv=>whnf)
 rw [e1]
 refine rdw ?_;repeat' ((with_reducible apply tw)<;>intro _)
 rw [e2]
 refine rdw ?_;repeat' ((with_reducible apply tw)<;>intro _)
 exact ⟨rfl,rfl⟩
theorem certW_ok (c:Cert) (h:c.ok):ACalls Tryz.prog 31 [c.av] [] (fun av L=>av = .d (.int .i64 (1+c.bats.length+c.pars.length+c.sigs.length))∧L=[]):=by
 have h1:=h.bats.1
 have h2:=h.pars.1
 have h3:=h.sigs.1
 unfold few at h1 h2 h3
 have e3:=nums_length c.sigs
 (refine acalls_go ttOk zOk foOk Tryz.func31 rfl Tryz.ntmps31 rfl false rfl ?_);(conv=>whnf)
 ((with_reducible refine draw_pl ttOk zOk foOk mixedOk pl31x1 ?_ ?_);(focus kernel_rfl);(conv=>whnf))
 refine rdw ?_;repeat' ((with_reducible apply tw)<;>intro _)
 refine (headW_ok c h).mono ?_
 rintro _ _ ⟨rfl,rfl⟩
 conv=>whnf
 refine rdw ?_;repeat' ((with_reducible apply tw)<;>intro _)
 rw [e3]
 refine rdw ?_;repeat' ((with_reducible apply tw)<;>intro _)
 exact ⟨rfl,rfl⟩
def Cert.light (c:Cert):Prop:=c.bats.length≤3000∧c.pars.length≤3000∧c.sigs.length≤3000
theorem headSame_ok (a:Cert):ACalls Tryz.prog 100 [a.hav,a.hav] [] (fun av L=>av = .d (.bool true)∧L=[]):=by
 (refine acalls_go ttOk zOk foOk Tryz.func100 rfl Tryz.ntmps100 rfl false rfl ?_);(conv=>whnf)
 refine rdz ?_;repeat' ((with_reducible apply tw)<;>intro _)
 ·exact ⟨by simp,rfl⟩
 all_goals (rename_i e;exact absurd rfl e)
end Go.Proofs.YtgkhgapkfnkagaaGreatDoor
namespace Go.Proofs.YtgkhgapkfnkagaaGreatDoor
open Go Go.Ab Go.RowKit Go.Lib Go.Proofs Go.Shelf
set_option maxRecDepth 100000
end Go.Proofs.YtgkhgapkfnkagaaGreatDoor
namespace Go.Proofs.YtgkhgapkfnkagaaGreatDoor
open Go.Ab Go.RowKit Go.MapKept
attribute [local irreducible] ACalls AW ADraw fltB fnear
set_option maxRecDepth 100000
def Tx.av (t:Tx):AV := .agg (t.cs.map AV.d)
theorem txsD_len (l:List Tx):(txsD l).length=l.length:=List.length_map ..
theorem txsD_at {l:List Tx} {k:Nat} {c:Tx} (h:l[k]? = some c):(txsD l)[k]? = some c.cs:=by simp [txsD,h]
structure okTx (t:Tx):Prop where
 sender:1≤t.sender∧t.sender≤1099511627776
 seq:1≤t.seq∧t.seq≤1099511627776
 key:1≤t.key.size∧t.key.size≤16
 val:t.val.size≤32
theorem noKey (k:ByteArray):(k.toList == (⟨#[]⟩:ByteArray).toList)=false↔1≤k.size:=by
 rw [ByteArray.toList_eq,ByteArray.toList_eq]
 constructor
 ·intro h
  rcases Nat.eq_zero_or_pos k.size with h0|h0
  ·have:k.data.toList=[]:=List.eq_nil_of_length_eq_zero (by simpa using h0)
   rw [this] at h
   simp at h
  ·exact h0
 ·intro h
  have:k.data.toList≠[]:=fun e=>by
   have:=congrArg List.length e
   simp at this
   simp [this] at h
  cases hk:k.data.toList with
  | nil=>exact absurd hk this
  | cons a t=>rfl
open Classical in
theorem mayTx_ok (t:Tx):ACalls Tryz.prog 54 [t.av] [] (fun av L=>av = .d (.bool (decide (okTx t)))∧L=[]):=by
 (refine acalls_go ttOk zOk foOk Tryz.func54 rfl Tryz.ntmps54 rfl false rfl ?_);(conv=>whnf)
 refine rdw ?_;repeat' ((with_reducible apply tw)<;>intro _)
 ·rename_i h1 h2 h3 h4 h5 h6
  rw [noKey] at h5
  exact ⟨boolEq (by simp only [decide_eq_true_iff];exact ⟨fun h=>⟨by omega,by omega,by omega,by omega⟩,fun h=>by have:=h.val;omega⟩),rfl⟩
 ·rename_i h1 h2 h3 h4 h5 h6
  exact ⟨by rw [decide_eq_false (fun h:okTx t=>by have:=h.key;omega)];rfl,rfl⟩
 ·rename_i h1 h2 h3 h4 h5
  exact ⟨by rw [decide_eq_false (fun h:okTx t=>by rw [(noKey t.key).2 h.key.1] at h5;cases h5)];rfl,rfl⟩
 all_goals exact ⟨by rw [decide_eq_false (fun h:okTx t=>by have:=h.sender;have:=h.seq;omega)];rfl,rfl⟩
open Classical in
theorem batMay1_ok (t:Tx):ACalls Tryz.prog 234 [t.av] [] (fun av L=>av = .d (.bool (decide (¬okTx t)))∧L=[]):=by
 (refine acalls_go ttOk zOk foOk Tryz.func234 rfl Tryz.ntmps234 rfl false rfl ?_);(conv=>whnf)
 refine rdw ?_;repeat' ((with_reducible apply tw)<;>intro _)
 refine (mayTx_ok t).mono ?_
 rintro _ _ ⟨rfl,rfl⟩
 conv=>whnf
 exact ⟨boolEq (by simp),rfl⟩
open Classical in
theorem indexTx_ok (l:List Tx) (hl:few l):ACalls Tryz.prog 143 [.d (.sl 4 (txsD l)),.fn 234 []] [] (fun av L=>(∃ z:Int,av = .d (.int .i64 z)∧(0≤z↔¬∀ t∈l,okTx t))∧L=[]):=by
 have hcl:=txsD_len l
 unfold few at hl
 (refine acalls_go ttOk zOk foOk Tryz.func143 rfl Tryz.ntmps143 rfl false rfl ?_);(conv=>whnf)
 refine loop_go ttOk zOk foOk (σ:=Nat) (fun j=>([(0,.d (.sl 4 (txsD l))),(1,.fn 234 []),(7,.d (.int .i64 l.length)),(8,.d (.int .i64 j))],[])) (fun j=>j≤l.length∧∀ t∈l.take j,okTx t) (fun j=>l.length - j) [0,1,7,8] ?_ ?_
 ·conv=>whnf
  exact ⟨0,by rw [hcl];rfl,rfl,Nat.zero_le _,by simp⟩
 ·rintro j ⟨hj,ho⟩
  conv=>whnf
  refine rdw ?_;repeat' ((with_reducible apply tw)<;>intro _)
  ·rename_i hjl
   refine Exists.elim (⟨_,List.getElem?_eq_getElem (by omega)⟩:∃ c,l[j]? = some c) fun t ht => ?_
   refine ⟨by omega,t.cs,txsD_at ht,?_⟩
   conv=>whnf
   refine (batMay1_ok t).mono ?_
   rintro _ _ ⟨rfl,rfl⟩
   by_cases h:okTx t
   ·rw [decide_eq_false (fun hh=>hh h)]
    conv=>whnf
    refine rdw ?_;repeat' ((with_reducible apply tw)<;>intro _)
    refine ⟨j+1,rfl,rfl,⟨by omega,fun x hx => ?_⟩,by omega⟩
    rw [List.take_add_one,ht] at hx
    rcases List.mem_append.1 hx with hx|hx
    ·exact ho x hx
    ·simp at hx;subst hx;exact h
   ·rw [decide_eq_true h]
    conv=>whnf
    refine rdw ?_;repeat' ((with_reducible apply tw)<;>intro _)
    exact ⟨⟨j,rfl,by constructor;(intro _ hh;exact h (hh t (List.mem_of_getElem? ht)));(intro _;omega)⟩,rfl⟩
  ·rename_i hjl
   rw [List.take_of_length_le (by omega)] at ho
   exact ⟨⟨-1,rfl,by constructor;(intro h;omega);(intro h;exact absurd ho h)⟩,rfl⟩
open Classical in
theorem containsTx_ok (l:List Tx) (hl:few l):ACalls Tryz.prog 67 [.d (.sl 4 (txsD l)),.fn 234 []] [] (fun av L=>av = .d (.bool (decide (¬∀ t∈l,okTx t)))∧L=[]):=by
 (refine acalls_go ttOk zOk foOk Tryz.func67 rfl Tryz.ntmps67 rfl false rfl ?_);(conv=>whnf)
 refine rdw ?_;repeat' ((with_reducible apply tw)<;>intro _)
 refine (indexTx_ok l hl).mono ?_
 rintro _ _ ⟨⟨z,rfl,hz⟩,rfl⟩
 conv=>whnf
 exact ⟨boolEq (by simp only [decide_eq_true_iff];exact hz),rfl⟩
structure okBatch (m:Msg):Prop where
 author:1≤m.ba∧m.ba≤16
 n:1≤m.bn∧m.bn≤1099511627776
 len:1≤m.txs.length∧m.txs.length≤8
 txs:∀ t∈m.txs,okTx t
def Msg.bav (m:Msg):AV := .agg [.d (.int .i64 m.ba),.d (.int .i64 m.bn),.d (.sl 4 (txsD m.txs))]
open Classical in
theorem batchMay_ok (m:Msg) (hl:few m.txs):ACalls Tryz.prog 146 [m.bav] [] (fun av L=>av = .d (.bool (decide (okBatch m)))∧L=[]):=by
 have hcl:=txsD_len m.txs
 (refine acalls_go ttOk zOk foOk Tryz.func146 rfl Tryz.ntmps146 rfl false rfl ?_);(conv=>whnf)
 refine rdw ?_;repeat' ((with_reducible apply tw)<;>intro _)
 all_goals first
  | exact ⟨by rw [decide_eq_false (fun h:okBatch m=>by have:=h.author;have:=h.n;have:=h.len;omega)];rfl,rfl⟩
  | skip
 (refine (containsTx_ok m.txs hl).mono ?_;rintro _ _ ⟨rfl,rfl⟩;(conv=>whnf))
 exact ⟨boolEq (by simp only [Bool.not_eq_true',decide_eq_false_iff_not,decide_eq_true_iff,Classical.not_not];exact ⟨fun h=>⟨by omega,by omega,by omega,h⟩,fun h=>h.txs⟩),rfl⟩
structure okKind (n:Int) (m:Msg):Prop where
 kind:1≤m.kind∧m.kind≤8
 dig:m.kind≤5→1≤m.digest∧m.digest≤65536
 bat:m.kind=1∨m.kind=3→okBatch m∧m.ba≤n
 head:m.kind=4→okHead n m.head∧m.head.author=m.src
 cert:m.kind=6→okCert n m.cert
 digs:7≤m.kind→(1≤m.digs.length∧m.digs.length≤16)∧riseB m.digs 1 65536
structure onlyKind (m:Msg):Prop where
 dig:6≤m.kind→m.digest=0
 bat:m.kind≠1∧m.kind≠3→m.ba=0∧m.bn=0∧m.txs=[]
 head:m.kind≠4→m.head.author=0∧m.head.round=0∧m.head.bats=[]∧m.head.pars=[]
 cert:m.kind≠6→m.cert.author=0∧m.cert.round=0∧m.cert.bats=[]∧m.cert.pars=[]∧m.cert.digest=0∧m.cert.sigs=[]
 digs:m.kind≤6→m.digs=[]
structure okMsg (n:Int) (m:Msg):Prop where
 isn:isN n=true
 src:1≤m.src∧m.src≤n
 dst:1≤m.dst∧m.dst≤n
 ne:m.src≠m.dst
 ok:okKind n m
 only:onlyKind m
structure Msg.fine (m:Msg):Prop where
 txs:few m.txs
 head:fewL m.head
 cert:fewL m.cert
 digs:few m.digs
def bavN (b:Bool) (m:Msg):List AV:=if b then [.d (.int .i64 m.ba),.d (.int .i64 m.bn),.d (.sl 4 (txsD m.txs))] else [.d (.int .i64 0),.d (.int .i64 0),.d .nils]
def havN (b:Bool) (c:Cert):List AV:=if b then [.d (.int .i64 c.author),.d (.int .i64 c.round),.d (.sl 1 (nums c.bats)),.d (.sl 1 (nums c.pars))] else [.d (.int .i64 0),.d (.int .i64 0),.d .nils,.d .nils]
def cavN (b:Bool) (c:Cert):List AV:=if b then [.d (.int .i64 c.author),.d (.int .i64 c.round),.d (.sl 1 (nums c.bats)),.d (.sl 1 (nums c.pars)),.d (.int .i64 c.digest),.d (.sl 1 (nums c.sigs))] else [.d (.int .i64 0),.d (.int .i64 0),.d .nils,.d .nils,.d (.int .i64 0),.d .nils]
def davN (b:Bool) (l:List Int):AV:=if b then .d (.sl 1 (nums l)) else .d .nils
def onlyAV (m:Msg) (g b h c d:Bool):AV := .agg ([.d (.int .i64 m.kind),.d (.int .i64 m.src),.d (.int .i64 m.dst),.d (.int .i64 (if g then m.digest else 0))]++bavN b m++havN h m.head++cavN c m.cert++[davN d m.digs])
def flagsOk (g b h c d:Bool):Prop:=(g=true∧b=true∧h=false∧c=false∧d=false)∨(g=true∧b=false∧h=false∧c=false∧d=false)∨(g=true∧b=false∧h=true∧c=false∧d=false)∨(g=false∧b=false∧h=false∧c=true∧d=false)∨(g=false∧b=false∧h=false∧c=false∧d=true)∨(g=false∧b=false∧h=false∧c=false∧d=false)
open Classical in
theorem only_fin {n:Int} {m:Msg} {X Y:AV} (g b h c d:Bool) (B:Bool) (hX:X=onlyAV m g b h c d) (hY:Y = .d (.bool B)) (hB:B=true↔okKind n m)
  (hk:okKind n m→g=decide (m.kind≤5)∧b=decide (m.kind=1∨m.kind=3)∧h=decide (m.kind=4)∧c=decide (m.kind=6)∧d=decide (7≤m.kind)) (hfl:flagsOk g b h c d:=by simp [flagsOk]) :
  (∃ g b h c d,AV.tup [X,Y] = .tup [onlyAV m g b h c d,.d (.bool (decide (okKind n m)))]∧flagsOk g b h c d∧(okKind n m→g=decide (m.kind≤5)∧b=decide (m.kind=1∨m.kind=3)∧h=decide (m.kind=4)∧c=decide (m.kind=6)∧d=decide (7≤m.kind)))∧([]:List AB)=[]:=by
 refine ⟨⟨g,b,h,c,d,?_,hfl,hk⟩,rfl⟩
 have:B=decide (okKind n m):=by rw [Bool.eq_iff_iff,decide_eq_true_iff];exact hB
 rw [hX,hY,this]
set_option maxHeartbeats 4000000 in
open Classical in
theorem only_ok (m:Msg) (hf:m.fine) (n:Int):ACalls Tryz.prog 99 [m.av,.d (.int .i64 n)] [] (fun av L=>(∃ g b h c d,av = .tup [onlyAV m g b h c d,.d (.bool (decide (okKind n m)))]∧flagsOk g b h c d∧(okKind n m→g=decide (m.kind≤5)∧b=decide (m.kind=1∨m.kind=3)∧h=decide (m.kind=4)∧c=decide (m.kind=6)∧d=decide (7≤m.kind)))∧L=[]):=by
 have hdl:=nums_length m.digs
 (refine acalls_go ttOk zOk foOk Tryz.func99 rfl Tryz.ntmps99 rfl false rfl ?_);(conv=>whnf)
 refine rdw ?_;repeat' ((with_reducible apply tw)<;>intro _)
 · · rename_i hk
     ((with_reducible refine draw_pl ttOk zOk foOk mixedOk pl99x5 ?_ ?_);(focus kernel_rfl);(conv=>whnf))
     refine rdw ?_;repeat' ((with_reducible apply tw)<;>intro _)
     (refine (digest_ok m.digest).mono ?_;rintro _ _ ⟨rfl,rfl⟩;(conv=>whnf))
     refine rdw ?_;repeat' ((with_reducible apply tw)<;>intro _)
     ·rename_i h1
      (refine (batchMay_ok m hf.txs).mono ?_;rintro _ _ ⟨rfl,rfl⟩;(conv=>whnf))
      refine rdw ?_;repeat' ((with_reducible apply tw)<;>intro _)
      ·rename_i h2
       refine only_fin true true false false false _ rfl rfl ?_ (fun _=>⟨by simp [hk],by simp [hk],by simp [hk],by simp [hk],by simp [hk]⟩)
       simp only [decide_eq_true_iff]
       exact ⟨fun h=>⟨by omega,fun _=>h1,fun _=>⟨h2,h⟩,by omega,by omega,by omega⟩,fun h=>(h.bat (by omega)).2⟩
      ·rename_i h2
       refine only_fin true true false false false _ rfl rfl ?_ (fun h=>absurd (h.bat (by omega)).1 h2)
       exact ⟨fun h=>(by cases h),fun h=>absurd (h.bat (by omega)).1 h2⟩
     ·rename_i h1
      refine only_fin true true false false false _ rfl rfl ?_ (fun h=>absurd (h.dig (by omega)) h1)
      exact ⟨fun h=>(by cases h),fun h=>absurd (h.dig (by omega)) h1⟩
 · · rename_i hk
     ((with_reducible refine draw_pl ttOk zOk foOk mixedOk pl99x5 ?_ ?_);(focus kernel_rfl);(conv=>whnf))
     refine rdw ?_;repeat' ((with_reducible apply tw)<;>intro _)
     (refine (digest_ok m.digest).mono ?_;rintro _ _ ⟨rfl,rfl⟩;(conv=>whnf))
     refine rdw ?_;repeat' ((with_reducible apply tw)<;>intro _)
     ·rename_i h1
      (refine (batchMay_ok m hf.txs).mono ?_;rintro _ _ ⟨rfl,rfl⟩;(conv=>whnf))
      refine rdw ?_;repeat' ((with_reducible apply tw)<;>intro _)
      ·rename_i h2
       refine only_fin true true false false false _ rfl rfl ?_ (fun _=>⟨by simp [hk],by simp [hk],by simp [hk],by simp [hk],by simp [hk]⟩)
       simp only [decide_eq_true_iff]
       exact ⟨fun h=>⟨by omega,fun _=>h1,fun _=>⟨h2,h⟩,by omega,by omega,by omega⟩,fun h=>(h.bat (by omega)).2⟩
      ·rename_i h2
       refine only_fin true true false false false _ rfl rfl ?_ (fun h=>absurd (h.bat (by omega)).1 h2)
       exact ⟨fun h=>(by cases h),fun h=>absurd (h.bat (by omega)).1 h2⟩
     ·rename_i h1
      refine only_fin true true false false false _ rfl rfl ?_ (fun h=>absurd (h.dig (by omega)) h1)
      exact ⟨fun h=>(by cases h),fun h=>absurd (h.dig (by omega)) h1⟩
 · · rename_i hk
     (refine (digest_ok m.digest).mono ?_;rintro _ _ ⟨rfl,rfl⟩;(conv=>whnf))
     refine rdw ?_;repeat' ((with_reducible apply tw)<;>intro _)
     refine only_fin true false false false false _ rfl rfl ?_ (fun _=>⟨by simp [hk],by simp [hk],by simp [hk],by simp [hk],by simp [hk]⟩)
     simp only [decide_eq_true_iff]
     exact ⟨fun h=>⟨by omega,fun _=>h,by omega,by omega,by omega,by omega⟩,fun h=>h.dig (by omega)⟩
 · · rename_i hk
     (refine (digest_ok m.digest).mono ?_;rintro _ _ ⟨rfl,rfl⟩;(conv=>whnf))
     refine rdw ?_;repeat' ((with_reducible apply tw)<;>intro _)
     refine only_fin true false false false false _ rfl rfl ?_ (fun _=>⟨by simp [hk],by simp [hk],by simp [hk],by simp [hk],by simp [hk]⟩)
     simp only [decide_eq_true_iff]
     exact ⟨fun h=>⟨by omega,fun _=>h,by omega,by omega,by omega,by omega⟩,fun h=>h.dig (by omega)⟩
 ·rename_i hk
  ((with_reducible refine draw_pl ttOk zOk foOk mixedOk pl99x12 ?_ ?_);(focus kernel_rfl);(conv=>whnf))
  refine rdw ?_;repeat' ((with_reducible apply tw)<;>intro _)
  (refine (digest_ok m.digest).mono ?_;rintro _ _ ⟨rfl,rfl⟩;(conv=>whnf))
  refine rdw ?_;repeat' ((with_reducible apply tw)<;>intro _)
  ·rename_i h1
   (refine (hMay_ok m.head hf.head n).mono ?_;rintro _ _ ⟨rfl,rfl⟩;(conv=>whnf))
   refine rdw ?_;repeat' ((with_reducible apply tw)<;>intro _)
   ·rename_i h2
    refine only_fin true false true false false _ rfl rfl ?_ (fun _=>⟨by simp [hk],by simp [hk],by simp [hk],by simp [hk],by simp [hk]⟩)
    simp only [beq_iff_eq]
    exact ⟨fun h=>⟨by omega,fun _=>h1,by omega,fun _=>⟨h2,h⟩,by omega,by omega⟩,fun h=>(h.head hk).2⟩
   ·rename_i h2
    have hno:¬okKind n m:=fun h=>h2 (h.head hk).1
    exact only_fin true false true false false _ rfl rfl ⟨fun h=>(by cases h),fun h=>absurd h hno⟩ (fun h=>absurd h hno)
  ·rename_i h1
   have hno:¬okKind n m:=fun h=>h1 (h.dig (by omega))
   exact only_fin true false true false false _ rfl rfl ⟨fun h=>(by cases h),fun h=>absurd h hno⟩ (fun h=>absurd h hno)
 ·rename_i hk
  (refine (mayCert_ok m.cert hf.cert n).mono ?_;rintro _ _ ⟨rfl,rfl⟩;(conv=>whnf))
  refine only_fin false false false true false _ rfl rfl ?_ (fun _=>⟨by simp [hk],by simp [hk],by simp [hk],by simp [hk],by simp [hk]⟩)
  simp only [decide_eq_true_iff]
  exact ⟨fun h=>⟨by omega,by omega,by omega,by omega,fun _=>h,by omega⟩,fun h=>h.cert hk⟩
 ·rename_i hk h1 h2
  replace h1:((nums m.digs).length:Int)≥1:=h1
  replace h2:((nums m.digs).length:Int)≤16:=h2
  (refine (digests_ok m.digs hf.digs).mono ?_;rintro _ _ ⟨rfl,rfl⟩;(conv=>whnf))
  refine only_fin false false false false true _ rfl rfl ?_ (fun _=>⟨by simp [hk],by simp [hk],by simp [hk],by simp [hk],by simp [hk]⟩)
  simp only [decide_eq_true_iff]
  exact ⟨fun h=>⟨by omega,by omega,by omega,by omega,by omega,fun _=>⟨by omega,h⟩⟩,fun h=>(h.digs (by omega)).2⟩
 ·rename_i hk h1 h2
  replace h2:¬((nums m.digs).length:Int)≤16:=h2
  have hno:¬okKind n m:=fun h=>by have:=(h.digs (by omega)).1;omega
  exact only_fin false false false false true _ rfl rfl ⟨fun h=>(by cases h),fun h=>absurd h hno⟩ (fun h=>absurd h hno)
 ·rename_i hk h1
  replace h1:¬((nums m.digs).length:Int)≥1:=h1
  have hno:¬okKind n m:=fun h=>by have:=(h.digs (by omega)).1;omega
  exact only_fin false false false false true _ rfl rfl ⟨fun h=>(by cases h),fun h=>absurd h hno⟩ (fun h=>absurd h hno)
 ·rename_i hk h1 h2
  replace h1:((nums m.digs).length:Int)≥1:=h1
  replace h2:((nums m.digs).length:Int)≤16:=h2
  (refine (digests_ok m.digs hf.digs).mono ?_;rintro _ _ ⟨rfl,rfl⟩;(conv=>whnf))
  refine only_fin false false false false true _ rfl rfl ?_ (fun _=>⟨by simp [hk],by simp [hk],by simp [hk],by simp [hk],by simp [hk]⟩)
  simp only [decide_eq_true_iff]
  exact ⟨fun h=>⟨by omega,by omega,by omega,by omega,by omega,fun _=>⟨by omega,h⟩⟩,fun h=>(h.digs (by omega)).2⟩
 ·rename_i hk h1 h2
  replace h2:¬((nums m.digs).length:Int)≤16:=h2
  have hno:¬okKind n m:=fun h=>by have:=(h.digs (by omega)).1;omega
  exact only_fin false false false false true _ rfl rfl ⟨fun h=>(by cases h),fun h=>absurd h hno⟩ (fun h=>absurd h hno)
 ·rename_i hk h1
  replace h1:¬((nums m.digs).length:Int)≥1:=h1
  have hno:¬okKind n m:=fun h=>by have:=(h.digs (by omega)).1;omega
  exact only_fin false false false false true _ rfl rfl ⟨fun h=>(by cases h),fun h=>absurd h hno⟩ (fun h=>absurd h hno)
 ·have hno:¬okKind n m:=fun h=>by have:=h.kind;omega
  exact only_fin false false false false false _ rfl rfl ⟨fun h=>(by cases h),fun h=>absurd h hno⟩ (fun h=>absurd h hno)
open Classical in
theorem head_cmp (a:Cert):ACalls Tryz.prog 100 [a.hav,.agg (havN false a)] [] (fun av L=>av = .d (.bool (decide (a.author=0∧a.round=0∧a.bats.length=0∧a.pars.length=0)))∧L=[]):=by
 have l2:=nums_length a.bats
 have l3:=nums_length a.pars
 (refine acalls_go ttOk zOk foOk Tryz.func100 rfl Tryz.ntmps100 rfl false rfl ?_);(conv=>whnf)
 refine rdw ?_;repeat' ((with_reducible apply tw)<;>intro _)
 ·rename_i h1 h2 h3
  replace h3:((nums a.bats).length:Int)=0:=h3
  refine ⟨boolEq ?_,rfl⟩
  simp only [beq_iff_eq,decide_eq_true_iff]
  exact ⟨fun h=>by have h:((nums a.pars).length:Int)=0:=h;exact ⟨h1,h2,by omega,by omega⟩,fun h=>by show ((nums a.pars).length:Int)=0;omega⟩
 ·rename_i h1 h2 h3
  replace h3:¬((nums a.bats).length:Int)=0:=h3
  exact ⟨by rw [decide_eq_false (fun h=>by omega)];rfl,rfl⟩
 ·rename_i h1 h2
  exact ⟨by rw [decide_eq_false (fun h=>h2 h.2.1)];rfl,rfl⟩
 ·rename_i h1
  exact ⟨by rw [decide_eq_false (fun h=>h1 h.1)];rfl,rfl⟩
theorem okMsg_iff {n:Int} {m:Msg} {g b h c d:Bool} (hn:isN n=true) (h1:1≤m.src∧m.src≤n) (h2:1≤m.dst∧m.dst≤n) (h3:m.src≠m.dst) (hok:okKind n m)
  (hk:g=decide (m.kind≤5)∧b=decide (m.kind=1∨m.kind=3)∧h=decide (m.kind=4)∧c=decide (m.kind=6)∧d=decide (7≤m.kind)) :
  okMsg n m↔(g=true∨m.digest=0)∧(b=true∨m.ba=0∧m.bn=0∧m.txs.length=0)∧(h=true∨m.head.author=0∧m.head.round=0∧m.head.bats.length=0∧m.head.pars.length=0)∧(c=true∨(m.cert.author=0∧m.cert.round=0∧m.cert.bats.length=0∧m.cert.pars.length=0)∧m.cert.digest=0∧m.cert.sigs.length=0)∧(d=true∨m.digs.length=0):=by
 obtain ⟨rfl,rfl,rfl,rfl,rfl⟩:=hk
 simp only [decide_eq_true_iff]
 constructor
 ·intro hh
  have o:=hh.only
  refine ⟨?_,?_,?_,?_,?_⟩
  ·rcases Int.lt_or_le m.kind 6 with h|h
   ·left;omega
   ·right;exact o.dig h
  ·by_cases h:m.kind=1∨m.kind=3
   ·left;exact h
   ·right
    obtain ⟨a1,a2,a3⟩:=o.bat ⟨fun e=>h (.inl e),fun e=>h (.inr e)⟩
    exact ⟨a1,a2,by rw [a3];rfl⟩
  ·by_cases h:m.kind=4
   ·left;exact h
   ·right
    obtain ⟨a1,a2,a3,a4⟩:=o.head h
    exact ⟨a1,a2,by rw [a3];rfl,by rw [a4];rfl⟩
  ·by_cases h:m.kind=6
   ·left;exact h
   ·right
    obtain ⟨a1,a2,a3,a4,a5,a6⟩:=o.cert h
    exact ⟨⟨a1,a2,by rw [a3];rfl,by rw [a4];rfl⟩,a5,by rw [a6];rfl⟩
  ·rcases Int.lt_or_le m.kind 7 with h|h
   ·right;rw [o.digs (by omega)];rfl
   ·left;exact h
 ·rintro ⟨a1,a2,a3,a4,a5⟩
  refine ⟨hn,h1,h2,h3,hok,⟨fun h => ?_,fun h => ?_,fun h => ?_,fun h => ?_,fun h => ?_⟩⟩
  ·rcases a1 with a1|a1
   ·omega
   ·exact a1
  ·rcases a2 with a2|a2
   ·omega
   ·exact ⟨a2.1,a2.2.1,List.eq_nil_of_length_eq_zero a2.2.2⟩
  ·rcases a3 with a3|a3
   ·omega
   ·exact ⟨a3.1,a3.2.1,List.eq_nil_of_length_eq_zero a3.2.2.1,List.eq_nil_of_length_eq_zero a3.2.2.2⟩
  ·rcases a4 with a4|a4
   ·omega
   ·exact ⟨a4.1.1,a4.1.2.1,List.eq_nil_of_length_eq_zero a4.1.2.2.1,List.eq_nil_of_length_eq_zero a4.1.2.2.2,a4.2.1,List.eq_nil_of_length_eq_zero a4.2.2⟩
  ·rcases a5 with a5|a5
   ·omega
   ·exact List.eq_nil_of_length_eq_zero a5
set_option maxHeartbeats 8000000 in
open Classical in
theorem msgMay_full (m:Msg) (hf:m.fine) (n:Int):ACalls Tryz.prog 41 [m.av,.d (.int .i64 n)] [] (fun av L=>av = .d (.bool (decide (okMsg n m)))∧L=[]):=by
 have hi:=is_ok n
 have ho:=only_ok m hf n
 have l1:=txsD_len m.txs
 have l2:=nums_length m.head.bats
 have l3:=nums_length m.head.pars
 have l4:=nums_length m.cert.bats
 have l5:=nums_length m.cert.pars
 have l6:=nums_length m.cert.sigs
 have l7:=nums_length m.digs
 (refine acalls_go ttOk zOk foOk Tryz.func41 rfl Tryz.ntmps41 rfl false rfl ?_);(conv=>whnf)
 refine rdw ?_;repeat' ((with_reducible apply tw)<;>intro _)
 refine hi.mono ?_
 rintro _ _ ⟨rfl,rfl⟩
 cases hn:isN n with
 | false =>
   conv=>whnf
   refine rdw ?_;repeat' ((with_reducible apply tw)<;>intro _)
   exact ⟨by rw [decide_eq_false (fun h:okMsg n m=>by have:=h.isn;rw [hn] at this;cases this)];rfl,rfl⟩
 | true =>
   conv=>whnf
   refine rdw ?_;repeat' ((with_reducible apply tw)<;>intro _)
   all_goals first
    | exact ⟨by rw [decide_eq_false (fun h:okMsg n m=>by have:=h.src;have:=h.dst;have:=h.ne;omega)];rfl,rfl⟩
    | skip
   refine ho.mono ?_
   rintro _ _ ⟨⟨g,b,h,c,d,rfl,hfl,hk⟩,rfl⟩
   by_cases hok:okKind n m
   ·have key:=okMsg_iff hn (show 1≤m.src∧m.src≤n by omega) (show 1≤m.dst∧m.dst≤n by omega) ‹m.src≠m.dst› hok (hk hok)
    clear hk
    rw [decide_eq_true hok]
    rcases hfl with ⟨rfl,rfl,rfl,rfl,rfl⟩|⟨rfl,rfl,rfl,rfl,rfl⟩|⟨rfl,rfl,rfl,rfl,rfl⟩|⟨rfl,rfl,rfl,rfl,rfl⟩|⟨rfl,rfl,rfl,rfl,rfl⟩|⟨rfl,rfl,rfl,rfl,rfl⟩
    ·simp only [Bool.false_eq_true,false_or,true_or,true_and,and_true] at key
     conv=>whnf
     repeat' (first|(first|((with_reducible first|apply rd_intro|apply gd_and);(focus ((conv=>whnf)<;>first|rfl|(intro K hK;(conv=>whnf);first|exact hK|exact z_wrap (by omega) hK)));conv=>whnf)|((with_reducible apply z_wrap);(focus omega);conv=>whnf)|((with_reducible first|apply mt_dec|apply mt_eq|apply mt_ne|apply mt_not|apply mt_any)<;>(intro _;conv=>whnf)))|(refine ACalls.mono (head_cmp m.head) ?_;rintro _ _ ⟨rfl,rfl⟩;(conv=>whnf))|(refine ACalls.mono (head_cmp m.cert) ?_;rintro _ _ ⟨rfl,rfl⟩;(conv=>whnf)))
     all_goals first
      | (rename_i e;exact absurd rfl e)
      | (rename_i e;replace e:m.digest≠0:=e;exact ⟨by rw [decide_eq_false (fun hh=>by have:=key.1 hh;omega)];rfl,rfl⟩)
      | exact ⟨by rw [decide_eq_false (fun hh=>by have:=key.1 hh;omega)];rfl,rfl⟩
      | (refine ⟨boolEq ?_,rfl⟩;rw [decide_eq_true_iff,key];simp only [beq_iff_eq];constructor<;>intro hh<;>omega)
      | (have hz:m.digest=0:=‹m.digest=if false=true then m.digest else 0›;refine ⟨boolEq ?_,rfl⟩;rw [decide_eq_true_iff,key];simp only [beq_iff_eq];constructor<;>intro hh<;>omega)
      | (have hz:m.digest=0:=‹m.digest=if false=true then m.digest else 0›;refine ⟨boolEq ?_,rfl⟩;rw [decide_eq_true_iff,key,beq_iff_eq];exact ⟨fun _=>by omega,fun _=>rfl⟩)
      | skip
    ·simp only [Bool.false_eq_true,false_or,true_or,true_and,and_true] at key
     conv=>whnf
     repeat' (first|(first|((with_reducible first|apply rd_intro|apply gd_and);(focus ((conv=>whnf)<;>first|rfl|(intro K hK;(conv=>whnf);first|exact hK|exact z_wrap (by omega) hK)));conv=>whnf)|((with_reducible apply z_wrap);(focus omega);conv=>whnf)|((with_reducible first|apply mt_dec|apply mt_eq|apply mt_ne|apply mt_not|apply mt_any)<;>(intro _;conv=>whnf)))|(refine ACalls.mono (head_cmp m.head) ?_;rintro _ _ ⟨rfl,rfl⟩;(conv=>whnf))|(refine ACalls.mono (head_cmp m.cert) ?_;rintro _ _ ⟨rfl,rfl⟩;(conv=>whnf)))
     all_goals first
      | (rename_i e;exact absurd rfl e)
      | (rename_i e;replace e:m.digest≠0:=e;exact ⟨by rw [decide_eq_false (fun hh=>by have:=key.1 hh;omega)];rfl,rfl⟩)
      | exact ⟨by rw [decide_eq_false (fun hh=>by have:=key.1 hh;omega)];rfl,rfl⟩
      | (refine ⟨boolEq ?_,rfl⟩;rw [decide_eq_true_iff,key];simp only [beq_iff_eq];constructor<;>intro hh<;>omega)
      | (have hz:m.digest=0:=‹m.digest=if false=true then m.digest else 0›;refine ⟨boolEq ?_,rfl⟩;rw [decide_eq_true_iff,key];simp only [beq_iff_eq];constructor<;>intro hh<;>omega)
      | (have hz:m.digest=0:=‹m.digest=if false=true then m.digest else 0›;refine ⟨boolEq ?_,rfl⟩;rw [decide_eq_true_iff,key,beq_iff_eq];exact ⟨fun _=>by omega,fun _=>rfl⟩)
      | skip
    ·simp only [Bool.false_eq_true,false_or,true_or,true_and,and_true] at key
     conv=>whnf
     repeat' (first|(first|((with_reducible first|apply rd_intro|apply gd_and);(focus ((conv=>whnf)<;>first|rfl|(intro K hK;(conv=>whnf);first|exact hK|exact z_wrap (by omega) hK)));conv=>whnf)|((with_reducible apply z_wrap);(focus omega);conv=>whnf)|((with_reducible first|apply mt_dec|apply mt_eq|apply mt_ne|apply mt_not|apply mt_any)<;>(intro _;conv=>whnf)))|(refine ACalls.mono (headSame_ok m.head) ?_;rintro _ _ ⟨rfl,rfl⟩;(conv=>whnf))|(refine ACalls.mono (head_cmp m.cert) ?_;rintro _ _ ⟨rfl,rfl⟩;(conv=>whnf)))
     all_goals first
      | (rename_i e;exact absurd rfl e)
      | (rename_i e;replace e:m.digest≠0:=e;exact ⟨by rw [decide_eq_false (fun hh=>by have:=key.1 hh;omega)];rfl,rfl⟩)
      | exact ⟨by rw [decide_eq_false (fun hh=>by have:=key.1 hh;omega)];rfl,rfl⟩
      | (refine ⟨boolEq ?_,rfl⟩;rw [decide_eq_true_iff,key];simp only [beq_iff_eq];constructor<;>intro hh<;>omega)
      | (have hz:m.digest=0:=‹m.digest=if false=true then m.digest else 0›;refine ⟨boolEq ?_,rfl⟩;rw [decide_eq_true_iff,key];simp only [beq_iff_eq];constructor<;>intro hh<;>omega)
      | (have hz:m.digest=0:=‹m.digest=if false=true then m.digest else 0›;refine ⟨boolEq ?_,rfl⟩;rw [decide_eq_true_iff,key,beq_iff_eq];exact ⟨fun _=>by omega,fun _=>rfl⟩)
      | skip
    ·simp only [Bool.false_eq_true,false_or,true_or,true_and,and_true] at key
     conv=>whnf
     repeat' (first|(first|((with_reducible first|apply rd_intro|apply gd_and);(focus ((conv=>whnf)<;>first|rfl|(intro K hK;(conv=>whnf);first|exact hK|exact z_wrap (by omega) hK)));conv=>whnf)|((with_reducible apply z_wrap);(focus omega);conv=>whnf)|((with_reducible first|apply mt_dec|apply mt_eq|apply mt_ne|apply mt_not|apply mt_any)<;>(intro _;conv=>whnf)))|(refine ACalls.mono (head_cmp m.head) ?_;rintro _ _ ⟨rfl,rfl⟩;(conv=>whnf))|(refine ACalls.mono (headSame_ok m.cert) ?_;rintro _ _ ⟨rfl,rfl⟩;(conv=>whnf)))
     all_goals first
      | (rename_i e;exact absurd rfl e)
      | (rename_i e;replace e:m.digest≠0:=e;exact ⟨by rw [decide_eq_false (fun hh=>by have:=key.1 hh;omega)];rfl,rfl⟩)
      | exact ⟨by rw [decide_eq_false (fun hh=>by have:=key.1 hh;omega)];rfl,rfl⟩
      | (refine ⟨boolEq ?_,rfl⟩;rw [decide_eq_true_iff,key];simp only [beq_iff_eq];constructor<;>intro hh<;>omega)
      | (have hz:m.digest=0:=‹m.digest=if false=true then m.digest else 0›;refine ⟨boolEq ?_,rfl⟩;rw [decide_eq_true_iff,key];simp only [beq_iff_eq];constructor<;>intro hh<;>omega)
      | (have hz:m.digest=0:=‹m.digest=if false=true then m.digest else 0›;refine ⟨boolEq ?_,rfl⟩;rw [decide_eq_true_iff,key,beq_iff_eq];exact ⟨fun _=>by omega,fun _=>rfl⟩)
      | skip
    ·simp only [Bool.false_eq_true,false_or,true_or,true_and,and_true] at key
     conv=>whnf
     repeat' (first|(first|((with_reducible first|apply rd_intro|apply gd_and);(focus ((conv=>whnf)<;>first|rfl|(intro K hK;(conv=>whnf);first|exact hK|exact z_wrap (by omega) hK)));conv=>whnf)|((with_reducible apply z_wrap);(focus omega);conv=>whnf)|((with_reducible first|apply mt_dec|apply mt_eq|apply mt_ne|apply mt_not|apply mt_any)<;>(intro _;conv=>whnf)))|(refine ACalls.mono (head_cmp m.head) ?_;rintro _ _ ⟨rfl,rfl⟩;(conv=>whnf))|(refine ACalls.mono (head_cmp m.cert) ?_;rintro _ _ ⟨rfl,rfl⟩;(conv=>whnf)))
     all_goals first
      | (rename_i e;exact absurd rfl e)
      | (rename_i e;replace e:m.digest≠0:=e;exact ⟨by rw [decide_eq_false (fun hh=>by have:=key.1 hh;omega)];rfl,rfl⟩)
      | exact ⟨by rw [decide_eq_false (fun hh=>by have:=key.1 hh;omega)];rfl,rfl⟩
      | (refine ⟨boolEq ?_,rfl⟩;rw [decide_eq_true_iff,key];simp only [beq_iff_eq];constructor<;>intro hh<;>omega)
      | (have hz:m.digest=0:=‹m.digest=if false=true then m.digest else 0›;refine ⟨boolEq ?_,rfl⟩;rw [decide_eq_true_iff,key];simp only [beq_iff_eq];constructor<;>intro hh<;>omega)
      | (have hz:m.digest=0:=‹m.digest=if false=true then m.digest else 0›;refine ⟨boolEq ?_,rfl⟩;rw [decide_eq_true_iff,key,beq_iff_eq];exact ⟨fun _=>by omega,fun _=>rfl⟩)
      | skip
    ·simp only [Bool.false_eq_true,false_or,true_or,true_and,and_true] at key
     conv=>whnf
     repeat' (first|(first|((with_reducible first|apply rd_intro|apply gd_and);(focus ((conv=>whnf)<;>first|rfl|(intro K hK;(conv=>whnf);first|exact hK|exact z_wrap (by omega) hK)));conv=>whnf)|((with_reducible apply z_wrap);(focus omega);conv=>whnf)|((with_reducible first|apply mt_dec|apply mt_eq|apply mt_ne|apply mt_not|apply mt_any)<;>(intro _;conv=>whnf)))|(refine ACalls.mono (head_cmp m.head) ?_;rintro _ _ ⟨rfl,rfl⟩;(conv=>whnf))|(refine ACalls.mono (head_cmp m.cert) ?_;rintro _ _ ⟨rfl,rfl⟩;(conv=>whnf)))
     all_goals first
      | (rename_i e;exact absurd rfl e)
      | (rename_i e;replace e:m.digest≠0:=e;exact ⟨by rw [decide_eq_false (fun hh=>by have:=key.1 hh;omega)];rfl,rfl⟩)
      | exact ⟨by rw [decide_eq_false (fun hh=>by have:=key.1 hh;omega)];rfl,rfl⟩
      | (refine ⟨boolEq ?_,rfl⟩;rw [decide_eq_true_iff,key];simp only [beq_iff_eq];constructor<;>intro hh<;>omega)
      | (have hz:m.digest=0:=‹m.digest=if false=true then m.digest else 0›;refine ⟨boolEq ?_,rfl⟩;rw [decide_eq_true_iff,key];simp only [beq_iff_eq];constructor<;>intro hh<;>omega)
      | (have hz:m.digest=0:=‹m.digest=if false=true then m.digest else 0›;refine ⟨boolEq ?_,rfl⟩;rw [decide_eq_true_iff,key,beq_iff_eq];exact ⟨fun _=>by omega,fun _=>rfl⟩)
      | skip
   ·rw [decide_eq_false hok]
    rcases hfl with ⟨rfl,rfl,rfl,rfl,rfl⟩|⟨rfl,rfl,rfl,rfl,rfl⟩|⟨rfl,rfl,rfl,rfl,rfl⟩|⟨rfl,rfl,rfl,rfl,rfl⟩|⟨rfl,rfl,rfl,rfl,rfl⟩|⟨rfl,rfl,rfl,rfl,rfl⟩
    all_goals
     conv=>whnf
     refine rdw ?_;repeat' ((with_reducible apply tw)<;>intro _)
     exact ⟨by rw [decide_eq_false (fun h:okMsg n m=>hok h.ok)];rfl,rfl⟩
end Go.Proofs.YtgkhgapkfnkagaaGreatDoor
namespace Go.Proofs.YtgkhgapkfnkagaaGreatDoor
open Go Go.Ab Go.RowKit Go.Lib Go.Proofs Go.Shelf
set_option maxRecDepth 100000
end Go.Proofs.YtgkhgapkfnkagaaGreatDoor
namespace Go.Proofs.YtgkhgapkfnkagaaGreatDoor
open Go.Ab Go.RowKit Go.MapKept
attribute [local irreducible] ACalls AW ADraw fltB fnear
set_option maxRecDepth 100000
end Go.Proofs.YtgkhgapkfnkagaaGreatDoor
namespace Go.Proofs.YtgkhgapkfnkagaaGreatDoor
open Go Go.Ab Go.RowKit Go.Shelf
attribute [local go_sem] Oper.semAt_some
end Go.Proofs.YtgkhgapkfnkagaaGreatDoor
namespace Go.Proofs.YtgkhgapkfnkagaaGreatDoor
open Go.Ab Go.RowKit Go.MapKept
attribute [local irreducible] ACalls AW ADraw fltB fnear
set_option maxRecDepth 100000
end Go.Proofs.YtgkhgapkfnkagaaGreatDoor
namespace Go.Proofs.YtgkhgapkfnkagaaGreatDoor
open Go.Ab Go.RowKit Go.MapKept
attribute [local irreducible] ACalls AW ADraw fltB fnear
set_option maxRecDepth 100000
end Go.Proofs.YtgkhgapkfnkagaaGreatDoor
namespace Go.Proofs.YtgkhgapkfnkagaaGreatDoor
open Go.Ab Go.RowKit Go.MapKept
attribute [local irreducible] ACalls AW ADraw fltB fnear
set_option maxRecDepth 100000
end Go.Proofs.YtgkhgapkfnkagaaGreatDoor
namespace Go.Proofs.YtgkhgapkfnkagaaGreatDoor
open Go.Ab Go.RowKit Go.MapKept
attribute [local irreducible] ACalls AW ADraw fltB fnear
set_option maxRecDepth 100000
end Go.Proofs.YtgkhgapkfnkagaaGreatDoor
namespace Go.Proofs.YtgkhgapkfnkagaaGreatDoor
open Go.Ab Go.RowKit Go.MapKept
attribute [local irreducible] ACalls AW ADraw fltB fnear
set_option maxRecDepth 100000
theorem few_le {α:Type} {l:List α} (n:Nat) (h:l.length≤n) (hn:n≤140737488355328:=by decide):few l:=by unfold few;omega
theorem txsD_length (l:List Tx):(txsD l).length=l.length:=List.length_map ..
structure Msg.ok (m:Msg):Prop where
 txs:few m.txs
 head:m.head.ok
 cert:m.cert.ok
 digs:few m.digs
structure Tx.ok (t:Tx):Prop where
 key:t.key.size≤140737488355328
 val:t.val.size≤140737488355328
theorem txW_full (l:List Tx) (hl:few l) (hk:∀ t∈l,t.ok):ACalls Tryz.prog 29 [.d (.sl 4 (txsD l))] [] (fun av L=>(∃ n:Int,av = .d (.int .i64 n)∧(l.length:Int)≤n∧n≤562949953421312)∧L=[]):=by
 have hcl:=txsD_length l
 unfold few at hl
 (refine acalls_go ttOk zOk foOk Tryz.func29 rfl Tryz.ntmps29 rfl false rfl ?_);(conv=>whnf)
 refine loop_go2 ttOk zOk foOk (σ:=Int) (ρ:=Nat) (fun w j=>([(0,.d (.sl 4 (txsD l))),(3,.d (.int .i64 w)),(4,.d (.int .i64 j))],[])) (fun w j=>j≤l.length∧(l.length:Int)≤w∧w≤562949953421312) (fun _ j=>l.length - j) [0,3,4] ?_ ?_
 ·conv=>whnf
  exact ⟨l.length,0,by rw [hcl];rfl,rfl,by omega,by omega,by omega⟩
 ·rintro w j ⟨hj,hw1,hw2⟩
  conv=>whnf
  rw [hcl]
  refine rdw ?_;repeat' ((with_reducible apply tw)<;>intro _)
  ·rename_i hjl hwl
   replace hwl:w<1048576:=hwl
   refine Exists.elim (⟨_,List.getElem?_eq_getElem (by omega)⟩:∃ c,l[j]? = some c) fun c hc => ?_
   have hcx:=hk c (List.mem_of_getElem? hc)
   have hk1:=hcx.key
   have hk2:=hcx.val
   ((with_reducible refine draw_pl ttOk zOk foOk mixedOk pl29x5 ?_ ?_);(focus kernel_rfl);(conv=>whnf))
   repeat' (first|((with_reducible apply rd_intro);(focus (intro K hK;(conv=>whnf);exact ix_map hc (by first|rfl|omega) hK));(conv=>whnf))|(first|((with_reducible first|apply rd_intro|apply gd_and);(focus ((conv=>whnf)<;>first|rfl|(intro K hK;(conv=>whnf);first|exact hK|exact z_wrap (by omega) hK)));conv=>whnf)|((with_reducible apply z_wrap);(focus omega);conv=>whnf)|((with_reducible first|apply mt_dec|apply mt_eq|apply mt_ne|apply mt_not|apply mt_any)<;>(intro _;conv=>whnf))))
   exact ⟨_,j+1,rfl,rfl,⟨by omega,by omega,by omega⟩,by omega⟩
  ·exact ⟨⟨_,rfl,hw1,hw2⟩,rfl⟩
  ·exact ⟨⟨_,rfl,hw1,hw2⟩,rfl⟩
structure Msg.light (m:Msg):Prop where
 txs:m.txs.length≤2000
 head:m.head.bats.length≤2000∧m.head.pars.length≤2000
 cert:m.cert.light
 digs:m.digs.length≤2000
theorem msgW_full (m:Msg) (h:m.ok) (hk:∀ t∈m.txs,t.ok):ACalls Tryz.prog 8 [m.av] [] (fun av L=>(∃ n:Int,av = .d (.int .i64 n)∧(n≤2000→m.light))∧L=[]):=by
 have h1:=txW_full m.txs h.txs hk
 have h2:=headW_ok m.head h.head
 have h3:=certW_ok m.cert h.cert
 have l7:=nums_length m.digs
 have f1:=h.head.bats.1
 have f2:=h.head.pars.1
 have f3:=h.cert.bats.1
 have f4:=h.cert.pars.1
 have f5:=h.cert.sigs.1
 have f6:=h.digs
 unfold few at f1 f2 f3 f4 f5 f6
 (refine acalls_go ttOk zOk foOk Tryz.func8 rfl Tryz.ntmps8 rfl false rfl ?_);(conv=>whnf)
 ((with_reducible refine draw_pl ttOk zOk foOk mixedOk pl8x1 ?_ ?_);(focus kernel_rfl);(conv=>whnf))
 refine rdw ?_;repeat' ((with_reducible apply tw)<;>intro _)
 refine h1.mono ?_
 rintro _ _ ⟨⟨n,rfl,hn1,hn2⟩,rfl⟩
 conv=>whnf
 refine rdw ?_;repeat' ((with_reducible apply tw)<;>intro _)
 refine h2.mono ?_
 rintro _ _ ⟨rfl,rfl⟩
 conv=>whnf
 refine rdw ?_;repeat' ((with_reducible apply tw)<;>intro _)
 refine h3.mono ?_
 rintro _ _ ⟨rfl,rfl⟩
 conv=>whnf
 refine rdw ?_;repeat' ((with_reducible apply tw)<;>intro _)
 exact ⟨⟨_,rfl,fun hle=>⟨by omega,⟨by omega,by omega⟩,⟨by omega,by omega,by omega⟩,by omega⟩⟩,rfl⟩
end Go.Proofs.YtgkhgapkfnkagaaGreatDoor
namespace Go.Ab
open Go.RowKit
end Go.Ab
namespace Go.Proofs.YtgkhgapkfnkagaaGreatDoor
open Go.Ab Go.RowKit Go.MapKept
attribute [local irreducible] ACalls AW ADraw fltB fnear
set_option maxRecDepth 100000
theorem eqHeader_ok (a b:Cert) (ha:few a.bats∧few a.pars):ACalls Tryz.prog 95 [a.hav,b.hav] [] (fun av L=>av = .d (.bool (decide (a.author=b.author∧a.round=b.round∧a.bats=b.bats∧a.pars=b.pars)))∧L=[]):=by
 have h1:=eqNumbers_ok a.bats b.bats ha.1
 have h2:=eqNumbers_ok a.pars b.pars ha.2
 (refine acalls_go ttOk zOk foOk Tryz.func95 rfl Tryz.ntmps95 rfl false rfl ?_);(conv=>whnf)
 refine rdz ?_;repeat' ((with_reducible apply tw)<;>intro _)
 ·rename_i k1 k2
  (refine (h1).mono ?_;rintro _ _ ⟨rfl,rfl⟩;(conv=>whnf))
  refine rdz ?_;repeat' ((with_reducible apply tw)<;>intro _)
  ·rename_i k3
   (refine (h2).mono ?_;rintro _ _ ⟨rfl,rfl⟩;(conv=>whnf))
   exact ⟨boolEq (by simp only [decide_eq_true_iff];exact ⟨fun h=>⟨k1,k2,k3,h⟩,fun h=>h.2.2.2⟩),rfl⟩
  ·rename_i k3
   exact ⟨by rw [decide_eq_false (fun h=>k3 h.2.2.1)];rfl,rfl⟩
 ·rename_i k1 k2
  exact ⟨by rw [decide_eq_false (fun h=>k2 h.2.1)];rfl,rfl⟩
 ·rename_i k1
  exact ⟨by rw [decide_eq_false (fun h=>k1 h.1)];rfl,rfl⟩
theorem copyTxs_ok (l:List Tx) (hl:l.length≤1099511627776):ACalls Tryz.prog 110 [.d (.sl 4 (txsD l))] [] (fun av L=>av = .d (.sl 4 (txsD l))∧L=[]):=by
 have hx:=txsD_len l
 (refine acalls_go ttOk zOk foOk Tryz.func110 rfl Tryz.ntmps110 rfl false rfl ?_);(conv=>whnf)
 refine loop_go ttOk zOk foOk (σ:=Nat) (fun j=>([(0,.d (.sl 4 (txsD l))),(3,.arr 0),(4,.d (.int .i64 j))],[.row 52 4 (txsD (l.take j)) false])) (fun j=>j≤l.length) (fun j=>l.length - j) [0,3,4] ?_ ?_
 ·conv=>whnf
  exact ⟨0,rfl,rfl,Nat.zero_le _⟩
 ·intro j hj
  have hlt:=List.length_take_le' j l
  have hxl:=txsD_len (l.take j)
  conv=>whnf
  refine rdz ?_;repeat' ((with_reducible apply tw)<;>intro _)
  ·rename_i h
   replace h:(j:Int)<((txsD l).length:Int):=h
   refine Exists.elim (⟨_,List.getElem?_eq_getElem (by omega)⟩:∃ c,l[j]? = some c) fun a ha => ?_
   refine ⟨by omega,a.cs,txsD_at ha,?_⟩
   conv=>whnf
   refine rdz ?_;repeat' ((with_reducible apply tw)<;>intro _)
   refine ⟨by show ((txsD (l.take j)).length+1) * 48≤_;omega,?_⟩
   conv=>whnf
   refine rdz ?_;repeat' ((with_reducible apply tw)<;>intro _)
   refine ⟨j+1,rfl,?_,by omega,by omega⟩
   rw [List.take_add_one,ha,show txsD (l.take j++(some a).toList)=txsD (l.take j)++[a.cs] by simp [txsD]]
   rfl
  ·rename_i h
   replace h:¬(j:Int)<((txsD l).length:Int):=h
   rw [List.take_of_length_le (by omega)]
   exact ⟨rfl,rfl⟩
theorem copyBatch_ok (m:Msg) (hl:m.txs.length≤1099511627776):ACalls Tryz.prog 46 [m.bav] [] (fun av L=>av=m.bav∧L=[]):=by
 (refine acalls_go ttOk zOk foOk Tryz.func46 rfl Tryz.ntmps46 rfl false rfl ?_);(conv=>whnf)
 refine rdz ?_;repeat' ((with_reducible apply tw)<;>intro _)
 (refine (copyTxs_ok m.txs hl).mono ?_;rintro _ _ ⟨rfl,rfl⟩;(conv=>whnf))
 refine rdz ?_;repeat' ((with_reducible apply tw)<;>intro _)
 exact ⟨rfl,rfl⟩
structure Msg.small (m:Msg):Prop where
 txs:m.txs.length≤3000
 head:m.head.bats.length≤3000∧m.head.pars.length≤3000
 cert:m.cert.bats.length≤3000∧m.cert.pars.length≤3000∧m.cert.sigs.length≤3000
 digs:m.digs.length≤3000
 sigs:m.head.sigs.length≤3000
theorem Msg.small.htiny {m:Msg} (h:m.small):m.head.tiny:=⟨by have:=h.head;unfold Go.Proofs.YtgkhgapkfnkagaaGreatDoor.tiny;omega,by have:=h.head;unfold Go.Proofs.YtgkhgapkfnkagaaGreatDoor.tiny;omega,by have:=h.sigs;unfold Go.Proofs.YtgkhgapkfnkagaaGreatDoor.tiny;omega⟩
theorem Msg.small.ctiny {m:Msg} (h:m.small):m.cert.tiny:=⟨by have:=h.cert;unfold Go.Proofs.YtgkhgapkfnkagaaGreatDoor.tiny;omega,by have:=h.cert;unfold Go.Proofs.YtgkhgapkfnkagaaGreatDoor.tiny;omega,by have:=h.cert;unfold Go.Proofs.YtgkhgapkfnkagaaGreatDoor.tiny;omega⟩
theorem Msg.small.fine {m:Msg} (h:m.small):m.fine:=⟨few_le 3000 h.txs,⟨few_le 3000 h.head.1,few_le 3000 h.head.2,few_le 3000 h.sigs⟩,⟨few_le 3000 h.cert.1,few_le 3000 h.cert.2.1,few_le 3000 h.cert.2.2⟩,few_le 3000 h.digs⟩
theorem copyMsg_ok (m:Msg) (h:m.small):ACalls Tryz.prog 11 [m.av] [] (fun av L=>av=m.av∧L=[]):=by
 (refine acalls_go ttOk zOk foOk Tryz.func11 rfl Tryz.ntmps11 rfl false rfl ?_);(conv=>whnf)
 refine rdz ?_;repeat' ((with_reducible apply tw)<;>intro _)
 (refine (copyBatch_ok m (by have:=h.txs;omega)).mono ?_;rintro _ _ ⟨rfl,rfl⟩;(conv=>whnf))
 refine rdz ?_;repeat' ((with_reducible apply tw)<;>intro _)
 (refine (copyHeader_ok m.head h.htiny).mono ?_;rintro _ _ ⟨rfl,rfl⟩;(conv=>whnf))
 refine rdz ?_;repeat' ((with_reducible apply tw)<;>intro _)
 (refine (copyCert_ok m.cert h.ctiny).mono ?_;rintro _ _ ⟨rfl,rfl⟩;(conv=>whnf))
 refine rdz ?_;repeat' ((with_reducible apply tw)<;>intro _)
 (refine (copyNumbers_ok m.digs (by have:=h.digs;unfold tiny;omega)).mono ?_;rintro _ _ ⟨rfl,rfl⟩;(conv=>whnf))
 refine rdz ?_;repeat' ((with_reducible apply tw)<;>intro _)
 exact ⟨rfl,rfl⟩
end Go.Proofs.YtgkhgapkfnkagaaGreatDoor
open Go Go.Claim Go.Proofs
namespace Go.Proofs.YtgkhgapkfnkagaaGreatDoor
open Go.Ab Go.RowKit Go.MapKept
attribute [local irreducible] ACalls AW ADraw fltB fnear
set_option maxRecDepth 100000
end Go.Proofs.YtgkhgapkfnkagaaGreatDoor
open Go Go.Claim Go.Proofs
namespace Go.Proofs.YtgkhgapkfnkagaaGreatDoor
open Go.Ab Go.RowKit Go.MapKept
attribute [local irreducible] ACalls AW ADraw fltB fnear
set_option maxRecDepth 100000
end Go.Proofs.YtgkhgapkfnkagaaGreatDoor
open Go Go.Claim Go.Proofs
namespace Go.Proofs.YtgkhgapkfnkagaaGreatDoor
open Go.Ab Go.RowKit Go.MapKept
attribute [local irreducible] ACalls AW ADraw fltB fnear
set_option maxRecDepth 100000
end Go.Proofs.YtgkhgapkfnkagaaGreatDoor
open Go Go.Claim Go.Proofs
namespace Go.Proofs.YtgkhgapkfnkagaaGreatDoor
open Go.Ab Go.RowKit Go.MapKept
attribute [local irreducible] ACalls AW ADraw fltB fnear
set_option maxRecDepth 100000
end Go.Proofs.YtgkhgapkfnkagaaGreatDoor
open Go Go.Claim Go.Proofs
namespace Go.Proofs.YtgkhgapkfnkagaaGreatDoor
open Go.Ab Go.RowKit Go.MapKept
attribute [local irreducible] ACalls AW ADraw fltB fnear
set_option maxRecDepth 100000
attribute [local irreducible] SL
structure Cert.fitS (c:Cert):Prop where
 bats:c.bats.length≤4294967296
 pars:c.pars.length≤4294967296
 sigs:c.sigs.length≤4294967296
end Go.Proofs.YtgkhgapkfnkagaaGreatDoor
namespace Go.Proofs.YtgkhgapkfnkagaaGreatDoor
open Go.Ab Go.RowKit Go.MapKept
attribute [local irreducible] ACalls AW ADraw fltB fnear
set_option maxRecDepth 100000
end Go.Proofs.YtgkhgapkfnkagaaGreatDoor
namespace Go.Ab
open Go.RowKit
end Go.Ab
namespace Go.Proofs.YtgkhgapkfnkagaaGreatDoor
open Go.Ab Go.RowKit Go.MapKept
attribute [local irreducible] ACalls AW ADraw fltB fnear
set_option maxRecDepth 100000
end Go.Proofs.YtgkhgapkfnkagaaGreatDoor
namespace Go.Proofs.YtgkhgapkfnkagaaGreatDoor
open Go.Ab Go.RowKit Go.MapKept
attribute [local irreducible] ACalls AW ADraw fltB fnear
set_option maxRecDepth 100000
theorem eqTxs_e:ACalls Tryz.prog 165 [.d (.sl 4 []),.d (.sl 4 [])] [] (fun av L=>av = .d (.bool true)∧L=[]):=by
 (refine acalls_go ttOk zOk foOk Tryz.func165 rfl Tryz.ntmps165 rfl false rfl ?_);(conv=>whnf)
 refine rdz ?_;repeat' ((with_reducible apply tw)<;>intro _)
 refine loop_go ttOk zOk foOk (σ:=Unit) (fun _=>([(0,.d (.sl 4 [])),(1,.d (.sl 4 [])),(5,.d (.int .i64 0))],[])) (fun _=>True) (fun _=>0) [0,1,5] ?_ ?_
 ·conv=>whnf
  exact ⟨(),rfl,rfl,trivial⟩
 ·intro _ _
  conv=>whnf
  refine rdz ?_;repeat' ((with_reducible apply tw)<;>intro _)
  exact ⟨rfl,rfl⟩
theorem fit_few {c:Cert} (h:c.fitS):fewL c:=⟨by have:=h.bats;unfold few;omega,by have:=h.pars;unfold few;omega,by have:=h.sigs;unfold few;omega⟩
theorem z_fit:cz0.fitS:=⟨Nat.zero_le _,Nat.zero_le _,Nat.zero_le _⟩
end Go.Proofs.YtgkhgapkfnkagaaGreatDoor
