/- NodeFormsCard: abstract runs. -/
import Derived.Test.YtgkhgapkfnkagaaGreatDoorNodeFormsCardLye19
set_option linter.unusedVariables false
set_option linter.unusedSimpArgs false
namespace Go.Ab
noncomputable section
open Go.RowKit
theorem litK_in {n:Nat} {K:Nat→Prop} (h:K n):litK n K:=by unfold litK;split<;>exact h
mutual
theorem fA_up:∀ (x:AV) (K:AV→Prop),K x→fA x K
 | .d x,K,h=>h
 | .arr i,K,h=>litK_in (K:=fun i=>K (.arr i)) h
 | .ptr i o,K,h=>litK_in (K:=fun i=>K (.ptr i o)) h
 | .ap i k o,K,h=>litK_in (K:=fun i=>K (.ap i k o)) h
 | .im cs o,K,h=>h
 | .map i,K,h=>litK_in (K:=fun i=>K (.map i)) h
 | .mp i b o,K,h=>litK_in (K:=fun i=>K (.mp i b o)) h
 | .agg cs,K,h=>fAs_up cs (fun l=>K (.agg l)) h
 | .tup cs,K,h=>fAs_up cs (fun l=>K (.tup l)) h
 | .fn f cs,K,h=>fAs_up cs (fun l=>K (.fn f l)) h
 | .sub i n,K,h=>litK_in (K:=fun i=>K (.sub i n)) h
 | .isl i x,K,h=>litK_in (K:=fun i=>K (.isl i x)) h
theorem fAs_up:∀ (xs:List AV) (K:List AV→Prop),K xs→fAs xs K
 | [],K,h=>h
 | x :: r,K,h=>fA_up x (fun y=>fAs r fun l=>K (y :: l)) (fAs_up r (fun l=>K (x :: l)) h)
end
theorem fB_up {ab:AB} {K:AB→Prop} (h:K ab):fB ab K:=by
 cases ab with
 | cells cs=>exact fAs_up cs _ h
 | row e n xs sh=>exact h
 | map es=>exact h
 | pool b cs=>exact h
 | obj o=>exact h
 | obs o n cap=>exact h
 | isle lo n ok=>exact h
 | dead=>exact h
theorem fL_up:∀ {xs:List AB} {K:List AB→Prop},K xs→fL xs K
 | [],_,h=>h
 | x :: r,K,h=>fB_up (K:=fun y=>fL r fun l=>K (y :: l)) (fL_up (xs:=r) (K:=fun l=>K (x :: l)) h)
theorem fN_up:∀ {xs:List Nat} {K:List Nat→Prop},K xs→fN xs K
 | [],_,h=>h
 | x :: r,K,h=>litK_in (K:=fun y=>fN r fun l=>K (y :: l)) (fN_up (xs:=r) (K:=fun l=>K (x :: l)) h)
theorem addK_up {i:Nat} {acc:List Nat} {K:List Nat→Prop} (h:K (adN i acc)):addK i acc K:=by
 unfold adN at h
 unfold addK
 cases hb:memB i acc<;>rw [hb] at h<;>exact h
mutual
theorem idsK_up (ρ:Nat→Nat):∀ (x:AV) (acc:List Nat) (K:List Nat→Prop),K (idsA x acc)→idsK (inA ρ x) acc K
 | .d _,acc,K,h=>h
 | .arr i,acc,K,h=>addK_up h
 | .ptr i _,acc,K,h=>addK_up h
 | .ap i _ _,acc,K,h=>addK_up h
 | .im _ _,acc,K,h=>h
 | .map i,acc,K,h=>addK_up h
 | .mp i _ _,acc,K,h=>addK_up h
 | .agg cs,acc,K,h=>idsKs_up ρ cs acc K h
 | .tup cs,acc,K,h=>idsKs_up ρ cs acc K h
 | .fn _ cs,acc,K,h=>idsKs_up ρ cs acc K h
 | .sub i _,acc,K,h=>addK_up h
 | .isl i _,acc,K,h=>addK_up h
theorem idsKs_up (ρ:Nat→Nat):∀ (xs:List AV) (acc:List Nat) (K:List Nat→Prop),K (idsAs xs acc)→idsKs (inAs ρ xs) acc K
 | [],acc,K,h=>h
 | x :: r,acc,K,h=>idsK_up ρ x acc (fun acc=>idsKs (inAs ρ r) acc K) (idsKs_up ρ r (idsA x acc) K h)
end
def rcO (H:Hp) (fuel:Nat):List Nat→Nat→Option (List Nat) :=
 Nat.rec (motive:=fun _=>List Nat→Nat→Option (List Nat)) (fun _ _=>none) (fun _ ih ix k=>match gN ix k with
  | none=>some ix
  | some i=>match hG H i with
    | some (.cells cs)=>ih (idsAs cs ix) (Nat.succ k)
    | some _=>ih ix (Nat.succ k)
    | none=>none) fuel
theorem rcO_ok (ρ:Nat→Nat) (H:Hp):∀ (fuel:Nat) (ix:List Nat) (k:Nat) (r:List Nat),rcO H fuel ix k=some r→∀ {K:List Nat→Prop},K r→reachK fuel ix k (inH ρ H) K
 | 0,ix,k,r,h,K,_=>by cases (show (none:Option (List Nat))=some r from h)
 | fuel+1,ix,k,r,h,K,hK=>by
   replace h:(match gN ix k with
   | none=>some ix
   | some i=>match hG H i with
     | some (.cells cs)=>rcO H fuel (idsAs cs ix) (Nat.succ k)
     | some _=>rcO H fuel ix (Nat.succ k)
     | none=>none)=some r:=h
   show (match ix[k]? with
    | none=>fN ix K
    | some i=>lgetK (inH ρ H) i fun ab=>match ab with
      | .cells cs=>idsKs cs ix fun ix'=>reachK fuel ix' (k+1) (inH ρ H) K
      | _=>reachK fuel ix (k+1) (inH ρ H) K)
   rw [← gN_eq]
   revert h
   cases hg:gN ix k with
   | none =>
     intro h
     cases h
     exact fN_up hK
   | some i =>
     intro h
     simp only at h ⊢
     split at h
     ·rename_i cs hj
      exact lgetK_in (inH_at hj) (idsKs_up ρ cs ix _ (rcO_ok ρ H fuel _ _ r h hK))
     ·rename_i ab hne hj
      refine lgetK_in (inH_at hj) ?_
      have:=rcO_ok ρ H fuel _ _ r h hK
      cases ab with
      | cells cs=>exact (hne cs rfl).elim
      | _=>exact this
     ·cases h
structure ME where
 avs:List AV
 L:List AB
 nx:Nat
 v:AV
 L':List AB
 nx':Nat
def ME.Ok (P:Program) (f:FuncId) (m:ME):Prop:=∀ ρ,ACalls P f (inAs ρ m.avs) (inL ρ m.L) (fun av Lo=>∃ ρ',Ext m.nx m.nx' ρ ρ'∧av=inA ρ' m.v∧Lo=inL ρ' m.L')
def findM (avs:List AV) (L:List AB) (nx:Nat) (tab:List ME):Option ME :=
 List.rec (motive:=fun _=>Option ME) none (fun m _ ih=>match eqAs avs m.avs with
  | true=>match Nat.beq nx m.nx with
    | true=>match eqL2 L m.L with
      | true=>some m
      | false=>ih
    | false=>ih
  | false=>ih) tab
theorem findM_ok {avs:List AV} {L:List AB} {nx:Nat}:∀ {tab:List ME} {m:ME},findM avs L nx tab=some m→m∈tab∧avs=m.avs∧L=m.L∧nx=m.nx
 | [],m,h=>by cases (show (none:Option ME)=some m from h)
 | a :: r,m,h=>by
   replace h:(match eqAs avs a.avs with
   | true=>match Nat.beq nx a.nx with
     | true=>match eqL2 L a.L with
       | true=>some a
       | false=>findM avs L nx r
     | false=>findM avs L nx r
   | false=>findM avs L nx r)=some m:=h
   have ih:findM avs L nx r=some m→_:=fun h=>findM_ok (tab:=r) (m:=m) h
   have tl:findM avs L nx r=some m→m∈a :: r∧avs=m.avs∧L=m.L∧nx=m.nx:=fun h=>⟨List.mem_cons_of_mem _ (ih h).1,(ih h).2⟩
   split at h
   ·rename_i h1
    split at h
    ·rename_i h2
     split at h
     ·rename_i h3
      cases h
      exact ⟨by simp,eqAs_ok _ _ h1,eqL2_ok h3,Nat.eq_of_beq_eq_true h2⟩
     ·exact tl h
    ·exact tl h
   ·exact tl h
def hSs (ix:List Nat):List AB→Hp→Hp :=
 List.rec (motive:=fun _=>List AB→Hp→Hp) (fun _ H=>H) (fun i _ ih Lo H=>match Lo with
  | []=>H
  | ab :: r=>ih r (hS H i ab)) ix
theorem hSs_in (ρ:Nat→Nat):∀ (ix:List Nat) (Lo:List AB) (H:Hp),inH ρ (hSs ix Lo H)=sets ix (inL ρ Lo) (inH ρ H)
 | [],Lo,H=>by
   show inH ρ H=_
   cases Lo<;>rfl
 | i :: ix,[],H=>rfl
 | i :: ix,ab :: r,H=>by
   show inH ρ (hSs ix r (hS H i ab))=sets ix (inL ρ r) ((inH ρ H).set i (inB ρ ab))
   rw [hSs_in ρ ix r,inH_set]
theorem pshs_in (ρ:Nat→Nat) (l:List AB) (H:Hp):inH ρ (pshs l H)=inH ρ H++inL ρ l:=by
 unfold inH
 rw [toL_pshs]
 unfold inL
 rw [List.map_append]
def bxsE (es:List (KV×MV)) (i:Nat) (acc:List (Nat×Nat)):List (Nat×Nat) :=
 List.rec (motive:=fun _=>List (Nat×Nat)) acc (fun p _ ih=>match p.2 with | .box b _=>(b,i) :: ih | .v _=>ih) es
def bxsB (ab:AB) (i:Nat) (acc:List (Nat×Nat)):List (Nat×Nat) :=
 match ab with
 | .map es=>bxsE es i acc
 | .pool b _=>(b,i) :: acc
 | _=>acc
def bxsL (ix:List Nat) (base:Nat) (Lo:List AB) (acc:List (Nat×Nat)):List (Nat×Nat) :=
 List.rec (motive:=fun _=>Nat→List (Nat×Nat)) (fun _=>acc) (fun ab _ ih j=>match unN ix base j with
  | some i=>bxsB ab i (ih (Nat.succ j))
  | none=>ih (Nat.succ j)) Lo 0
def memoE (tab:List ME) (avs:List AV) (H:Hp) (nx:Nat):Option (AV×Hp×Nat) :=
 match rcO H 64 (idsAs avs []) 0 with
 | some ix=>match nodupB ix with
   | true=>match renAs (posN ix · 0) avs with
     | some avs2=>match lnHE (posN ix · 0) H ix with
       | some Lin=>match findM avs2 Lin nx tab with
         | some m=>match renL (unN ix (hN H)) m.L' with
           | some Lo=>match renA (unN ix (hN H)) m.v with
             | some v=>match Nat.ble ix.length Lo.length&&idH nx H with
               | true=>some (v,{ pshs (Lo.drop ix.length) (hSs ix Lo H) with bx:=bxsL ix (hN H) Lo H.bx },m.nx')
               | false=>none
             | none=>none
           | none=>none
         | none=>none
       | none=>none
     | none=>none
   | false=>none
 | none=>none
theorem renL_in (ρ:Nat→Nat) (rho:Nat→Option Nat):∀ L:List AB,renL rho (inL ρ L)=(renL rho L).map (inL ρ)
 | []=>rfl
 | ab :: r=>by
   show (match renAB rho (inB ρ ab) with
   | some ab'=>match renL rho (inL ρ r) with
     | some l=>some (ab' :: l)
     | none=>none
   | none=>none)=(match renAB rho ab with
   | some ab'=>match renL rho r with
     | some l=>some (ab' :: l)
     | none=>none
   | none=>none).map (inL ρ)
   rw [renAB_in,renL_in ρ rho r]
   cases renAB rho ab with
   | none=>rfl
   | some ab'=>cases renL rho r<;>rfl
theorem memoE_ok {P:Program} {f:FuncId} {tab:List ME} (ht:∀ m∈tab,m.Ok P f):∀ avs H nx v L' nx',memoE tab avs H nx=some (v,L',nx')→∀ ρ,ACalls P f (inAs ρ avs) (inH ρ H) (fun av Lo=>∃ ρ',Ext nx nx' ρ ρ'∧av=inA ρ' v∧Lo=inH ρ' L'):=by
 intro avs H nx v L' nx' h ρ
 unfold memoE at h
 split at h
 ·rename_i ix hix
  split at h
  ·rename_i hnd
   split at h
   ·rename_i avs2 hav
    split at h
    ·rename_i Lin hlin
     split at h
     ·rename_i m hm
      split at h
      ·rename_i Lo hLo
       split at h
       ·rename_i v1 hv1
        split at h
        ·rename_i hb
         cases h
         rw [Bool.and_eq_true] at hb
         obtain ⟨hmt,rfl,rfl,rfl⟩:=findM_ok hm
         refine acalls_via [] rfl ?_
         unfold callRawK
         refine idsKs_up ρ avs [] _ (rcO_ok ρ H 64 _ _ ix hix ?_)
         rw [hnd]
         simp only [cond_true]
         rw [renAs_in,hav,show linA (posN ix · 0) (inH ρ H) ix=some (inL ρ m.L) by unfold inH;rw [linA_in,← lnHE_eq,hlin];rfl]
         simp only [Option.map_some]
         refine fAs_up _ _ (fL_up ?_)
         refine (ht m hmt ρ).mono ?_
         rintro _ _ ⟨ρ',k1,rfl,rfl⟩
         refine litK_in ?_
         rw [inH_len,renL_in,hLo,renA_in,hv1]
         simp only [Option.map_some]
         have hl:(inL ρ' Lo).length=Lo.length:=by unfold inL;rw [List.length_map]
         have hbl:Nat.ble ix.length (inL ρ' Lo).length=true:=by rw [hl];exact hb.1
         unfold mergeA
         rw [hbl]
         simp only [cond_true]
         refine fL_up (fA_up _ _ ⟨ρ',k1,rfl,?_⟩)
         show _=inH ρ' (pshs (Lo.drop ix.length) (hSs ix Lo H))
         rw [pshs_in,hSs_in,idH_ok k1.2.1 hb.2]
         congr 1
         unfold inL
         rw [List.map_drop]
        ·cases h
       ·cases h
      ·cases h
     ·cases h
    ·cases h
   ·cases h
  ·cases h
 ·cases h
end
end Go.Ab
