/- NodeFormsCard: abstract runs. -/
import Derived.Test.YtgkhgapkfnkagaaGreatDoorNodeFormsCardLye18
set_option linter.unusedVariables false
set_option linter.unusedSimpArgs false
namespace Go.Ab
noncomputable section
open Go.RowKit
def pshs (l:List AB):Hp→Hp:=List.rec (motive:=fun _=>Hp→Hp) (fun H=>H) (fun x _ ih H=>ih (psh H x)) l
theorem toL_pshs:∀ (l:List AB) (H:Hp),toL (pshs l H)=toL H++l
 | [],H=>by
   show toL H=_
   rw [List.append_nil]
 | x :: r,H=>by
   show toL (pshs r (psh H x))=_
   rw [toL_pshs r,toL_psh,List.append_assoc];rfl
def mkH (l:List AB) (bx:List (Nat×Nat)):Hp:=pshs l ⟨0,.leaf,bx⟩
theorem toL_mkH (l:List AB) (bx:List (Nat×Nat)):toL (mkH l bx)=l:=by
 show toL (pshs l ⟨0,.leaf,bx⟩)=l
 rw [toL_pshs];rfl
theorem inH_mkH (ρ:Nat→Nat) (l:List AB) (bx:List (Nat×Nat)):inH ρ (mkH l bx)=inL ρ l:=by
 unfold inH
 rw [toL_mkH]
def adN (i:Nat) (acc:List Nat):List Nat:=match memB i acc with|true=>acc|false=>acc++[i]
def idsA (x:AV):List Nat→List Nat :=
 AV.rec (motive_1:=fun _=>List Nat→List Nat) (motive_2:=fun _=>List Nat→List Nat) (fun _ acc=>acc) (fun i acc=>adN i acc) (fun i _ acc=>adN i acc) (fun i _ _ acc=>adN i acc) (fun _ _ acc=>acc) (fun i acc=>adN i acc) (fun i _ _ acc=>adN i acc)
  (fun _ ih acc=>ih acc) (fun _ ih acc=>ih acc) (fun _ _ ih acc=>ih acc) (fun i _ acc=>adN i acc) (fun i _ acc=>adN i acc) (fun acc=>acc) (fun _ _ a b acc=>b (a acc)) x
def idsAs (l:List AV):List Nat→List Nat :=
 AV.rec_1 (motive_1:=fun _=>List Nat→List Nat) (motive_2:=fun _=>List Nat→List Nat) (fun _ acc=>acc) (fun i acc=>adN i acc) (fun i _ acc=>adN i acc) (fun i _ _ acc=>adN i acc) (fun _ _ acc=>acc) (fun i acc=>adN i acc) (fun i _ _ acc=>adN i acc)
  (fun _ ih acc=>ih acc) (fun _ ih acc=>ih acc) (fun _ _ ih acc=>ih acc) (fun i _ acc=>adN i acc) (fun i _ acc=>adN i acc) (fun acc=>acc) (fun _ _ a b acc=>b (a acc)) l
def rcE (H:Hp) (fuel:Nat):List Nat→Nat→List Nat :=
 Nat.rec (motive:=fun _=>List Nat→Nat→List Nat) (fun ix _=>ix) (fun _ ih ix k=>match gN ix k with
  | none=>ix
  | some i=>match hG H i with
    | some (.cells cs)=>ih (idsAs cs ix) (Nat.succ k)
    | _=>ih ix (Nat.succ k)) fuel
def lnHE (rho:Nat→Option Nat) (H:Hp) (ix:List Nat):Option (List AB) :=
 List.rec (motive:=fun _=>Option (List AB)) (some []) (fun i _ ih=>match hG H i with
  | some ab=>match renAB rho ab with
    | some ab'=>match ih with
      | some l=>some (ab' :: l)
      | none=>none
    | none=>none
  | none=>none) ix
theorem lnHE_eq (rho:Nat→Option Nat) (H:Hp):∀ ix:List Nat,lnHE rho H ix=linA rho (toL H) ix
 | []=>rfl
 | i :: r=>by
   show (match hG H i with
   | some ab=>match renAB rho ab with
     | some ab'=>match lnHE rho H r with
       | some l=>some (ab' :: l)
       | none=>none
     | none=>none
   | none=>none)=_
   rw [lnHE_eq rho H r]
   simp only [linA,toL_at]
   rfl
mutual
theorem renA_in (ρ:Nat→Nat) (rho:Nat→Option Nat):∀ x:AV,renA rho (inA ρ x)=(renA rho x).map (inA ρ)
 | .d _=>rfl
 | .arr i=>by simp only [inA,renA];cases rho i<;>rfl
 | .ptr i o=>by simp only [inA,renA];cases rho i<;>rfl
 | .ap i j o=>by simp only [inA,renA];cases rho i<;>rfl
 | .im _ _=>rfl
 | .map i=>by simp only [inA,renA];cases rho i<;>rfl
 | .mp i b o=>by simp only [inA,renA];cases rho i<;>rfl
 | .agg cs=>by simp only [inA,renA,renAs_in ρ rho cs];cases renAs rho cs<;>rfl
 | .tup cs=>by simp only [inA,renA,renAs_in ρ rho cs];cases renAs rho cs<;>rfl
 | .fn f cs=>by simp only [inA,renA,renAs_in ρ rho cs];cases renAs rho cs<;>rfl
 | .sub i n=>by simp only [inA,renA];cases rho i<;>rfl
 | .isl i x=>by simp only [inA,renA];cases rho i<;>rfl
theorem renAs_in (ρ:Nat→Nat) (rho:Nat→Option Nat):∀ l:List AV,renAs rho (inAs ρ l)=(renAs rho l).map (inAs ρ)
 | []=>rfl
 | x :: r=>by
   simp only [inAs,renAs,renA_in ρ rho x,renAs_in ρ rho r]
   cases renA rho x with
   | none=>rfl
   | some y=>cases renAs rho r<;>rfl
end
theorem renAB_in (ρ:Nat→Nat) (rho:Nat→Option Nat) (ab:AB):renAB rho (inB ρ ab)=(renAB rho ab).map (inB ρ):=by
 cases ab with
 | cells cs =>
   simp only [inB,renAB,renAs_in]
   cases renAs rho cs<;>rfl
 | _=>rfl
theorem linA_in (ρ:Nat→Nat) (rho:Nat→Option Nat) (L:List AB):∀ ix:List Nat,linA rho (inL ρ L) ix=(linA rho L ix).map (inL ρ)
 | []=>rfl
 | i :: r=>by
   simp only [linA]
   cases h:L[i]? with
   | none =>
     have:(inL ρ L)[i]? = none:=by unfold inL;rw [List.getElem?_map,h];rfl
     rw [this];rfl
   | some ab =>
     rw [inL_at h]
     simp only [renAB_in]
     cases renAB rho ab with
     | none=>rfl
     | some ab' =>
       simp only [Option.map_some,linA_in ρ rho L r]
       cases linA rho L r<;>rfl
def eqNs (l:List Nat):List Nat→Bool:=List.rec (motive:=fun _=>List Nat→Bool) (fun m=>match m with|[]=>true|_=>false) (fun x _ ih m=>match m with|[]=>false|y :: r=>match Nat.beq x y with|true=>ih r|false=>false) l
theorem eqNs_ok:∀ {l m:List Nat},eqNs l m=true→l=m
 | [],[],_=>rfl
 | [],_ :: _,h=>by cases h
 | _ :: _,[],h=>by cases h
 | x :: l,y :: m,h=>by
   replace h:(match Nat.beq x y with|true=>eqNs l m|false=>false)=true:=h
   split at h
   ·rename_i hb
    rw [Nat.eq_of_beq_eq_true hb,eqNs_ok h]
   ·cases h
def gcE1 (k0:Nat) (v:AV) (H:Hp) (ix:List Nat):Option (AV×List AB) :=
 match nodupB ix with
 | true=>match tkN k0 ix with
   | some p=>match eqNs p (upto k0) with
     | true=>match renA (posN ix · 0) v with
       | some v'=>match lnHE (posN ix · 0) H ix with
         | some L'=>some (v',L')
         | none=>none
       | none=>none
     | false=>none
   | none=>none
 | false=>none
def gcE (k0:Nat) (v:AV) (H:Hp):Option (AV×List AB):=gcE1 k0 v H (rcE H 100000 (idsA v (upto k0)) 0)
theorem acalls_gc {P:Program} {f:FuncId} {avs:List AV} {Lin:List AB} {ix:List Nat} (hnd:ix.Nodup) (h0:∀ i,i<Lin.length→ix[i]? = some i) {Q:AV→List AB→Prop} {post:AV→List AB→Prop} (hQ:∀ av Lo,Q av Lo→∃ av' Lo',renA (posN ix · 0) av=some av'∧linA (posN ix · 0) Lo ix=some Lo'∧post av' Lo') (h:ACalls P f avs Lin Q):ACalls P f avs Lin post:=by
 intro c vs hc hL hs hv
 refine (h c vs hc hL hs hv).mono ?_
 rintro e w' ⟨v,av,L',E',rfl,hp,h',hv'⟩
 obtain ⟨av',Lo',h1,h2,h3⟩:=hQ av L' hp
 obtain ⟨h4,h5⟩:=h'.part hnd (fun i hi=>h0 i (by rw [← hL];exact hi)) h2
 exact ⟨v,av',Lo',_,rfl,h3,h4,renA_ok h5 _ _ h1 _ hv'⟩
def evE (cal:Cal) (f:FuncId) (avs:List AV) (L:List AB) (bx:List (Nat×Nat)) (nx:Nat):Option (AV×List AB×Nat) :=
 match cal f avs (mkH L bx) nx with
 | some (v,H,nx')=>match gcE (lenN L) v H with
   | some (v',L')=>some (v',L',nx')
   | none=>none
 | none=>none
theorem evE_ok {P:Program} {cal:Cal} (hcal:CalOk P cal) {f:FuncId} {avs:List AV} {L:List AB} {bx:List (Nat×Nat)} {nx:Nat} {v:AV} {L':List AB} {nx':Nat} (h:evE cal f avs L bx nx=some (v,L',nx')) (ρ:Nat→Nat) :
  ACalls P f (inAs ρ avs) (inL ρ L) (fun av Lo=>∃ ρ',Ext nx nx' ρ ρ'∧av=inA ρ' v∧Lo=inL ρ' L'):=by
 unfold evE at h
 split at h
 ·rename_i v1 H nx1 hc
  split at h
  ·rename_i v2 L2 hg
   cases h
   have h1:=hcal f avs (mkH L bx) nx v1 H nx' hc ρ
   rw [inH_mkH] at h1
   unfold gcE at hg
   generalize rcE H 100000 (idsA v1 (upto (lenN L))) 0=ix at hg
   unfold gcE1 at hg
   split at hg
   ·rename_i hnd
    split at hg
    ·rename_i p hp
     split at hg
     ·rename_i heq
      split at hg
      ·rename_i v' hv'
       split at hg
       ·rename_i L3 hL3
        cases hg
        obtain ⟨q1,rfl⟩:=tkN_ok hp
        have q2:=eqNs_ok heq
        rw [lenN_eq] at q1 q2
        refine acalls_gc (nodupB_ok hnd) (fun i hi => ?_) ?_ h1
        ·rw [inL_len] at hi
         have:=congrArg (fun l=>l[i]?) q2
         simp only [List.getElem?_take,if_pos hi,upto_get hi] at this
         exact this
        ·rintro _ _ ⟨ρ',k1,rfl,rfl⟩
         refine ⟨inA ρ' v,inL ρ' L',?_,?_,ρ',k1,rfl,rfl⟩
         ·rw [renA_in,hv'];rfl
         ·unfold inH
          rw [linA_in,← lnHE_eq,hL3];rfl
       ·cases hg
      ·cases hg
     ·cases hg
    ·cases hg
   ·cases hg
  ·cases h
 ·cases h
def eqK2:KV→KV→Bool
 | .one x,.one y=>eqD x y
 | .agg xs,.agg ys=>eqDL xs ys
 | _,_=>false
theorem eqK2_ok:∀ {x y:KV},eqK2 x y=true→x=y
 | .one x,.one y,h=>by rw [eqD_ok x y h]
 | .agg x,.agg y,h=>by rw [eqDL_ok x y h]
 | .one _,.agg _,h=>by cases h
 | .agg _,.one _,h=>by cases h
def eqM2:MV→MV→Bool
 | .v x,.v y=>eqK2 x y
 | .box b xs,.box c ys=>Nat.beq b c&&eqDL xs ys
 | _,_=>false
theorem eqM2_ok:∀ {x y:MV},eqM2 x y=true→x=y
 | .v x,.v y,h=>by rw [eqK2_ok (x:=x) (y:=y) h]
 | .box b x,.box c y,h=>by
   replace h:(Nat.beq b c&&eqDL x y)=true:=h
   rw [Bool.and_eq_true] at h
   rw [Nat.eq_of_beq_eq_true h.1,eqDL_ok _ _ h.2]
 | .v _,.box _ _,h=>by cases h
 | .box _ _,.v _,h=>by cases h
def eqE2:List (KV×MV)→List (KV×MV)→Bool
 | [],[]=>true
 | (k,m) :: r,(k',m') :: s=>match eqK2 k k'&&eqM2 m m' with|true=>eqE2 r s|false=>false
 | _,_=>false
theorem eqE2_ok:∀ {x y:List (KV×MV)},eqE2 x y=true→x=y
 | [],[],_=>rfl
 | (k,m) :: r,(k',m') :: s,h=>by
   simp only [eqE2] at h
   split at h
   ·rename_i hb
    rw [Bool.and_eq_true] at hb
    rw [eqK2_ok hb.1,eqM2_ok hb.2,eqE2_ok h]
   ·cases h
 | [],_ :: _,h=>by cases h
 | _ :: _,[],h=>by cases h
def eqAB2:AB→AB→Bool
 | .cells cs,.cells ds=>eqAs cs ds
 | .row e n xs sh,.row e' m ys sh'=>Nat.beq e e'&&(Nat.beq n m&&(eqDLL xs ys&&(sh == sh')))
 | .map es,.map fs=>eqE2 es fs
 | .pool b cs,.pool c ds=>Nat.beq b c&&eqDL cs ds
 | .dead,.dead=>true
 | _,_=>false
theorem eqAB2_ok:∀ {x y:AB},eqAB2 x y=true→x=y:=by
 intro x y h
 cases x<;>cases y<;>simp only [eqAB2,Bool.and_eq_true,Bool.false_eq_true] at h
 ·rw [eqAs_ok _ _ h]
 ·obtain ⟨h1,h2,h3,h4⟩:=h
  rw [Nat.eq_of_beq_eq_true h1,Nat.eq_of_beq_eq_true h2,eqDLL_ok _ _ h3,eq_of_beq h4]
 ·rw [eqE2_ok h]
 ·rw [Nat.eq_of_beq_eq_true h.1,eqDL_ok _ _ h.2]
 ·rfl
def eqL2:List AB→List AB→Bool
 | [],[]=>true
 | x :: r,y :: s=>match eqAB2 x y with|true=>eqL2 r s|false=>false
 | _,_=>false
theorem eqL2_ok:∀ {x y:List AB},eqL2 x y=true→x=y
 | [],[],_=>rfl
 | x :: r,y :: s,h=>by
   simp only [eqL2] at h
   split at h
   ·rename_i hb
    rw [eqAB2_ok hb,eqL2_ok h]
   ·cases h
 | [],_ :: _,h=>by cases h
 | _ :: _,[],h=>by cases h
def evB (r:Option (AV×List AB×Nat)) (v:AV) (L:List AB) (nx:Nat):Bool :=
 match r with
 | some (v',L',nx')=>match eqA v' v with
   | true=>match eqL2 L' L with
     | true=>Nat.beq nx' nx
     | false=>false
   | false=>false
 | none=>false
theorem evB_ok {r:Option (AV×List AB×Nat)} {v:AV} {L:List AB} {nx:Nat} (h:evB r v L nx=true):r=some (v,L,nx):=by
 unfold evB at h
 split at h
 ·split at h
  ·rename_i h1
   split at h
   ·rename_i h2
    rw [eqA_ok _ _ h1,eqL2_ok h2,Nat.eq_of_beq_eq_true h]
   ·cases h
  ·cases h
 ·cases h
end
end Go.Ab
