/- NodeFormsCard: abstract runs. -/
import Derived.Test.YtgkhgapkfnkagaaGreatDoorNodeFormsCardLye2
set_option linter.unusedVariables false
set_option linter.unusedSimpArgs false
namespace Go.Ab
noncomputable section
open Go.RowKit
def mD (l:List DV):List AV:=List.rec (motive:=fun _=>List AV) [] (fun x _ ih => .d x :: ih) l
theorem mD_eq:∀ l:List DV,mD l=l.map AV.d
 | []=>rfl
 | x :: r=>by
   show AV.d x :: mD r=_
   rw [mD_eq r];rfl
theorem in_mD (ρ:Nat→Nat) (l:List DV):inAs ρ (mD l)=l.map AV.d:=by rw [mD_eq,inAs_d]
def rdE (i:TI) (cs:List AV) (off:Nat):Option AV :=
 match isAggD i.desc with
 | true=>match dpN off cs with
   | some r=>match tkN i.size r with
     | some l=>some (.agg l)
     | none=>none
   | none=>none
 | false=>gN cs off
theorem rdE_ok {ρ:Nat→Nat} {i:TI} {cs:List AV} {off:Nat} {v:AV} (h:rdE i cs off=some v) {K:AV→Prop} (k:K (inA ρ v)):readK i (inAs ρ cs) off K:=by
 unfold rdE at h
 unfold readK
 split at h
 ·rename_i ha
  rw [ha]
  split at h
  ·rename_i r hr
   split at h
   ·rename_i l hl
    cases h
    obtain ⟨h1,rfl⟩:=dpN_ok hr
    obtain ⟨h2,rfl⟩:=tkN_ok hl
    refine dropK_in (by rw [inAs_len];exact h1) (takeK_in (by rw [List.length_drop,inAs_len];rw [List.length_drop] at h2;exact h2) ?_)
    have e:((inAs ρ cs).drop off).take i.size=inAs ρ ((cs.drop off).take i.size):=by rw [inAs_map,inAs_map,← List.map_drop,← List.map_take]
    rw [e];exact k
   ·cases h
  ·cases h
 ·rename_i ha
  rw [ha]
  rw [gN_eq] at h
  exact nthK_in (inAs_at h) k
theorem rdE_d {ρ:Nat→Nat} {i:TI} {cs:List DV} {off:Nat} {v:AV} (h:rdE i (mD cs) off=some v) {K:AV→Prop} (k:K (inA ρ v)):readK i (cs.map AV.d) off K:=by
 have:=rdE_ok h k
 rw [in_mD] at this
 exact this
def bxM (b:Nat) (es:List (KV×MV)):Option (Nat×KV×List DV) :=
 List.rec (motive:=fun _=>Option (Nat×KV×List DV)) none (fun p _ ih=>match p.2 with
  | .box b' cs=>match Nat.beq b' b with
    | true=>some (0,p.1,cs)
    | false=>match ih with
      | some (j,q)=>some (j+1,q)
      | none=>none
  | .v _=>match ih with
    | some (j,q)=>some (j+1,q)
    | none=>none) es
theorem bxM_c (b:Nat) (p:KV×MV) (r:List (KV×MV)):bxM b (p :: r)=match p.2 with
  | .box b' cs=>match Nat.beq b' b with
    | true=>some (0,p.1,cs)
    | false=>match bxM b r with
      | some (j,q)=>some (j+1,q)
      | none=>none
  | .v _=>match bxM b r with
    | some (j,q)=>some (j+1,q)
    | none=>none:=rfl
theorem bxM_ok {b:Nat}:∀ {es:List (KV×MV)} {j:Nat} {k:KV} {cs:List DV},bxM b es=some (j,k,cs)→es[j]? = some (k,.box b cs)
 | [],j,k,cs,h=>by cases (show (none:Option (Nat×KV×List DV))=some (j,k,cs) from h)
 | (k0,m) :: r,j,k,cs,h=>by
   rw [bxM_c] at h
   have shift:(match bxM b r with|some (j,q)=>some (j+1,q)|none=>none)=some (j,k,cs)→((k0,m) :: r)[j]? = some (k,.box b cs):=by
    intro h
    split at h
    ·rename_i j' q hq
     obtain ⟨k',cs'⟩:=q
     cases h
     rw [List.getElem?_cons_succ]
     exact bxM_ok hq
    ·cases h
   cases m with
   | v x=>exact shift h
   | box b' c =>
     simp only at h
     split at h
     ·rename_i hb
      cases h
      rw [Nat.eq_of_beq_eq_true hb];rfl
     ·exact shift h
theorem boxcsM_mem:∀ {es:List (KV×MV)} {j:Nat} {k:KV} {b:Nat} {cs:List DV},es[j]? = some (k,.box b cs)→(b,cs)∈boxcsM es
 | [],j,k,b,cs,h=>by simp at h
 | (k0,m) :: r,0,k,b,cs,h=>by
   simp at h
   obtain ⟨rfl,rfl⟩:=h
   simp [boxcsM]
 | (k0,m) :: r,j+1,k,b,cs,h=>by
   have:=boxcsM_mem (es:=r) (j:=j) (by simpa using h)
   cases m<;>simp [boxcsM,this]
inductive BxAt where
 | inMap (j:Nat) (k:KV)
 | alone
def asN (b:Nat) (l:List (Nat×Nat)):Option Nat:=List.rec (motive:=fun _=>Option Nat) none (fun p _ ih=>Bool.rec (motive:=fun _=>Option Nat) ih (some p.2) (Nat.beq p.1 b)) l
def bxL (b:Nat) (L:Hp):Option (Nat×BxAt×List DV) :=
 match asN b L.bx with
 | some m=>match hG L m with
   | some (.map es)=>match bxM b es with
     | some (j,k,cs)=>some (m,.inMap j k,cs)
     | none=>none
   | some (.pool b' cs)=>match Nat.beq b' b with
     | true=>some (m,.alone,cs)
     | false=>none
   | _=>none
 | none=>none
def BxIs (b:Nat) (cs:List DV) (ab:AB):BxAt→Prop
 | .inMap j k=>∃ es,ab = .map es∧es[j]? = some (k,.box b cs)
 | .alone=>ab = .pool b cs
theorem bxL_ok {b:Nat} {L:Hp} {m:Nat} {a:BxAt} {cs:List DV} (h:bxL b L=some (m,a,cs)):∃ ab,hG L m=some ab∧BxIs b cs ab a:=by
 unfold bxL at h
 split at h
 ·split at h
  ·rename_i es hj
   split at h
   ·rename_i j k cs' hq
    cases h
    exact ⟨_,hj,es,rfl,bxM_ok hq⟩
   ·cases h
  ·rename_i b' c hj
   split at h
   ·rename_i hb
    cases h
    exact ⟨_,hj,by rw [Nat.eq_of_beq_eq_true hb];rfl⟩
   ·cases h
  ·cases h
 ·cases h
theorem inE_at {ρ:Nat→Nat} {es:List (KV×MV)} {j:Nat} {k:KV} {m:MV} (h:es[j]? = some (k,m)):(inE ρ es)[j]? = some (k,inM ρ m):=by unfold inE;rw [List.getElem?_map,h];rfl
theorem bxL_in {ρ:Nat→Nat} {b:Nat} {L:Hp} {m:Nat} {a:BxAt} {cs:List DV} (h:bxL b L=some (m,a,cs)):BoxIn (inH ρ L) (ρ b) cs:=by
 obtain ⟨ab,h1,h2⟩:=bxL_ok h
 refine ⟨m,inB ρ ab,inH_at h1,?_⟩
 cases a with
 | inMap j k =>
   obtain ⟨es,rfl,h3⟩:=h2
   exact boxcsM_mem (inE_at (ρ:=ρ) h3)
 | alone =>
   rw [show ab = .pool b cs from h2]
   exact List.mem_singleton.2 rfl
def ldE (i:TI) (L:Hp) (x:AV):Option AV :=
 match x with
 | .ptr j off=>match hG L j with
   | some (.cells cs)=>rdE i cs off
   | _=>none
 | .im cs off=>rdE i (mD cs) off
 | .ap j k off=>match hG L j with
   | some (.row _ _ xs _)=>match gN xs k with
     | some cs=>rdE i (mD cs) off
     | none=>none
   | _=>none
 | .mp _ b off=>match bxL b L with
   | some (_,_,cs)=>rdE i (mD cs) off
   | none=>none
 | _=>none
theorem ldE_ok {ρ:Nat→Nat} {i:TI} {L:Hp} {x v:AV} (h:ldE i L x=some v) {K:AV→Prop} (k:K (inA ρ v)):loadK i (inH ρ L) (inA ρ x) K:=by
 unfold ldE at h
 split at h
 ·split at h
  ·rename_i j off _ cs hj
   exact lgetK_in (inH_at hj) (rdE_ok h k)
  ·cases h
 ·exact rdE_d h k
 ·split at h
  ·rename_i j kk off _ e n xs sh hj
   split at h
   ·rename_i cs hcs
    rw [gN_eq] at hcs
    exact lgetK_in (inH_at hj) ⟨cs,hcs,rdE_d h k⟩
   ·cases h
  ·cases h
 ·split at h
  ·rename_i _ _ _ cs hb
   exact ⟨cs,bxL_in hb,rdE_d h k⟩
  ·cases h
 ·cases h
theorem movK_in {x:AV} {K:AV→Prop} (h:K x):movK x K:=by cases x<;>exact h
def faE (tt:TypeId→Option TI) (s:TypeId) (k:Nat) (L:Hp) (x:AV):Option AV :=
 match tt s with
 | some i=>match fieldOff (structFs i.desc) k with
   | some (o,t)=>match tt t with
     | some it=>match Nat.beq it.size 0 with
       | true=>none
       | false=>match x with
         | .ptr j off=>some (.ptr j (Nat.add off o))
         | .im cs off=>match Nat.ble (off+o) cs.length with
           | true=>some (.im cs (off+o))
           | false=>none
         | .ap j m off=>match hG L j with
           | some (.row _ _ _ _)=>some (.ap j m (Nat.add off o))
           | _=>none
         | .mp j b off=>some (.mp j b (Nat.add off o))
         | _=>none
     | none=>none
   | none=>none
 | none=>none
theorem faE_ok {ρ:Nat→Nat} {tt:TypeId→Option TI} {s:TypeId} {k:Nat} {L:Hp} {x v:AV} (h:faE tt s k L x=some v) {K:AV→Prop} (hk:K (inA ρ v)):fieldAddrK tt s k (inH ρ L) (inA ρ x) K:=by
 unfold faE at h
 unfold fieldAddrK
 split at h
 ·rename_i i hi
  refine ttK_in hi ?_
  split at h
  ·rename_i o t ho
   rw [ho]
   split at h
   ·rename_i it hit
    refine ttK_in hit ?_
    split at h
    ·cases h
    ·rename_i hz
     rw [hz]
     split at h
     ·cases h;exact hk
     ·split at h
      ·rename_i hb
       cases h
       show (bif Nat.ble _ _ then _ else _)
       rw [hb];exact hk
      ·cases h
     ·split at h
      ·rename_i hj
       cases h
       exact lgetK_in (inH_at hj) hk
      ·cases h
     ·cases h;exact hk
     ·cases h
   ·cases h
  ·cases h
 ·cases h
def flE (tt:TypeId→Option TI) (s:TypeId) (k:Nat) (x:AV):Option AV :=
 match tt s with
 | some i=>match fieldOff (structFs i.desc) k with
   | some (o,t)=>match tt t with
     | some it=>match x with
       | .agg cs=>rdE it cs o
       | _=>none
     | none=>none
   | none=>none
 | none=>none
theorem flE_ok {ρ:Nat→Nat} {tt:TypeId→Option TI} {s:TypeId} {k:Nat} {x v:AV} (h:flE tt s k x=some v) {K:AV→Prop} (hk:K (inA ρ v)):fieldK tt s k (inA ρ x) K:=by
 unfold flE at h
 unfold fieldK
 split at h
 ·rename_i i hi
  refine ttK_in hi ?_
  split at h
  ·rename_i o t ho
   rw [ho]
   split at h
   ·rename_i it hit
    refine ttK_in hit ?_
    split at h
    ·exact rdE_ok h hk
    ·cases h
   ·cases h
  ·cases h
 ·cases h
def exE (x:AV) (k:Nat):Option AV :=
 match x with
 | .tup vs=>gN vs k
 | _=>none
theorem exE_ok {ρ:Nat→Nat} {x v:AV} {k:Nat} (h:exE x k=some v) {K:AV→Prop} (hk:K (inA ρ v)):extractK (inA ρ x) k K:=by
 unfold exE at h
 split at h
 ·rw [gN_eq] at h
  exact nthK_in (inAs_at h) hk
 ·cases h
def ncE (x:AV):Option AV :=
 match x with
 | .ptr i o=>some (.ptr i o)
 | .im cs o=>some (.im cs o)
 | .mp i b o=>some (.mp i b o)
 | _=>none
theorem ncE_ok {ρ:Nat→Nat} {x v:AV} (h:ncE x=some v) {K:AV→Prop} (hk:K (inA ρ v)):nilCheckK (inA ρ x) K:=by
 unfold ncE at h
 split at h<;>cases h<;>exact hk
def bsLen (s:ByteArray):Nat:=lenN s.data.toList
theorem bsLen_eq (s:ByteArray):bsLen s=s.size:=by
 unfold bsLen
 rw [lenN_eq,Array.length_toList];rfl
def lnE (L:Hp) (d:TypeDesc) (x:AV):Option AV :=
 match x with
 | .d (.str s)=>match isStrD d with|true=>some (.d (.int .i64 (.ofNat (bsLen s))))|false=>none
 | .d .nils=>match isSliceD d with|true=>some (.d (.int .i64 0))|false=>none
 | .d (.sl _ xs)=>match isSliceD d with|true=>some (.d (.int .i64 (.ofNat (lenN xs))))|false=>none
 | .arr j=>match isSliceD d with
   | true=>match hG L j with
     | some (.row _ _ xs _)=>some (.d (.int .i64 (.ofNat (lenN xs))))
     | some (.cells cs)=>some (.d (.int .i64 (.ofNat (lenN cs))))
     | _=>none
   | false=>none
 | .map i=>match mapDesc d with
   | some _=>match hG L i with
     | some (.map es)=>some (.d (.int .i64 (.ofNat (lenN es))))
     | _=>none
   | none=>none
 | _=>none
theorem mapDesc_no {d:TypeDesc}:(isStrD d=true→mapDesc d=none)∧(isSliceD d=true→mapDesc d=none):=by
 cases d<;>simp [isStrD,isSliceD,mapDesc]
theorem lnE_ok {ρ:Nat→Nat} {L:Hp} {d:TypeDesc} {x v:AV} (h:lnE L d x=some v) {K:AV→Prop} (hk:K (inA ρ v)):lenAllK (inH ρ L) d (inA ρ x) K:=by
 unfold lnE at h
 split at h
 ·split at h
  ·rename_i hd
   cases h
   rw [bsLen_eq] at hk
   unfold lenAllK
   rw [mapDesc_no.1 hd]
   show (bif isStrD d then _ else _)
   rw [hd];exact hk
  ·cases h
 ·split at h
  ·rename_i hd
   cases h
   unfold lenAllK
   rw [mapDesc_no.2 hd]
   show (bif isSliceD d then _ else _)
   rw [hd];exact hk
  ·cases h
 ·split at h
  ·rename_i hd
   cases h
   rw [lenN_eq] at hk
   unfold lenAllK
   rw [mapDesc_no.2 hd]
   show (bif isSliceD d then _ else _)
   rw [hd];exact hk
  ·cases h
 ·split at h
  ·rename_i hd
   split at h
   ·rename_i hj
    cases h
    rw [lenN_eq] at hk
    unfold lenAllK
    rw [mapDesc_no.2 hd]
    show (bif isSliceD d then _ else _)
    rw [hd];exact lgetK_in (inH_at hj) hk
   ·rename_i cs hj
    cases h
    rw [lenN_eq,← inAs_len ρ] at hk
    unfold lenAllK
    rw [mapDesc_no.2 hd]
    show (bif isSliceD d then _ else _)
    rw [hd];exact lgetK_in (inH_at hj) hk
   ·cases h
  ·cases h
 ·split at h
  ·rename_i q hq
   split at h
   ·rename_i es hj
    cases h
    have e:lenN es=(inE ρ es).length:=by rw [lenN_eq];exact (List.length_map ..).symm
    rw [e] at hk
    unfold lenAllK
    rw [hq]
    show (match mapDesc d with|some _=>_|none=>_)
    rw [hq]
    exact lgetK_in (inH_at hj) hk
   ·cases h
  ·cases h
 ·cases h
end
end Go.Ab
