/- NodeFormsCard: abstract runs. -/
import Derived.Test.YtgkhgapkfnkagaaGreatDoorNodeFormsCardLye9
set_option linter.unusedVariables false
set_option linter.unusedSimpArgs false
namespace Go.Ab
noncomputable section
open Go.RowKit
def chE {α:Type} (n k:Nat):List α→Option (List (List α)) :=
 Nat.rec (motive:=fun _=>List α→Option (List (List α))) (fun _=>some []) (fun _ ih l=>Option.rec (motive:=fun _=>Option (List (List α))) none (fun c=>Option.rec (motive:=fun _=>Option (List (List α))) none (fun r=>Option.rec (motive:=fun _=>Option (List (List α))) none (fun cs=>some (c :: cs)) (ih r)) (dpN n l)) (tkN n l)) k
theorem chE_ok {α:Type} {n:Nat}:∀ {k:Nat} {l:List α} {cs:List (List α)},chE n k l=some cs→∀ {K:List (List α)→Prop},K cs→chunksK n k l K
 | 0,l,cs,h,K,hk=>by
   have:some []=some cs:=h
   cases this;exact hk
 | k+1,l,cs,h,K,hk=>by
   replace h:(Option.rec (motive:=fun _=>Option (List (List α))) none (fun c=>Option.rec (motive:=fun _=>Option (List (List α))) none (fun r=>Option.rec (motive:=fun _=>Option (List (List α))) none (fun cs=>some (c :: cs)) (chE n k r)) (dpN n l)) (tkN n l):Option (List (List α)))=some cs:=h
   cases ht:tkN n l with
   | none=>rw [ht] at h;cases h
   | some c =>
     rw [ht] at h
     replace h:(Option.rec (motive:=fun _=>Option (List (List α))) none (fun r=>Option.rec (motive:=fun _=>Option (List (List α))) none (fun cs=>some (c :: cs)) (chE n k r)) (dpN n l):Option (List (List α)))=some cs:=h
     cases hd:dpN n l with
     | none=>rw [hd] at h;cases h
     | some r =>
       rw [hd] at h
       replace h:(Option.rec (motive:=fun _=>Option (List (List α))) none (fun cs=>some (c :: cs)) (chE n k r):Option (List (List α)))=some cs:=h
       cases hc:chE n k r with
       | none=>rw [hc] at h;cases h
       | some q =>
         rw [hc] at h
         cases h
         obtain ⟨h1,rfl⟩:=tkN_ok ht
         obtain ⟨h2,rfl⟩:=dpN_ok hd
         show takeK n l fun c=>dropK n l fun r=>chunksK n k r fun cs=>K (c :: cs)
         exact takeK_in h1 (dropK_in h2 (chE_ok hc hk))
theorem ptrsB_in (ρ:Nat→Nat):∀ l:List (Nat×AV),ptrsB (inP ρ l)=ptrsB l
 | []=>rfl
 | p :: r=>by
   have ih:=ptrsB_in ρ r
   obtain ⟨i,x⟩:=p
   cases x<;>first|exact ih|rfl
theorem zerosOf_in {ρ:Nat→Nat} {zc:List AV} (h:inAs ρ zc=zc) (n:Nat):inAs ρ (zerosOf zc n)=zerosOf zc n:=by
 rw [inAs_map]
 unfold zerosOf
 rw [List.map_map]
 refine List.map_congr_left fun i _ => ?_
 show inA ρ (zc.getD (i % zc.length) (.d .any))=_
 rw [List.getD_eq_getElem?_getD]
 cases hg:zc[i % zc.length]? with
 | none=>rfl
 | some c =>
   have:=inAs_at (ρ:=ρ) hg
   rw [h,hg] at this
   exact (Option.some.inj this).symm
theorem cellsZ (ρ:Nat→Nat) (v:Value):inAs ρ (cellsOf (avOf v))=cellsOf (avOf v):=by rw [← cellsOf_in,inA_avOf]
def epE (size i:Nat):Option (Nat×Nat):=some (i * size,size)
theorem epE_ok {size:Nat} (q:Nat) (p:Nat×Nat) (h:epE size q=some p) (K:Nat×Nat→Prop) (hk:K p):eqPlace size q K:=by cases h;exact hk
def bsE (tt:TypeId→Option TI) (t:TypeId) (len:Nat) (parts:List (Nat×AV)) (L:Hp):Option RV :=
 match tt t with
 | some i=>match sliceElem i.desc with
   | some e=>match tt e with
     | some ei=>match !(Nat.beq ei.size 0)&&Nat.ble (len * ei.size) 16777216&&cellsB ei.size (avOf ei.zero) with
       | true=>match fiE (epE ei.size) parts (zerosOf (cellsOf (avOf ei.zero)) (len * ei.size)) with
         | some cs=>match ptrsB parts with
           | true=>match Nat.beq ei.size 1 with
             | true=>some (.arr (hN L),some (psh L (.cells cs)))
             | false=>none
           | false=>match tDsE cs L with
             | some (ds,L1)=>match chE ei.size len (nrE (cellNs tt 6 e) ei.size ds 0) with
               | some xs=>some (.arr (hN L1),some (psh L1 (.row e ei.size xs false)))
               | none=>none
             | none=>none
         | none=>none
       | false=>none
     | none=>none
   | none=>none
 | none=>none
theorem bsE_ok {ρ:Nat→Nat} {tt:TypeId→Option TI} {t:TypeId} {len:Nat} {parts:List (Nat×AV)} {L:Hp} {r:RV} (h:bsE tt t len parts L=some r):Goes ρ L r (buildSliceK tt t len (inP ρ parts) (inH ρ L)):=by
 intro K hk
 unfold bsE at h
 unfold buildSliceK
 split at h
 ·rename_i i hi
  refine ttK_in hi ?_
  split at h
  ·rename_i e he
   rw [he]
   split at h
   ·rename_i ei hei
    refine ttK_in hei ?_
    split at h
    ·rename_i hb
     rw [hb,cond_true,ptrsB_in]
     split at h
     ·rename_i cs hcs
      split at h
      ·rename_i hp
       rw [hp,cond_true]
       split at h
       ·rename_i h1
        cases h
        rw [h1,cond_true,← zerosOf_in (cellsZ ρ ei.zero)]
        refine fiE_ok epE_ok hcs ?_
        exact lpush_psh (ab := .cells cs) hk
       ·cases h
      ·rename_i hp
       rw [hp,cond_false]
       split at h
       ·rename_i ds L1 hd
        split at h
        ·rename_i xs hx
         cases h
         rw [← zerosOf_in (cellsZ ρ ei.zero)]
         refine fiE_ok epE_ok hcs ?_
         refine tDsE_ok hd ?_
         refine nrE_ok ?_
         refine chE_ok hx ?_
         exact lpush_psh (ab := .row e ei.size xs false) hk
        ·cases h
       ·cases h
     ·cases h
    ·cases h
   ·cases h
  ·cases h
 ·cases h
def dvE (xs:List AV):Option (List DV) :=
 List.rec (motive:=fun _=>Option (List DV)) (some []) (fun x _ ih=>match x with
  | .d y=>Option.rec (motive:=fun _=>Option (List DV)) none (fun l=>some (y :: l)) ih
  | _=>none) xs
theorem dvE_ok {ρ:Nat→Nat}:∀ {xs:List AV} {ds:List DV},dvE xs=some ds→∀ {K:List DV→Prop},K ds→dvsK (inAs ρ xs) K
 | [],ds,h,K,hk=>by
   have:some []=some ds:=h
   cases this;exact hk
 | x :: xs,ds,h,K,hk=>by
   cases x<;>first
    | (cases (show (none:Option (List DV))=some ds from h);done)
    | (rename_i y
       replace h:(Option.rec (motive:=fun _=>Option (List DV)) none (fun l=>some (y :: l)) (dvE xs):Option (List DV))=some ds:=h
       cases hq:dvE xs with
       | none=>rw [hq] at h;cases h
       | some l =>
         rw [hq] at h
         cases h
         exact dvE_ok hq (K:=fun l=>K (y :: l)) hk)
def bdlE (tt:TypeId→Option TI) (t:TypeId) (len:Nat) (parts:List (Nat×AV)):Option AV :=
 match tt t with
 | some i=>match sliceElem i.desc with
   | some e=>match tt e with
     | some ei=>match !(Nat.beq ei.size 0)&&Nat.ble (len * ei.size) 16777216&&cellsB ei.size (avOf ei.zero) with
       | true=>match fiE (epE ei.size) parts (zerosOf (cellsOf (avOf ei.zero)) (len * ei.size)) with
         | some cs=>match dvE cs with
           | some ds=>match chE ei.size len (nrE (cellNs tt 6 e) ei.size ds 0) with
             | some xs=>some (.d (.sl ei.size xs))
             | none=>none
           | none=>none
         | none=>none
       | false=>none
     | none=>none
   | none=>none
 | none=>none
theorem bdlE_ok {ρ:Nat→Nat} {tt:TypeId→Option TI} {t:TypeId} {len:Nat} {parts:List (Nat×AV)} {v:AV} (h:bdlE tt t len parts=some v) {K:AV→Prop} (hk:K (inA ρ v)):buildDK tt t len (inP ρ parts) K:=by
 unfold bdlE at h
 unfold buildDK
 split at h
 ·rename_i i hi
  refine ttK_in hi ?_
  split at h
  ·rename_i e he
   rw [he]
   split at h
   ·rename_i ei hei
    refine ttK_in hei ?_
    split at h
    ·rename_i hb
     rw [hb,cond_true]
     split at h
     ·rename_i cs hcs
      split at h
      ·rename_i ds hd
       split at h
       ·rename_i xs hx
        cases h
        rw [← zerosOf_in (cellsZ ρ ei.zero)]
        refine fiE_ok epE_ok hcs ?_
        refine dvE_ok hd ?_
        refine nrE_ok ?_
        exact chE_ok hx hk
       ·cases h
      ·cases h
     ·cases h
    ·cases h
   ·cases h
  ·cases h
 ·cases h
end
end Go.Ab
