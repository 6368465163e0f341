/- NodeFormsCard: abstract runs. -/
import Derived.Test.YtgkhgapkfnkagaaGreatDoorNodeFormsCardLye3
set_option linter.unusedVariables false
set_option linter.unusedSimpArgs false
namespace Go.Ab
noncomputable section
open Go.RowKit
def zN (z:Int):Option Nat :=
 match z with
 | .ofNat n=>some n
 | .negSucc _=>none
theorem zN_ok {z:Int} {n:Nat} (h:zN z=some n):z=(n:Int):=by
 cases z with
 | ofNat m=>cases h;rfl
 | negSucc m=>cases h
def iaE (tt:TypeId→Option TI) (t:TypeId) (L:Hp) (x ix:AV):Option AV :=
 match ix with
 | .d (.int _ z)=>match zN z with
   | some n=>match tt t with
     | some i=>match sliceElem i.desc with
       | some e=>match tt e with
         | some ei=>match x with
           | .d (.sl m xs)=>match Nat.beq ei.size m with
             | true=>match gN xs n with
               | some cs=>some (.im cs 0)
               | none=>none
             | false=>none
           | .arr j=>match hG L j with
             | some (.row _ m xs _)=>match Nat.beq ei.size m with
               | true=>match gN xs n with
                 | some _=>some (.ap j n 0)
                 | none=>none
               | false=>none
             | some (.cells cs)=>match Nat.beq ei.size 1 with
               | true=>match gN cs n with
                 | some _=>some (.ptr j n)
                 | none=>none
               | false=>none
             | _=>none
           | _=>none
         | none=>none
       | none=>none
     | none=>none
   | none=>none
 | _=>none
theorem iaE_ok {ρ:Nat→Nat} {tt:TypeId→Option TI} {t:TypeId} {L:Hp} {x ix v:AV} (h:iaE tt t L x ix=some v) {K:AV→Prop} (hk:K (inA ρ v)):indexAddrK tt t (inH ρ L) (inA ρ x) (inA ρ ix) K:=by
 unfold iaE at h
 split at h
 ·rename_i kk z
  split at h
  ·rename_i n hn
   obtain rfl:=zN_ok hn
   split at h
   ·rename_i i hi
    show ttK _ _ _
    refine ttK_in hi ?_
    split at h
    ·rename_i e he
     rw [he]
     split at h
     ·rename_i ei hei
      refine ttK_in hei ?_
      split at h
      ·rename_i m xs
       split at h
       ·rename_i hb
        split at h
        ·rename_i cs hcs
         cases h
         rw [gN_eq] at hcs
         show (bif Nat.beq ei.size m then _ else _)
         rw [hb]
         exact ⟨by omega,cs,hcs,hk⟩
        ·cases h
       ·cases h
      ·rename_i j
       split at h
       ·rename_i e' m xs sh hj
        refine lgetK_in (inH_at hj) ?_
        split at h
        ·rename_i hb
         split at h
         ·rename_i cs hcs
          cases h
          rw [gN_eq] at hcs
          have hlt:=(List.getElem?_eq_some_iff.1 hcs).1
          show (bif Nat.beq ei.size m then _ else _)
          rw [hb]
          exact ⟨by omega,hlt,hk⟩
         ·cases h
        ·cases h
       ·rename_i cs hj
        refine lgetK_in (inH_at hj) ?_
        split at h
        ·rename_i hb
         split at h
         ·rename_i c hcs
          cases h
          rw [gN_eq] at hcs
          have hlt:=(List.getElem?_eq_some_iff.1 hcs).1
          show (bif Nat.beq ei.size 1 then _ else _)
          rw [hb]
          exact ⟨by omega,by rw [inAs_len];exact hlt,hk⟩
         ·cases h
        ·cases h
       ·cases h
      ·cases h
     ·cases h
    ·cases h
   ·cases h
  ·cases h
 ·cases h
def bsGet (s:ByteArray) (n:Nat):Option UInt8:=gN s.data.toList n
theorem bsGet_eq (s:ByteArray) (n:Nat):bsGet s n=s[n]? := by
 unfold bsGet
 rw [gN_eq]
 by_cases h:n<s.size
 ·rw [getElem?_pos s n h]
  have h2:n<s.data.toList.length:=by rw [Array.length_toList];exact h
  rw [List.getElem?_eq_getElem h2,Array.getElem_toList];rfl
 ·rw [getElem?_neg s n h]
  exact List.getElem?_eq_none (by rw [Array.length_toList];exact Nat.le_of_not_lt h)
def ixE (tt:TypeId→Option TI) (t:TypeId) (x ix:AV):Option AV :=
 match x,ix with
 | .d (.str s),.d (.int _ z)=>match zN z with
   | some n=>match tt t with
     | some i=>match isStrD i.desc with
       | true=>match bsGet s n with
         | some b=>some (.d (.int .u8 (.ofNat b.toNat)))
         | none=>none
       | false=>none
     | none=>none
   | none=>none
 | _,_=>none
theorem ixE_ok {ρ:Nat→Nat} {tt:TypeId→Option TI} {t:TypeId} {x ix v:AV} (h:ixE tt t x ix=some v) {K:AV→Prop} (hk:K (inA ρ v)):indexK tt t (inA ρ x) (inA ρ ix) K:=by
 unfold ixE at h
 split at h
 ·rename_i s kk z
  split at h
  ·rename_i n hn
   obtain rfl:=zN_ok hn
   split at h
   ·rename_i i hi
    show ttK _ _ _
    refine ttK_in hi ?_
    split at h
    ·rename_i hb
     split at h
     ·rename_i b hbb
      cases h
      rw [bsGet_eq] at hbb
      show (bif isStrD i.desc then _ else _)
      rw [hb]
      exact ⟨by omega,b,hbb,hk⟩
     ·cases h
    ·cases h
   ·cases h
  ·cases h
 ·cases h
def bdE (d:Nat) (x:Option AV):Option Nat :=
 match x with
 | none=>some d
 | some (.d (.int _ z))=>zN z
 | some _=>none
theorem bdE_ok {ρ:Nat→Nat} {d n:Nat} {x:Option AV} (h:bdE d x=some n) {K:Int→Prop} (hk:K n):boundK d (x.map (inA ρ)) K:=by
 unfold bdE at h
 split at h
 ·cases h;exact hk
 ·rename_i kk z
  obtain rfl:=zN_ok h
  exact hk
 ·cases h
def bsSub (s:ByteArray) (l h:Nat):ByteArray:=ByteArray.mk (Array.mk (Option.rec (motive:=fun _=>List UInt8) [] (fun r=>Option.rec (motive:=fun _=>List UInt8) [] (fun q=>q) (dpN l r)) (tkN h s.data.toList)))
theorem tkN_in {α:Type}:∀ {n:Nat} {l:List α},n≤l.length→tkN n l=some (l.take n)
 | 0,l,_=>by rw [List.take_zero];rfl
 | n+1,[],h=>by simp at h
 | n+1,c :: l,h=>by
   show (Option.rec (motive:=fun _=>Option (List α)) none (fun t=>some (c :: t)) (tkN n l):Option (List α))=_
   rw [tkN_in (by simpa using h)];rfl
theorem dpN_in {α:Type}:∀ {n:Nat} {l:List α},n≤l.length→dpN n l=some (l.drop n)
 | 0,l,_=>by rw [List.drop_zero];rfl
 | n+1,[],h=>by simp at h
 | n+1,c :: l,h=>by
   show dpN n l=_
   rw [dpN_in (by simpa using h)];rfl
theorem bsSub_eq {s:ByteArray} {l h:Nat} (h1:l≤h) (h2:h≤s.size):bsSub s l h=s.extract l h:=by
 have hl:s.data.toList.length=s.size:=by rw [Array.length_toList];rfl
 unfold bsSub
 rw [tkN_in (by omega)]
 show ByteArray.mk (Array.mk (Option.rec (motive:=fun _=>List UInt8) [] (fun q=>q) (dpN l (s.data.toList.take h))))=_
 rw [dpN_in (by rw [List.length_take];omega)]
 apply ByteArray.ext
 rw [ByteArray.data_extract]
 apply Array.ext'
 rw [Array.toList_extract]
 show (s.data.toList.take h).drop l=_
 rw [List.extract_eq_take_drop,List.drop_take]
def subN {α:Type} (l h:Nat) (xs:List α):Option (List α) :=
 match Nat.ble l h with
 | true=>match tkN h xs with
   | some r=>dpN l r
   | none=>none
 | false=>none
theorem subN_ok {α:Type} {l h:Nat} {xs r:List α} (e:subN l h xs=some r):l≤h∧h≤xs.length∧r=(xs.take h).drop l:=by
 unfold subN at e
 split at e
 ·rename_i hb
  split at e
  ·rename_i q hq
   obtain ⟨h1,rfl⟩:=tkN_ok hq
   obtain ⟨_,rfl⟩:=dpN_ok e
   exact ⟨Nat.le_of_ble_eq_true hb,h1,rfl⟩
  ·cases e
 ·cases e
abbrev RV:=AV×Option Hp
def up (m:Option Hp) (L:Hp):Hp:=match m with|none=>L|some l=>l
def Goes (ρ:Nat→Nat) (L:Hp) (r:RV) (X:(AV→List AB→Prop)→Prop):Prop:=∀ K:AV→List AB→Prop,K (inA ρ r.1) (inH ρ (up r.2 L))→X K
def slE (tt:TypeId→Option TI) (t:TypeId) (L:Hp) (x:AV) (lo hi:Option AV):Option RV :=
 match tt t with
 | some i=>match bdE 0 lo with
   | some l=>match x with
     | .d (.str s)=>match isStrD i.desc with
       | true=>match bdE (bsLen s) hi with
         | some h=>match Nat.ble l h&&Nat.ble h (bsLen s) with
           | true=>some (.d (.str (bsSub s l h)),none)
           | false=>none
         | none=>none
       | false=>none
     | .d (.sl n xs)=>match sliceElem i.desc with
       | some e=>match tt e with
         | some ei=>match Nat.beq ei.size n with
           | true=>match bdE (lenN xs) hi with
             | some h=>match subN l h xs with
               | some r=>some (.d (.sl n r),none)
               | none=>none
             | none=>none
           | false=>none
         | none=>none
       | none=>none
     | .d .nils=>match sliceElem i.desc with
       | some e=>match tt e with
         | some _=>match bdE 0 hi with
           | some h=>match Nat.beq l 0&&Nat.beq h 0 with
             | true=>some (.d .nils,none)
             | false=>none
           | none=>none
         | none=>none
       | none=>none
     | .arr j=>match sliceElem i.desc with
       | some e=>match tt e with
         | some ei=>match hG L j with
           | some (.row e' n xs _)=>match Nat.beq ei.size n with
             | true=>match bdE (lenN xs) hi with
               | some h=>match subN l h xs with
                 | some r=>some (.d (.sl n r),some (hS L j (.row e' n xs true)))
                 | none=>none
               | none=>none
             | false=>none
           | _=>none
         | none=>none
       | none=>none
     | _=>none
   | none=>none
 | none=>none
theorem slE_ok {ρ:Nat→Nat} {tt:TypeId→Option TI} {t:TypeId} {L:Hp} {x:AV} {lo hi:Option AV} {r:RV} (h:slE tt t L x lo hi=some r):Goes ρ L r (sliceK tt t (inH ρ L) (inA ρ x) (lo.map (inA ρ)) (hi.map (inA ρ))):=by
 intro K hk
 unfold slE at h
 unfold sliceK
 split at h
 ·rename_i i hi'
  refine ttK_in hi' ?_
  split at h
  ·rename_i l hl
   refine bdE_ok (d:=0) hl ?_
   split at h
   ·rename_i s
    split at h
    ·rename_i hb
     split at h
     ·rename_i hh hhh
      split at h
      ·rename_i hc
       cases h
       rw [bsLen_eq] at hhh hc
       rw [Bool.and_eq_true] at hc
       have c1:=Nat.le_of_ble_eq_true hc.1
       have c2:=Nat.le_of_ble_eq_true hc.2
       show (bif isStrD i.desc then _ else _)
       rw [hb,cond_true]
       refine bdE_ok hhh ?_
       refine ⟨by omega,by omega,by omega,?_⟩
       show K (.d (.str (s.extract l hh))) _
       rw [← bsSub_eq c1 c2];exact hk
      ·cases h
     ·cases h
    ·cases h
   ·rename_i n xs
    split at h
    ·rename_i e he
     split at h
     ·rename_i ei hei
      split at h
      ·rename_i hb
       split at h
       ·rename_i hh hhh
        split at h
        ·rename_i q hq
         cases h
         rw [lenN_eq] at hhh
         obtain ⟨c1,c2,rfl⟩:=subN_ok hq
         show (match sliceElem i.desc with|some e=>_|none=>_)
         rw [he]
         refine ttK_in hei ?_
         show (bif Nat.beq ei.size n then _ else _)
         rw [hb,cond_true]
         refine bdE_ok hhh ?_
         exact ⟨by omega,by omega,by omega,hk⟩
        ·cases h
       ·cases h
      ·cases h
     ·cases h
    ·cases h
   ·split at h
    ·rename_i e he
     split at h
     ·rename_i ei hei
      split at h
      ·rename_i hh hhh
       split at h
       ·rename_i hc
        cases h
        rw [Bool.and_eq_true] at hc
        have c1:=Nat.eq_of_beq_eq_true hc.1
        have c2:=Nat.eq_of_beq_eq_true hc.2
        subst c1 c2
        show (match sliceElem i.desc with|some e=>_|none=>_)
        rw [he]
        refine ttK_in hei ?_
        refine bdE_ok (d:=0) hhh ?_
        exact ⟨rfl,rfl,hk⟩
       ·cases h
      ·cases h
     ·cases h
    ·cases h
   ·rename_i j
    split at h
    ·rename_i e he
     split at h
     ·rename_i ei hei
      split at h
      ·rename_i e' n xs sh hj
       split at h
       ·rename_i hb
        split at h
        ·rename_i hh hhh
         split at h
         ·rename_i q hq
          cases h
          rw [lenN_eq] at hhh
          obtain ⟨c1,c2,rfl⟩:=subN_ok hq
          show (match sliceElem i.desc with|some e=>_|none=>_)
          rw [he]
          refine ttK_in hei (lgetK_in (inH_at hj) ?_)
          show (bif Nat.beq ei.size n then _ else _)
          rw [hb,cond_true]
          refine bdE_ok hhh ?_
          refine .inl (lsetK_in (inH_lt hj) ?_)
          refine ⟨by omega,by omega,by omega,?_⟩
          have e2:inH ρ (hS L j (.row e' n xs true))=(inH ρ L).set j (.row e' n xs true):=inH_set ..
          rw [← e2]
          exact hk
         ·cases h
        ·cases h
       ·cases h
      ·cases h
     ·cases h
    ·cases h
   ·cases h
  ·cases h
 ·cases h
def intE (op:BinOp) (k:IntKind) (a b:Int):Option AV :=
 match op with
 | .add=>some (.d (.int k (wr k (Int.add a b))))
 | .sub=>some (.d (.int k (wr k (Int.sub a b))))
 | .mul=>some (.d (.int k (wr k (Int.mul a b))))
 | .quo=>match zeq b 0 with|true=>none|false=>some (.d (.int k (wr k (a.tdiv b))))
 | .rem=>match zeq b 0 with|true=>none|false=>some (.d (.int k (a.tmod b)))
 | .and=>some (.d (.int k (iand k a b)))
 | .or=>some (.d (.int k (ior k a b)))
 | .xor=>some (.d (.int k (ixor k a b)))
 | .eql=>some (.d (.bool (zeq a b)))
 | .neq=>some (.d (.bool (!(zeq a b))))
 | .lss=>some (.d (.bool (zlt a b)))
 | .leq=>some (.d (.bool (zle a b)))
 | .gtr=>some (.d (.bool (zlt b a)))
 | .geq=>some (.d (.bool (zle b a)))
 | _=>none
theorem zeq_no {b:Int} (h:zeq b 0=false):b≠0:=by
 rw [zeq_eq] at h
 intro e
 subst e
 cases h
theorem intE_ok {ρ:Nat→Nat} {op:BinOp} {k:IntKind} {a b:Int} {v:AV} (h:intE op k a b=some v) {K:AV→Prop} (hk:K (inA ρ v)):intK op k a b K:=by
 cases op<;>simp only [intE] at h<;>first
  | (cases h;done)
  | (cases h;intro z hz;rw [hz,← wr_eq];exact hk)
  | (cases h;intro z hz;rw [hz];exact hk)
  | (cases h;show K (.d (.bool (a == b)));rw [← zeq_eq];exact hk)
  | (cases h;show K (.d (.bool (!(a == b))));rw [← zeq_eq];exact hk)
  | (cases h;show K (.d (.bool (decide (a<b))));rw [← zlt_eq];exact hk)
  | (cases h;show K (.d (.bool (decide (a≤b))));rw [← zle_eq];exact hk)
  | (cases h;show K (.d (.bool (decide (b<a))));rw [← zlt_eq];exact hk)
  | (cases h;show K (.d (.bool (decide (b≤a))));rw [← zle_eq];exact hk)
  | (split at h
     ·cases h
     ·rename_i hz0
      cases h
      refine ⟨zeq_no hz0,fun z hz => ?_⟩
      rw [hz]
      first|exact hk|(rw [← wr_eq];exact hk))
end
end Go.Ab
