/- NodeFormsCard: abstract runs. -/
import Derived.Test.YtgkhgapkfnkagaaGreatDoorNodeFormsCardLye6
set_option linter.unusedVariables false
set_option linter.unusedSimpArgs false
namespace Go.Ab
noncomputable section
open Go.RowKit
def saE (L:Hp) (n:Nat) (x:AV):Option (List (List DV)) :=
 match x with
 | .d .nils=>some []
 | .d (.sl m ys)=>match Nat.beq m n with|true=>some ys|false=>none
 | .arr j=>match hG L j with
   | some (.row _ m xs _)=>match Nat.beq m n with|true=>some xs|false=>none
   | _=>none
 | _=>none
theorem saE_ok {ρ:Nat→Nat} {L:Hp} {n:Nat} {x:AV} {ys:List (List DV)} (h:saE L n x=some ys) {K:List (List DV)→Prop} (hk:K ys):srcAK (inH ρ L) n (inA ρ x) K:=by
 unfold saE at h
 split at h
 ·cases h;exact hk
 ·split at h
  ·rename_i hb
   cases h
   show (bif Nat.beq _ n then _ else _)
   rw [hb];exact hk
  ·cases h
 ·split at h
  ·rename_i hj
   split at h
   ·rename_i hb
    cases h
    refine lgetK_in (inH_at hj) ?_
    show (bif Nat.beq _ n then _ else _)
    rw [hb];exact hk
   ·cases h
  ·cases h
 ·cases h
def atE (e n bytes:Nat) (L:Hp) (s:AV) (ys:List (List DV)):Option RV :=
 match s with
 | .d .nils=>match Nat.ble (lenN ys * bytes) 140737488355328 with
   | true=>some (.arr (hN L),some (psh L (.row e n ys false)))
   | false=>none
 | .arr j=>match hG L j with
   | some (.row e' m xs sh)=>match Nat.beq m n&&Nat.beq e' e with
     | true=>match Nat.ble ((lenN xs+lenN ys) * bytes) 140737488355328 with
       | true=>some (.arr (hN L),some (psh (hS L j .dead) (.row e n (aN xs ys) sh)))
       | false=>none
     | false=>none
   | _=>none
 | _=>none
theorem atE_ok {ρ:Nat→Nat} {e n bytes:Nat} {L:Hp} {s:AV} {ys:List (List DV)} {r:RV} (h:atE e n bytes L s ys=some r):Goes ρ L r (appendTo e n bytes (inH ρ L) (inA ρ s) ys):=by
 intro K hk
 unfold atE at h
 split at h
 ·split at h
  ·rename_i hb
   cases h
   have:=Nat.le_of_ble_eq_true hb
   rw [lenN_eq] at this
   exact ⟨this,lpush_psh (ab := .row e n ys false) hk⟩
  ·cases h
 ·rename_i j
  split at h
  ·rename_i e' m xs sh hj
   split at h
   ·rename_i hb
    split at h
    ·rename_i hc
     cases h
     have:=Nat.le_of_ble_eq_true hc
     rw [lenN_eq,lenN_eq] at this
     refine lgetK_in (inH_at hj) ?_
     show (bif Nat.beq m n&&Nat.beq e' e then _ else _)
     rw [hb]
     refine ⟨this,lsetK_in (inH_lt hj) ?_⟩
     have e2:(inH ρ L).set j .dead=inH ρ (hS L j .dead):=by rw [inH_set];rfl
     rw [e2]
     refine lpush_psh (ab := .row e n (xs++ys) sh) ?_
     rw [← aN_eq]
     exact hk
    ·cases h
   ·cases h
  ·cases h
 ·cases h
def apE (tt:TypeId→Option TI) (t:TypeId) (L:Hp) (s x:AV):Option RV :=
 match tt t with
 | some i=>match sliceElem i.desc with
   | some e=>match tt e with
     | some ei=>match Nat.beq ei.size 0||Nat.beq ei.bytes 0 with
       | true=>none
       | false=>match saE L ei.size x with
         | some ys=>atE e ei.size ei.bytes L s ys
         | none=>none
     | none=>none
   | none=>none
 | none=>none
theorem apE_ok {ρ:Nat→Nat} {tt:TypeId→Option TI} {t:TypeId} {L:Hp} {s x:AV} {r:RV} (h:apE tt t L s x=some r):Goes ρ L r (appendK tt t (inH ρ L) (inA ρ s) (inA ρ x)):=by
 intro K hk
 unfold apE at h
 unfold appendK
 split at h
 ·rename_i i hi
  refine ttK_in hi ?_
  split at h
  ·rename_i e he
   rw [he]
   split at h
   ·rename_i ei hei
    refine ttK_in hei ?_
    split at h
    ·cases h
    ·rename_i hb
     rw [hb,cond_false]
     split at h
     ·rename_i ys hys
      refine saE_ok hys ?_
      exact atE_ok h K hk
     ·cases h
   ·cases h
  ·cases h
 ·cases h
def u8N (l:List UInt8):List (List DV):=List.rec (motive:=fun _=>List (List DV)) [] (fun b _ ih=>[.int .u8 (.ofNat b.toNat)] :: ih) l
theorem u8N_eq:∀ l:List UInt8,u8N l=u8s l
 | []=>rfl
 | b :: r=>by
   show [DV.int .u8 (.ofNat b.toNat)] :: u8N r=_
   rw [u8N_eq r];rfl
def apXE (tt:TypeId→Option TI) (t t':TypeId) (L:Hp) (s x:AV):Option RV :=
 match tt t' with
 | some ni=>match isStrD ni.desc with
   | true=>match tt t with
     | some i=>match sliceElem i.desc with
       | some e=>match tt e with
         | some ei=>match Nat.beq ei.size 1&&Nat.ble 1 ei.bytes&&isStrD ni.desc with
           | true=>match x with
             | .d (.str bs)=>match s with
               | .arr j=>match hG L j with
                 | some (.row e' m xs sh)=>match Nat.beq m 1&&Nat.beq e' e with
                   | true=>match Nat.ble ((lenN xs+bsLen bs) * ei.bytes) 140737488355328 with
                     | true=>some (.arr (hN L),some (psh (hS L j .dead) (.row e 1 (aN xs (u8N bs.data.toList)) sh)))
                     | false=>none
                   | false=>none
                 | _=>none
               | _=>none
             | _=>none
           | false=>none
         | none=>none
       | none=>none
     | none=>none
   | false=>none
 | none=>none
theorem apXE_ok {ρ:Nat→Nat} {tt:TypeId→Option TI} {t t':TypeId} {L:Hp} {s x:AV} {r:RV} (h:apXE tt t t' L s x=some r):Goes ρ L r (appendXK tt t t' (inH ρ L) (inA ρ s) (inA ρ x)):=by
 intro K hk
 unfold apXE at h
 unfold appendXK
 split at h
 ·rename_i ni hni
  refine ttK_in hni ?_
  split at h
  ·rename_i hs
   rw [hs]
   show appendSK tt t t' (inH ρ L) (inA ρ s) (inA ρ x) K
   unfold appendSK
   split at h
   ·rename_i i hi
    refine ttK_in hi ?_
    split at h
    ·rename_i e he
     rw [he]
     split at h
     ·rename_i ei hei
      refine ttK_in hei (ttK_in hni ?_)
      split at h
      ·rename_i hb
       show (bif Nat.beq ei.size 1&&Nat.ble 1 ei.bytes&&isStrD ni.desc then _ else _)
       rw [hb]
       split at h
       ·rename_i bs
        split at h
        ·rename_i j
         split at h
         ·rename_i e' m xs sh hj
          split at h
          ·rename_i hc
           split at h
           ·rename_i hd
            cases h
            have:=Nat.le_of_ble_eq_true hd
            rw [lenN_eq,bsLen_eq] at this
            refine lgetK_in (inH_at hj) ?_
            show (bif Nat.beq m 1&&Nat.beq e' e then _ else _)
            rw [hc]
            refine ⟨this,lsetK_in (inH_lt hj) ?_⟩
            have e2:(inH ρ L).set j .dead=inH ρ (hS L j .dead):=by rw [inH_set];rfl
            rw [e2]
            refine lpush_psh (ab := .row e 1 (xs++u8s bs.data.toList) sh) ?_
            rw [← aN_eq,← u8N_eq]
            exact hk
           ·cases h
          ·cases h
         ·cases h
        ·cases h
       ·cases h
      ·cases h
     ·cases h
    ·cases h
   ·cases h
  ·cases h
 ·cases h
def repN {α:Type} (n:Nat) (x:α):List α:=Nat.rec (motive:=fun _=>List α) [] (fun _ ih=>x :: ih) n
theorem repN_eq {α:Type} (n:Nat) (x:α):repN n x=List.replicate n x:=by
 induction n with
 | zero=>rfl
 | succ n ih =>
   show x :: repN n x=_
   rw [ih];rfl
def zdE (v:Value):Option DV :=
 match v with
 | .int k z=>some (.int k z)
 | .string s=>some (.str s)
 | .bool b=>some (.bool b)
 | _=>none
theorem zdE_ok {v:Value} {d:DV} (h:zdE v=some d) {K:DV→Prop} (hk:K d):zeroDK v K:=by
 unfold zdE at h
 split at h<;>first|(cases h;done)|(cases h;exact hk)
def msE (tt:TypeId→Option TI) (t:TypeId) (l c:AV) (L:Hp):Option RV :=
 match tt t with
 | some i=>match sliceElem i.desc with
   | some e=>match tt e with
     | some ei=>match Nat.beq ei.size 1 with
       | true=>match zdE ei.zero with
         | some d=>match l with
           | .d (.int _ n)=>match c with
             | .d (.int _ m)=>match zN n with
               | some k=>match zeq n m&&(Nat.ble (k * ei.bytes) 140737488355328&&Nat.ble k 140737488355328) with
                 | true=>some (.arr (hN L),some (psh L (.row e 1 (repN k [d]) false)))
                 | false=>none
               | none=>none
             | _=>none
           | _=>none
         | none=>none
       | false=>none
     | none=>none
   | none=>none
 | none=>none
theorem msE_ok {ρ:Nat→Nat} {tt:TypeId→Option TI} {t:TypeId} {L:Hp} {l c:AV} {r:RV} (h:msE tt t l c L=some r):Goes ρ L r (makeSliceK tt t (inA ρ l) (inA ρ c) (inH ρ L)):=by
 intro K hk
 unfold msE at h
 unfold makeSliceK
 split at h
 ·rename_i i hi
  refine ttK_in hi ?_
  split at h
  ·rename_i e he
   rw [he]
   split at h
   ·rename_i ei hei
    refine ttK_in hei ?_
    split at h
    ·rename_i hb
     rw [hb,cond_true]
     split at h
     ·rename_i d hd
      refine zdE_ok hd ?_
      split at h
      ·split at h
       ·split at h
        ·rename_i k hn
         obtain rfl:=zN_ok hn
         split at h
         ·rename_i hc
          cases h
          rw [Bool.and_eq_true,Bool.and_eq_true,zeq_eq] at hc
          have c1:=Nat.le_of_ble_eq_true hc.2.1
          have c2:=Nat.le_of_ble_eq_true hc.2.2
          refine ⟨by simpa using hc.1,by omega,c1,by omega,?_⟩
          show lpushK _ (.row e 1 (List.replicate k [d]) false) 0 _
          rw [← repN_eq]
          exact lpush_psh (ab := .row e 1 (repN k [d]) false) hk
         ·cases h
        ·cases h
       ·cases h
      ·cases h
     ·cases h
    ·cases h
   ·cases h
  ·cases h
 ·cases h
def byC (c:List DV):Option Nat :=
 match c with
 | [.int .u8 z]=>match zN z with
   | some n=>match Nat.blt n 256 with
     | true=>some n
     | false=>none
   | none=>none
 | _=>none
theorem byC_ok {c:List DV} {n:Nat} (h:byC c=some n):c=[.int .u8 ((UInt8.ofNat n).toNat:Nat)]:=by
 unfold byC at h
 split at h
 ·split at h
  ·rename_i m hn
   obtain rfl:=zN_ok hn
   split at h
   ·rename_i hb
    rw [blt_iff] at hb
    cases h
    rw [UInt8.toNat_ofNat',Nat.mod_eq_of_lt (by omega)]
   ·cases h
  ·cases h
 ·cases h
def byN (xs:List (List DV)):Option (List UInt8) :=
 List.rec (motive:=fun _=>Option (List UInt8)) (some []) (fun c _ ih=>Option.rec (motive:=fun _=>Option (List UInt8)) none (fun n=>Option.rec (motive:=fun _=>Option (List UInt8)) none (fun l=>some (UInt8.ofNat n :: l)) ih) (byC c)) xs
theorem byN_ok:∀ {xs:List (List DV)} {bs:List UInt8},byN xs=some bs→xs=u8s bs
 | [],bs,h=>by
   have:some []=some bs:=h
   cases this;rfl
 | c :: xs,bs,h=>by
   replace h:(Option.rec (motive:=fun _=>Option (List UInt8)) none (fun n=>Option.rec (motive:=fun _=>Option (List UInt8)) none (fun l=>some (UInt8.ofNat n :: l)) (byN xs)) (byC c):Option (List UInt8))=some bs:=h
   cases hc:byC c with
   | none=>rw [hc] at h;cases h
   | some n =>
     rw [hc] at h
     replace h:(Option.rec (motive:=fun _=>Option (List UInt8)) none (fun l=>some (UInt8.ofNat n :: l)) (byN xs):Option (List UInt8))=some bs:=h
     cases hl:byN xs with
     | none=>rw [hl] at h;cases h
     | some l =>
       rw [hl] at h
       cases h
       rw [byC_ok hc,byN_ok hl];rfl
def cvE (tt:TypeId→Option TI) (src dst:TypeId) (L:Hp) (x:AV):Option RV :=
 match tt src with
 | some si=>match tt dst with
   | some di=>match x with
     | .d (.int _ n)=>match intKindD di.desc with
       | some k=>some (.d (.int k (wr k n)),none)
       | none=>match fltKindD di.desc with
         | some k=>some (.d (.flt k (fnear k n)),none)
         | none=>none
     | .d (.str s)=>match di.desc with
       | .string=>some (.d (.str s),none)
       | .slice e=>match tt e with
         | some ei=>match isStrD si.desc&&isU8D ei.desc&&Nat.beq ei.size 1 with
           | true=>match Nat.ble (bsLen s) maxLen with
             | true=>some (.d (.sl 1 (u8N s.data.toList)),none)
             | false=>none
           | false=>none
         | none=>none
       | _=>none
     | .d (.sl n xs)=>match si.desc,di.desc with
       | .slice e,.string=>match tt e with
         | some ei=>match isU8D ei.desc&&Nat.beq n 1 with
           | true=>match byN xs with
             | some bs=>some (.d (.str ⟨⟨bs⟩⟩),none)
             | none=>none
           | false=>none
         | none=>none
       | _,_=>none
     | .arr j=>match hG L j with
       | some (.row e n xs _)=>match si.desc,di.desc with
         | .slice e',.string=>match tt e' with
           | some ei=>match isU8D ei.desc&&Nat.beq n 1 with
             | true=>match byN xs with
               | some bs=>some (.d (.str ⟨⟨bs⟩⟩),none)
               | none=>none
             | false=>none
           | none=>none
         | _,_=>none
       | _=>none
     | _=>none
   | none=>none
 | none=>none
theorem cvE_ok {ρ:Nat→Nat} {tt:TypeId→Option TI} {src dst:TypeId} {L:Hp} {x:AV} {r:RV} (h:cvE tt src dst L x=some r):Goes ρ L r (convertK tt src dst (inH ρ L) (inA ρ x)):=by
 intro K hk
 unfold cvE at h
 unfold convertK
 split at h
 ·rename_i si hsi
  refine ttK_in hsi ?_
  split at h
  ·rename_i di hdi
   refine ttK_in hdi ?_
   split at h
   ·split at h
    ·rename_i k hkd
     cases h
     show (match intKindD di.desc with|some k=>_|none=>_)
     rw [hkd]
     intro z hz
     rw [hz,← wr_eq];exact hk
    ·rename_i hkd
     split at h
     ·rename_i k hkf
      cases h
      show (match intKindD di.desc with|some k=>_|none=>_)
      rw [hkd]
      show (match fltKindD di.desc with|some k=>_|none=>_)
      rw [hkf]
      exact hk
     ·cases h
   ·rename_i s
    split at h
    ·rename_i hd
     cases h
     show (match di.desc with | .string=>_ | .slice e=>_|_=>_)
     rw [hd];exact hk
    ·rename_i e hd
     split at h
     ·rename_i ei hei
      split at h
      ·rename_i hb
       split at h
       ·rename_i hc
        cases h
        have:=Nat.le_of_ble_eq_true hc
        rw [bsLen_eq] at this
        show (match di.desc with | .string=>_ | .slice e=>_|_=>_)
        rw [hd]
        refine ttK_in hei ?_
        show (bif isStrD si.desc&&isU8D ei.desc&&Nat.beq ei.size 1 then _ else _)
        rw [hb]
        refine ⟨this,.inl ?_⟩
        rw [← u8N_eq];exact hk
       ·cases h
      ·cases h
     ·cases h
    ·cases h
   ·rename_i n xs
    split at h
    ·rename_i e hs hd
     split at h
     ·rename_i ei hei
      split at h
      ·rename_i hb
       split at h
       ·rename_i bs hbs
        cases h
        show (match si.desc,di.desc with | .slice e,.string=>_|_,_=>_)
        rw [hs,hd]
        refine ttK_in hei ?_
        show (bif isU8D ei.desc&&Nat.beq n 1 then _ else _)
        rw [hb]
        exact ⟨bs,byN_ok hbs,hk⟩
       ·cases h
      ·cases h
     ·cases h
    ·cases h
   ·rename_i j
    split at h
    ·rename_i e n xs sh hj
     split at h
     ·rename_i e' hs hd
      split at h
      ·rename_i ei hei
       split at h
       ·rename_i hb
        split at h
        ·rename_i bs hbs
         cases h
         refine lgetK_in (inH_at hj) ?_
         show (match si.desc,di.desc with | .slice e',.string=>_ | .slice e',.slice _=>_|_,_=>_)
         rw [hs,hd]
         refine ttK_in hei ?_
         show (bif isU8D ei.desc&&Nat.beq n 1 then _ else _)
         rw [hb]
         exact ⟨bs,byN_ok hbs,hk⟩
        ·cases h
       ·cases h
      ·cases h
     ·cases h
    ·cases h
   ·cases h
  ·cases h
 ·cases h
end
end Go.Ab
