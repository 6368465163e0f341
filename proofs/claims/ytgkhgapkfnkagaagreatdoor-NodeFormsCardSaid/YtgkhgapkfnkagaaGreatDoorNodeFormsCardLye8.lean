/- NodeFormsCard: abstract runs. -/
import Derived.Test.YtgkhgapkfnkagaaGreatDoorNodeFormsCardLye7
set_option linter.unusedVariables false
set_option linter.unusedSimpArgs false
namespace Go.Ab
noncomputable section
open Go.RowKit Go.MapKept
def kqE (a b:KV):Option Bool :=
 match a,b with
 | .one (.str s),.one (.str t)=>some (bsEq s t)
 | .one (.int k n),.one (.int k' m)=>match keq k k' with|true=>some (zeq n m)|false=>none
 | .one (.bool p),.one (.bool q)=>some (p == q)
 | _,_=>none
theorem bsEq_beq (s t:ByteArray):bsEq s t=(s == t):=by
 rw [bsEq_eq,ByteArray.toList_eq,ByteArray.toList_eq,Bool.eq_iff_iff,bytes_beq,beq_iff_eq]
 exact ⟨fun h=>ByteArray.ext (Array.ext' h),fun h=>by rw [h]⟩
theorem kqE_eq (a b:KV):kqE a b=keqM a b:=by
 unfold kqE
 split
 ·show _=some (_ == _)
  rw [bsEq_beq]
 ·rename_i k n k' m
  show _=(bif keq k k' then some (n == m) else none)
  cases h:keq k k' with
  | true=>rw [zeq_eq];rfl
  | false=>rfl
 ·rfl
 ·rename_i n1 n2 n3
  unfold keqM
  split
  ·exact (n1 _ _ rfl rfl).elim
  ·exact (n2 _ _ _ _ rfl rfl).elim
  ·exact (n3 _ _ rfl rfl).elim
  ·rfl
def mfE (key:KV) (es:List (KV×MV)):Nat→Option (Option (Nat×MV)) :=
 List.rec (motive:=fun _=>Nat→Option (Option (Nat×MV))) (fun _=>some none) (fun p _ ih j=>match kqE key p.1 with
  | some true=>some (some (j,p.2))
  | some false=>ih (Nat.succ j)
  | none=>none) es
theorem mfE_eq (key:KV):∀ (es:List (KV×MV)) (j:Nat),mfE key es j=mfind key es j
 | [],_=>rfl
 | (k,m) :: r,j=>by
   show (match kqE key k with
   | some true=>some (some (j,m))
   | some false=>mfE key r (Nat.succ j)
   | none=>none)=_
   rw [kqE_eq,mfE_eq key r,mfind]
   rfl
def inR (ρ:Nat→Nat) (r:Option (Nat×MV)):Option (Nat×MV):=r.map fun p=>(p.1,inM ρ p.2)
theorem mfind_in (ρ:Nat→Nat) (key:KV):∀ (es:List (KV×MV)) (j:Nat),mfind key (inE ρ es) j=(mfind key es j).map (inR ρ)
 | [],_=>rfl
 | (k,m) :: r,j=>by
   show mfind key ((k,inM ρ m) :: inE ρ r) j=_
   rw [mfind,mfind]
   split
   ·rfl
   ·exact mfind_in ρ key r (j+1)
   ·rfl
def kyE (d:TypeDesc) (k:AV):Option KV :=
 match keyOf k with
 | some kv=>match kdOk d kv with|true=>some kv|false=>none
 | none=>none
theorem keyOf_in (ρ:Nat→Nat) (k:AV):keyOf (inA ρ k)=keyOf k:=by
 cases k<;>first|rfl|(rename_i d;cases d<;>rfl)
theorem kyE_ok {ρ:Nat→Nat} {d:TypeDesc} {k:AV} {kv:KV} (h:kyE d k=some kv) {K:KV→Prop} (hk:K kv):keyK d (inA ρ k) K:=by
 unfold kyE at h
 unfold keyK
 rw [keyOf_in]
 split at h
 ·rename_i kv' h1
  rw [h1]
  split at h
  ·rename_i hb
   cases h
   show (bif kdOk d kv then _ else _)
   rw [hb];exact hk
  ·cases h
 ·cases h
def mtE (tt:TypeId→Option TI) (t:TypeId):Option (TI×TI×TypeId) :=
 match tt t with
 | some i=>match mapDesc i.desc with
   | some (kt,et)=>match tt kt with
     | some ki=>match tt et with
       | some ei=>some (ki,ei,et)
       | none=>none
     | none=>none
   | none=>none
 | none=>none
theorem mtE_ok {tt:TypeId→Option TI} {t:TypeId} {q:TI×TI×TypeId} (h:mtE tt t=some q) {K:TI→TI→TypeId→Prop} (hk:K q.1 q.2.1 q.2.2):mapTK tt t K:=by
 unfold mtE at h
 unfold mapTK
 split at h
 ·rename_i i hi
  refine ttK_in hi ?_
  split at h
  ·rename_i kt et hd
   rw [hd]
   split at h
   ·rename_i ki hki
    split at h
    ·rename_i ei hei
     cases h
     exact ttK_in hki (ttK_in hei hk)
    ·cases h
   ·cases h
  ·cases h
 ·cases h
def lrE (i:Nat) (z:AV) (ok:Bool) (r:Option (Nat×MV)):AV :=
 match r with
 | none=>match ok with
   | false=>z
   | true => .tup [z,.d (.bool false)]
 | some (_,.v (.one x))=>match ok with
   | false => .d x
   | true => .tup [.d x,.d (.bool true)]
 | some (_,.v (.agg cs))=>match ok with
   | false => .agg (mD cs)
   | true => .tup [.agg (mD cs),.d (.bool true)]
 | some (_,.box b _)=>match ok with
   | false => .mp i b 0
   | true => .tup [.mp i b 0,.d (.bool true)]
theorem lrE_ok {ρ:Nat→Nat} {L:List AB} {i:Nat} {z:AV} {ok:Bool} {r:Option (Nat×MV)} {K:AV→List AB→Prop} (hk:K (inA ρ (lrE i z ok r)) L):lookRes L i (inA ρ z) ok (inR ρ r) K:=by
 match r,ok with
 | none,false=>exact hk
 | none,true=>exact hk
 | some (_,.v (.one x)),false=>exact hk
 | some (_,.v (.one x)),true=>exact hk
 | some (_,.v (.agg cs)),false =>
   have e:inA ρ (lrE i z false (some (‹Nat›,.v (.agg cs)))) = .agg (cs.map AV.d):=by
    show AV.agg (inAs ρ (mD cs))=_
    rw [in_mD]
   rw [e] at hk;exact hk
 | some (_,.v (.agg cs)),true =>
   have e:inA ρ (lrE i z true (some (‹Nat›,.v (.agg cs)))) = .tup [.agg (cs.map AV.d),.d (.bool true)]:=by
    show AV.tup [.agg (inAs ρ (mD cs)),.d (.bool true)]=_
    rw [in_mD]
   rw [e] at hk;exact hk
 | some (_,.box b _),false=>exact hk
 | some (_,.box b _),true=>exact hk
def luE (tt:TypeId→Option TI) (t:TypeId) (ok:Bool) (L:Hp) (x k:AV):Option AV :=
 match mtE tt t with
 | some (ki,ei,_)=>match kyE ki.desc k with
   | some kv=>match x with
     | .map i=>match hG L i with
       | some (.map es)=>match mfE kv es 0 with
         | some r=>some (lrE i (avOf ei.zero) ok r)
         | none=>none
       | _=>none
     | _=>none
   | none=>none
 | none=>none
theorem luE_ok {ρ:Nat→Nat} {tt:TypeId→Option TI} {t:TypeId} {ok:Bool} {L:Hp} {x k v:AV} (h:luE tt t ok L x k=some v):Goes ρ L (v,none) (lookupK tt t ok (inH ρ L) (inA ρ x) (inA ρ k)):=by
 intro K hk
 unfold luE at h
 unfold lookupK
 split at h
 ·rename_i ki ei et hm
  refine mtE_ok hm ?_
  split at h
  ·rename_i kv hkv
   refine kyE_ok hkv ?_
   split at h
   ·rename_i i
    split at h
    ·rename_i es hj
     split at h
     ·rename_i r hr
      cases h
      rw [mfE_eq] at hr
      refine lgetK_in (inH_at hj) ⟨inR ρ r,?_,?_⟩
      ·rw [mfind_in,hr];rfl
      ·have e:avOf ei.zero=inA ρ (avOf ei.zero):=(inA_avOf ..).symm
       show lookRes _ i (avOf ei.zero) ok _ K
       rw [e]
       exact lrE_ok hk
     ·cases h
    ·cases h
   ·cases h
  ·cases h
 ·cases h
def kvE (v:AV) (L:Hp):Option (KV×Hp) :=
 match v with
 | .agg cs=>match tDsE cs L with
   | some (ds,L')=>some (.agg ds,L')
   | none=>none
 | v=>match oneAV v with
   | true=>match tDE v L with
     | some (d,L')=>some (.one d,L')
     | none=>none
   | false=>none
theorem kvE_ok {ρ:Nat→Nat} {v:AV} {L L':Hp} {kv:KV} (h:kvE v L=some (kv,L')) {K:KV→List AB→Prop} (hk:K kv (inH ρ L')):kvK (inA ρ v) (inH ρ L) K:=by
 have hone:(match oneAV v with
  | true=>match tDE v L with
    | some (d,L')=>some (KV.one d,L')
    | none=>none
  | false=>none)=some (kv,L')→(bif oneAV (inA ρ v) then toDK (inA ρ v) (inH ρ L) fun d L'=>K (.one d) L' else False):=by
  intro h
  rw [oneAV_in]
  split at h
  ·rename_i hb
   rw [hb]
   split at h
   ·rename_i d L1 hd
    cases h
    exact tDE_ok hd hk
   ·cases h
  ·cases h
 unfold kvE at h
 split at h
 ·split at h
  ·rename_i cs ds L1 hd
   cases h
   exact tDsE_ok hd hk
  ·cases h
 ·rename_i n1
  have:=hone h
  cases v<;>first|exact this|exact absurd rfl (n1 _)
def mpE (es:List (KV×MV)) (r:Option (Nat×MV)) (k:KV) (m:MV):List (KV×MV) :=
 match r with
 | none=>aN es [(k,m)]
 | some (j,_)=>sN es j (k,m)
theorem mpE_in (ρ:Nat→Nat) (es:List (KV×MV)) (r:Option (Nat×MV)) (k:KV) (m:MV):inE ρ (mpE es r k m)=mputAt (inE ρ es) (inR ρ r) k (inM ρ m):=by
 unfold mpE mputAt
 cases r with
 | none =>
   show inE ρ (aN es [(k,m)])=inE ρ es++[(k,inM ρ m)]
   rw [aN_eq]
   unfold inE
   rw [List.map_append];rfl
 | some p =>
   obtain ⟨j,m'⟩:=p
   show inE ρ (sN es j (k,m))=(inE ρ es).set j (k,inM ρ m)
   rw [sN_eq,inE_set]
def bxP (b m:Nat) (L:Hp):Hp:=⟨L.n,L.t,(b,m) :: L.bx⟩
theorem bxP_in (ρ:Nat→Nat) (b m:Nat) (L:Hp):inH ρ (bxP b m L)=inH ρ L:=rfl
def muE (tt:TypeId→Option TI) (t:TypeId) (L:Hp) (x k v:AV):Option Hp :=
 match mtE tt t with
 | some (ki,_,_)=>match kyE ki.desc k with
   | some kv=>match x with
     | .map i=>match v with
       | .mp _ b o=>match Nat.beq o 0 with
         | true=>match hG L i with
           | some (.map es)=>match mfE kv es 0 with
             | some r=>match bxL b L with
               | some (j,.alone,cs)=>some (bxP b i (hS (hS L j .dead) i (.map (mpE es r kv (.box b cs)))))
               | _=>none
             | none=>none
           | _=>none
         | false=>none
       | v=>match kvE v L with
         | some (dv,L1)=>match hG L1 i with
           | some (.map es)=>match mfE kv es 0 with
             | some r=>some (hS L1 i (.map (mpE es r kv (.v dv))))
             | none=>none
           | _=>none
         | none=>none
     | _=>none
   | none=>none
 | none=>none
theorem muE_ok {ρ:Nat→Nat} {tt:TypeId→Option TI} {t:TypeId} {L L':Hp} {x k v:AV} (h:muE tt t L x k v=some L') {K:List AB→Prop} (hk:K (inH ρ L')):mapUpdateK tt t (inH ρ L) (inA ρ x) (inA ρ k) (inA ρ v) K:=by
 unfold muE at h
 unfold mapUpdateK
 split at h
 ·rename_i ki ei et hm
  refine mtE_ok hm ?_
  split at h
  ·rename_i kv hkv
   refine kyE_ok hkv ?_
   split at h
   ·rename_i i
    have hval:(match kvE v L with
     | some (dv,L1)=>match hG L1 i with
       | some (.map es)=>match mfE kv es 0 with
         | some r=>some (hS L1 i (.map (mpE es r kv (.v dv))))
         | none=>none
       | _=>none
     | none=>none)=some L'→(kvK (inA ρ v) (inH ρ L) fun dv L1=>lgetK L1 i fun ab=>match ab with
    | .map es=>∃ r,mfind kv es 0=some r∧lsetK L1 i (.map (mputAt es r kv (.v dv))) K
    | _=>False):=by
      intro h
      split at h
      ·rename_i dv L1 hd
       split at h
       ·rename_i es hj
        split at h
        ·rename_i r hr
         cases h
         rw [mfE_eq] at hr
         refine kvE_ok hd (lgetK_in (inH_at hj) ⟨inR ρ r,by rw [mfind_in,hr];rfl,lsetK_in (inH_lt hj) ?_⟩)
         rw [inH_set] at hk
         have e:inB ρ (.map (mpE es r kv (.v dv))) = .map (mputAt (inE ρ es) (inR ρ r) kv (.v dv)):=by
          show AB.map (inE ρ _)=_
          rw [mpE_in];rfl
         rw [e] at hk;exact hk
        ·cases h
       ·cases h
      ·cases h
    split at h
    ·rename_i ii b o
     split at h
     ·rename_i hb
      split at h
      ·rename_i es hj
       split at h
       ·rename_i r hr
        split at h
        ·rename_i j cs hp
         cases h
         rw [mfE_eq] at hr
         obtain ⟨ab,hp2,hp3⟩:=bxL_ok hp
         rw [show ab = .pool b cs from hp3] at hp2
         rw [bxP_in] at hk
         show (bif Nat.beq o 0 then _ else _)
         rw [hb]
         refine lgetK_in (inH_at hj) ⟨inR ρ r,j,cs,by rw [mfind_in,hr];rfl,inH_at hp2,fun L'' e => ?_⟩
         rw [e]
         rw [inH_set,inH_set] at hk
         have e:inB ρ (.map (mpE es r kv (.box b cs))) = .map (mputAt (inE ρ es) (inR ρ r) kv (.box (ρ b) cs)):=by
          show AB.map (inE ρ _)=_
          rw [mpE_in];rfl
         rw [e] at hk;exact hk
        ·cases h
       ·cases h
      ·cases h
     ·cases h
    ·rename_i n1
     have:=hval h
     cases v<;>first|exact this|exact absurd rfl (n1 _ _ _)
   ·cases h
  ·cases h
 ·cases h
end
end Go.Ab
