/- NodeFormsCard: abstract runs. -/
import Derived.Test.YtgkhgapkfnkagaaGreatDoorNodeFormsCardLycl
set_option linter.unusedVariables false
set_option linter.unusedSimpArgs false
namespace Go.Ab
noncomputable section
open Go.RowKit
def gN {α:Type} (l:List α):Nat→Option α :=
 List.rec (motive:=fun _=>Nat→Option α) (fun _=>none) (fun c _ ih n=>Nat.rec (motive:=fun _=>Option α) (some c) (fun m _=>ih m) n) l
theorem gN_eq {α:Type}:∀ (l:List α) (n:Nat),gN l n=l[n]?
 | [],_=>rfl
 | _ :: _,0=>rfl
 | _ :: r,n+1=>by
   rw [List.getElem?_cons_succ,← gN_eq r n];rfl
def sN {α:Type} (l:List α):Nat→α→List α :=
 List.rec (motive:=fun _=>Nat→α→List α) (fun _ _=>[]) (fun c r ih n x=>Nat.rec (motive:=fun _=>List α) (x :: r) (fun m _=>c :: ih m x) n) l
theorem sN_eq {α:Type}:∀ (l:List α) (n:Nat) (x:α),sN l n x=l.set n x
 | [],_,_=>rfl
 | _ :: _,0,_=>rfl
 | c :: r,n+1,x=>by
   rw [List.set_cons_succ,← sN_eq r n x];rfl
def aN {α:Type} (l m:List α):List α:=List.rec (motive:=fun _=>List α) m (fun c _ ih=>c :: ih) l
theorem aN_eq {α:Type}:∀ (l m:List α),aN l m=l++m
 | [],_=>rfl
 | c :: r,m=>by
   show c :: aN r m=_
   rw [aN_eq r m];rfl
def lenN {α:Type} (l:List α):Nat:=List.rec (motive:=fun _=>Nat) 0 (fun _ _ ih=>Nat.succ ih) l
theorem lenN_eq {α:Type}:∀ l:List α,lenN l=l.length
 | []=>rfl
 | _ :: r=>by
   show Nat.succ (lenN r)=_
   rw [lenN_eq r];rfl
def tkN {α:Type} (n:Nat):List α→Option (List α) :=
 Nat.rec (motive:=fun _=>List α→Option (List α)) (fun _=>some []) (fun _ ih l=>List.rec (motive:=fun _=>Option (List α)) none (fun c r _=>Option.rec (motive:=fun _=>Option (List α)) none (fun t=>some (c :: t)) (ih r)) l) n
theorem tkN_ok {α:Type}:∀ {n:Nat} {l r:List α},tkN n l=some r→n≤l.length∧r=l.take n
 | 0,_,r,h=>by
   have:some []=some r:=h
   cases this
   exact ⟨Nat.zero_le _,by simp⟩
 | n+1,[],r,h=>by cases (show (none:Option (List α))=some r from h)
 | n+1,c :: l,r,h=>by
   replace h:(Option.rec (motive:=fun _=>Option (List α)) none (fun t=>some (c :: t)) (tkN n l):Option (List α))=some r:=h
   cases ht:tkN n l with
   | none=>rw [ht] at h;cases h
   | some t =>
     rw [ht] at h
     cases h
     obtain ⟨h1,rfl⟩:=tkN_ok ht
     exact ⟨by simp;omega,by simp⟩
def dpN {α:Type} (n:Nat):List α→Option (List α) :=
 Nat.rec (motive:=fun _=>List α→Option (List α)) (fun l=>some l) (fun _ ih l=>List.rec (motive:=fun _=>Option (List α)) none (fun _ r _=>ih r) l) n
theorem dpN_ok {α:Type}:∀ {n:Nat} {l r:List α},dpN n l=some r→n≤l.length∧r=l.drop n
 | 0,l,r,h=>by
   have:some l=some r:=h
   cases this
   exact ⟨Nat.zero_le _,by simp⟩
 | n+1,[],r,h=>by cases (show (none:Option (List α))=some r from h)
 | n+1,c :: l,r,h=>by
   obtain ⟨h1,rfl⟩:=tkd (show dpN n l=some r from h)
   exact ⟨by simp;omega,by simp⟩
where tkd {α:Type} {n:Nat} {l r:List α} (h:dpN n l=some r):n≤l.length∧r=l.drop n:=dpN_ok h
theorem nthK_in:∀ {cs:List AV} {n:Nat} {c:AV} {K:AV→Prop},cs[n]? = some c→K c→nthK cs n K
 | [],_,_,_,h,_=>by simp at h
 | c :: _,0,_,_,h,k=>by simp at h;subst h;exact k
 | _ :: r,n+1,c,K,h,k=>nthK_in (cs:=r) (n:=n) (by simpa using h) k
theorem takeK_in {α:Type}:∀ {n:Nat} {cs:List α} {K:List α→Prop},n≤cs.length→K (cs.take n)→takeK n cs K
 | 0,cs,K,_,h=>by rw [List.take_zero] at h;exact h
 | _+1,[],K,h,_=>by simp at h
 | n+1,c :: r,K,h,k=>takeK_in (n:=n) (cs:=r) (by simpa using h) (by simpa using k)
theorem dropK_in {α:Type}:∀ {n:Nat} {cs:List α} {K:List α→Prop},n≤cs.length→K (cs.drop n)→dropK n cs K
 | 0,cs,K,_,h=>by rw [List.drop_zero] at h;exact h
 | _+1,[],K,h,_=>by simp at h
 | n+1,c :: r,K,h,k=>dropK_in (n:=n) (cs:=r) (by simpa using h) (by simpa using k)
theorem lgetK_in:∀ {cs:List AB} {n:Nat} {c:AB} {K:AB→Prop},cs[n]? = some c→K c→lgetK cs n K
 | [],_,_,_,h,_=>by simp at h
 | c :: _,0,_,_,h,k=>by simp at h;subst h;exact k
 | _ :: r,n+1,c,K,h,k=>lgetK_in (cs:=r) (n:=n) (by simpa using h) k
theorem lsetK_in:∀ {cs:List AB} {n:Nat} {x:AB} {K:List AB→Prop},n<cs.length→K (cs.set n x)→lsetK cs n x K
 | [],_,_,_,h,_=>by simp at h
 | c :: _,0,_,_,_,k=>by rw [List.set_cons_zero] at k;exact k
 | c :: r,n+1,x,K,h,k=>lsetK_in (cs:=r) (n:=n) (x:=x) (K:=fun l=>K (c :: l)) (by simpa using h) (by simpa using k)
theorem lpushK_in:∀ {cs:List AB} {x:AB} {n:Nat} {K:Nat→List AB→Prop},K (n+cs.length) (cs++[x])→lpushK cs x n K
 | [],x,n,K,h=>by
   have h2:K (n+0) [x]:=h
   rw [Nat.add_zero] at h2
   exact h2
 | c :: r,x,n,K,h=>by
   have e:n+(c :: r).length=n+1+r.length:=by simp;omega
   rw [e] at h
   exact lpushK_in (cs:=r) (x:=x) (n:=n+1) (K:=fun i l=>K i (c :: l)) h
theorem ttK_in {tt:TypeId→Option TI} {t:TypeId} {i:TI} {K:TI→Prop} (h:tt t=some i) (k:K i):ttK tt t K:=by unfold ttK;rw [h];exact k
def pO {α:Type} (cs:List α):Nat→List α→Option (List α) :=
 List.rec (motive:=fun _=>Nat→List α→Option (List α)) (fun _ vs=>List.rec (motive:=fun _=>Option (List α)) (some []) (fun _ _ _=>none) vs)
  (fun c r ih n vs=>List.rec (motive:=fun _=>Option (List α)) (some (c :: r)) (fun v vs' _=>Nat.rec (motive:=fun _=>Option (List α)) (Option.rec (motive:=fun _=>Option (List α)) none (fun l=>some (v :: l)) (ih 0 vs')) (fun m _=>Option.rec (motive:=fun _=>Option (List α)) none (fun l=>some (c :: l)) (ih m (v :: vs'))) n) vs) cs
theorem pO_ok {α:Type}:∀ {cs:List α} {n:Nat} {vs l:List α},pO cs n vs=some l→(vs=[]∨n+vs.length≤cs.length)∧l=cs.take n++vs++cs.drop (n+vs.length)
 | cs,n,[],l,h=>by
   have:pO cs n []=some cs:=by cases cs<;>rfl
   rw [this] at h
   cases h
   exact ⟨.inl rfl,by simp⟩
 | [],n,v :: vs,l,h=>by cases (show (none:Option (List α))=some l from h)
 | c :: cs,0,v :: vs,l,h=>by
   replace h:(Option.rec (motive:=fun _=>Option (List α)) none (fun l=>some (v :: l)) (pO cs 0 vs):Option (List α))=some l:=h
   cases ht:pO cs 0 vs with
   | none=>rw [ht] at h;cases h
   | some t =>
     rw [ht] at h
     cases h
     obtain ⟨h1,rfl⟩:=pO_ok ht
     refine ⟨.inr ?_,by simp⟩
     rcases h1 with rfl|h1
     ·simp
     ·simp at h1 ⊢;omega
 | c :: cs,n+1,v :: vs,l,h=>by
   replace h:(Option.rec (motive:=fun _=>Option (List α)) none (fun l=>some (c :: l)) (pO cs n (v :: vs)):Option (List α))=some l:=h
   cases ht:pO cs n (v :: vs) with
   | none=>rw [ht] at h;cases h
   | some t =>
     rw [ht] at h
     cases h
     obtain ⟨h1,rfl⟩:=pO_ok ht
     refine ⟨.inr ?_,?_⟩
     ·rcases h1 with h1|h1
      ·cases h1
      ·simp at h1 ⊢;omega
     ·have e:n+1+(v :: vs).length=(n+(v :: vs).length)+1:=by omega
      rw [e,List.drop_succ_cons,List.take_succ_cons]
      simp
theorem putK_in:∀ {cs:List AV} {n:Nat} {vs:List AV} {K:List AV→Prop},(vs=[]∨n+vs.length≤cs.length)→K (over cs n vs)→putK cs n vs K
 | cs,n,[],K,_,h=>by
   have:putK cs n [] K=K cs:=by cases cs<;>cases n<;>rfl
   rw [this]
   simpa [over] using h
 | [],n,v :: vs,K,h,_=>by
   rcases h with h|h
   ·cases h
   ·simp at h
 | c :: cs,n+1,v :: vs,K,h,k=>by
   refine putK_in (cs:=cs) (n:=n) (vs:=v :: vs) (K:=fun l=>K (c :: l)) (.inr ?_) ?_
   ·rcases h with h|h
    ·cases h
    ·simp at h ⊢;omega
   ·have e:n+1+(v :: vs).length=(n+(v :: vs).length)+1:=by omega
    simp only [over] at k ⊢
    rw [e,List.drop_succ_cons,List.take_succ_cons] at k
    simpa using k
 | c :: cs,0,v :: vs,K,h,k=>by
   refine putK_in (cs:=cs) (n:=0) (vs:=vs) (K:=fun l=>K (v :: l)) ?_ ?_
   ·rcases h with h|h
    ·cases h
    ·simp at h
     rcases Nat.eq_zero_or_pos vs.length with h0|h0
     ·exact .inl (List.eq_nil_of_length_eq_zero h0)
     ·exact .inr (by omega)
   ·simp only [over,Nat.zero_add,List.take_zero,List.nil_append] at k ⊢
    simpa using k
inductive Tr (α:Type) where
 | leaf
 | node (v:α) (l r:Tr α)
def pathF (fuel:Nat):Nat→List Bool :=
 Nat.rec (motive:=fun _=>Nat→List Bool) (fun _=>[]) (fun _ ih s=>Bool.rec (motive:=fun _=>List Bool) (Nat.beq (Nat.mod s 2) 0 :: ih (Nat.div (Nat.pred s) 2)) [] (Nat.beq s 0)) fuel
def pathOf (s:Nat):List Bool:=pathF (Nat.succ s) s
theorem pathF_s (n s:Nat):pathF (n+1) s=if s=0 then [] else Nat.beq (s % 2) 0 :: pathF n ((s - 1) / 2):=by
 by_cases h:s=0
 ·subst h;rfl
 ·rw [if_neg h]
  show (Bool.rec (motive:=fun _=>List Bool) _ _ (Nat.beq s 0):List Bool)=_
  have hb:Nat.beq s 0=false:=by
   cases hc:Nat.beq s 0 with
   | false=>rfl
   | true=>exact absurd (Nat.eq_of_beq_eq_true hc) h
  rw [hb]
  rfl
theorem pathF_inj:∀ (n s t:Nat),s<2 ^ n→t<2 ^ n→pathF n s=pathF n t→s=t
 | 0,s,t,h1,h2,_=>by simp at h1 h2;omega
 | n+1,s,t,h1,h2,h=>by
   rw [pathF_s,pathF_s] at h
   by_cases hs:s=0
   ·rw [if_pos hs] at h
    by_cases ht:t=0
    ·omega
    ·rw [if_neg ht] at h;cases h
   ·rw [if_neg hs] at h
    by_cases ht:t=0
    ·rw [if_pos ht] at h;cases h
    ·rw [if_neg ht] at h
     injection h with e1 e2
     have h3:=pathF_inj n _ _ (by rw [Nat.pow_succ] at h1;omega) (by rw [Nat.pow_succ] at h2;omega) e2
     have e3:(s % 2=0)↔(t % 2=0):=by
      rw [← Nat.beq_eq,← Nat.beq_eq,e1]
     omega
theorem pathF_up:∀ (n s:Nat),s<2 ^ n→pathF (n+1) s=pathF n s
 | 0,s,h=>by
   have:s=0:=by simp at h;omega
   subst this;rfl
 | n+1,s,h=>by
   rw [pathF_s (n+1) s]
   by_cases hs:s=0
   ·rw [if_pos hs,pathF_s n,if_pos hs]
   ·rw [if_neg hs,pathF_s n s,if_neg hs,pathF_up n _ (by rw [Nat.pow_succ] at h;omega)]
theorem pathF_add (n s:Nat) (h:s<2 ^ n):∀ k,pathF (n+k) s=pathF n s
 | 0=>rfl
 | k+1=>by
   rw [← Nat.add_assoc,pathF_up (n+k) s (Nat.lt_of_lt_of_le h (Nat.pow_le_pow_right (by decide) (Nat.le_add_right ..))),pathF_add n s h k]
theorem pathOf_inj {s t:Nat} (h:pathOf s=pathOf t):s=t:=by
 have lt2:∀ n:Nat,n<2 ^ (n+1):=fun n=>Nat.lt_of_lt_of_le (Nat.lt_two_pow_self (n:=n)) (Nat.pow_le_pow_right (by decide) (Nat.le_succ n))
 have h1:pathF (s+1+(t+1)) s=pathOf s:=pathF_add (s+1) s (lt2 s) (t+1)
 have h2:pathF (t+1+(s+1)) t=pathOf t:=pathF_add (t+1) t (lt2 t) (s+1)
 rw [Nat.add_comm (t+1)] at h2
 exact pathF_inj (s+1+(t+1)) s t (Nat.lt_of_lt_of_le (lt2 s) (Nat.pow_le_pow_right (by decide) (by omega))) (Nat.lt_of_lt_of_le (lt2 t) (Nat.pow_le_pow_right (by decide) (by omega))) (by rw [h1,h2,h])
section
variable {α:Type} (d:α)
def trG (p:List Bool):Tr α→α :=
 List.rec (motive:=fun _=>Tr α→α) (fun t=>Tr.rec (motive:=fun _=>α) d (fun v _ _ _ _=>v) t)
  (fun b _ ih t=>Tr.rec (motive:=fun _=>α) d (fun _ l r _ _=>ih (Bool.rec (motive:=fun _=>Tr α) l r b)) t) p
def trP (v:α) (p:List Bool):Tr α→Tr α :=
 List.rec (motive:=fun _=>Tr α→Tr α) (fun t=>Tr.rec (motive:=fun _=>Tr α) (.node v .leaf .leaf) (fun _ l r _ _ => .node v l r) t)
  (fun b _ ih t=>Tr.rec (motive:=fun _=>Tr α) (Bool.rec (motive:=fun _=>Tr α) (.node d (ih .leaf) .leaf) (.node d .leaf (ih .leaf)) b)
    (fun x l r _ _=>Bool.rec (motive:=fun _=>Tr α) (.node x (ih l) r) (.node x l (ih r)) b) t) p
theorem trG_leaf:∀ p,trG d p .leaf=d
 | []=>rfl
 | _ :: _=>rfl
theorem trG_same (v:α):∀ (p:List Bool) (t:Tr α),trG d p (trP d v p t)=v
 | [],.leaf=>rfl
 | [],.node _ _ _=>rfl
 | false :: p,.leaf=>trG_same v p .leaf
 | true :: p,.leaf=>trG_same v p .leaf
 | false :: p,.node _ l _=>trG_same v p l
 | true :: p,.node _ _ r=>trG_same v p r
theorem trG_other (v:α):∀ (p q:List Bool) (t:Tr α),p≠q→trG d q (trP d v p t)=trG d q t
 | [],[],t,h=>absurd rfl h
 | [],false :: q,.leaf,_=>by
   show trG d q .leaf=_;rw [trG_leaf];rfl
 | [],true :: q,.leaf,_=>by
   show trG d q .leaf=_;rw [trG_leaf];rfl
 | [],_ :: q,.node _ _ _,_=>rfl
 | false :: p,[],.leaf,_=>rfl
 | true :: p,[],.leaf,_=>rfl
 | false :: p,[],.node _ _ _,_=>rfl
 | true :: p,[],.node _ _ _,_=>rfl
 | false :: p,false :: q,.leaf,h=>by
   have:=trG_other v p q .leaf (fun e=>h (by rw [e]))
   rw [trG_leaf] at this
   exact this
 | true :: p,true :: q,.leaf,h=>by
   have:=trG_other v p q .leaf (fun e=>h (by rw [e]))
   rw [trG_leaf] at this
   exact this
 | false :: p,true :: q,.leaf,_=>by
   show trG d q .leaf=_;rw [trG_leaf];rfl
 | true :: p,false :: q,.leaf,_=>by
   show trG d q .leaf=_;rw [trG_leaf];rfl
 | false :: p,false :: q,.node _ l _,h=>trG_other v p q l (fun e=>h (by rw [e]))
 | true :: p,true :: q,.node _ _ r,h=>trG_other v p q r (fun e=>h (by rw [e]))
 | false :: p,true :: q,.node _ _ _,_=>rfl
 | true :: p,false :: q,.node _ _ _,_=>rfl
end
abbrev Fr:=Tr AV
def tG (T:Fr) (s:Nat):AV:=trG (.d .any) (pathOf s) T
def tP (T:Fr) (d:Option Nat) (v:AV):Fr:=Option.rec (motive:=fun _=>Fr) T (fun d=>trP (.d .any) v (pathOf d) T) d
structure Hp where
 n:Nat
 t:Tr AB
 bx:List (Nat×Nat)
def hN (L:Hp):Nat:=L.n
def hG (L:Hp) (j:Nat):Option AB:=Bool.rec (motive:=fun _=>Option AB) none (some (trG .dead (pathOf j) L.t)) (Nat.blt j L.n)
def hS (L:Hp) (j:Nat) (x:AB):Hp:=⟨L.n,trP .dead x (pathOf j) L.t,L.bx⟩
def psh (L:Hp) (x:AB):Hp:=⟨Nat.succ L.n,trP .dead x (pathOf L.n) L.t,L.bx⟩
def toL (L:Hp):List AB:=(List.range L.n).map fun j=>trG .dead (pathOf j) L.t
theorem toL_len (L:Hp):(toL L).length=L.n:=by simp [toL]
theorem hlt_iff (m n:Nat):Nat.blt m n=true↔m<n:=by simp [Nat.blt,Nat.ble_eq];omega
theorem toL_at (L:Hp) (j:Nat):(toL L)[j]? = hG L j:=by
 unfold toL hG
 rw [List.getElem?_map]
 cases h:Nat.blt j L.n with
 | true =>
   rw [List.getElem?_range ((hlt_iff _ _).1 h)];rfl
 | false =>
   have:¬j<L.n:=fun h2=>by rw [(hlt_iff _ _).2 h2] at h;cases h
   rw [List.getElem?_eq_none (by simpa using this)];rfl
theorem toL_set (L:Hp) (j:Nat) (x:AB):toL (hS L j x)=(toL L).set j x:=by
 refine List.ext_getElem? fun i => ?_
 rw [toL_at,List.getElem?_set,toL_at,toL_len]
 unfold hG
 show (Bool.rec (motive:=fun _=>Option AB) none (some (trG .dead (pathOf i) (trP .dead x (pathOf j) L.t))) (Nat.blt i L.n):Option AB)=_
 cases h:Nat.blt i L.n with
 | true =>
   have hi:=(hlt_iff _ _).1 h
   by_cases e:j=i
   ·subst e
    rw [if_pos rfl,if_pos hi,trG_same]
   ·rw [if_neg e,trG_other _ _ _ _ _ fun e2=>e (pathOf_inj e2)]
 | false =>
   have hi:¬i<L.n:=fun h2=>by rw [(hlt_iff _ _).2 h2] at h;cases h
   by_cases e:j=i
   ·subst e
    rw [if_pos rfl,if_neg hi]
   ·rw [if_neg e]
theorem toL_psh (L:Hp) (x:AB):toL (psh L x)=toL L++[x]:=by
 unfold toL
 show (List.range (L.n+1)).map (fun j=>trG .dead (pathOf j) (trP .dead x (pathOf L.n) L.t))=_
 rw [List.range_succ,List.map_append]
 congr 1
 ·refine List.map_congr_left fun i hi => ?_
  have:=List.mem_range.1 hi
  exact trG_other _ _ _ _ _ fun e2=>by have:=pathOf_inj e2;omega
 ·show [trG .dead (pathOf L.n) (trP .dead x (pathOf L.n) L.t)]=[x]
  rw [trG_same]
end
end Go.Ab
